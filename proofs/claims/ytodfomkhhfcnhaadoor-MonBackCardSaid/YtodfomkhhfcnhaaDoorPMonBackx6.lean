/- The functions that the law reaches, as plain functions of lists and numbers, and that a call of the Go code comes to just their answers; laid by this repo's own program over the seat's translation. Conditions: each contract's own premises. -/
import Derived.Test.YtodfomkhhfcnhaaDoorPMonBackx0
import Derived.Test.YtodfomkhhfcnhaaDoorPMonBackx4
import Derived.Test.YtodfomkhhfcnhaaDoorPMonBackx5
namespace Go.Proofs.YtodfomkhhfcnhaaDoor.PMonBack
open Go.RowKit Go.Proofs.YtodfomkhhfcnhaaDoorW.PrintWords Go.Proofs.YtodfomkhhfcnhaaDoorW.PrintLast Go.Proofs.YtodfomkhhfcnhaaDoorW.PrintMore
attribute [local go_sem] max2_int min2_int max_two min_two max_three min_three max_four min_four   -- for this text's walks alone
set_option linter.unusedVariables false
set_option linter.unusedSimpArgs false

/-! ### mon_Else: function 17 -/
def mon_Else.f (k : Nat) (l0_0 : List Int) (a1_0 : Int) (l1_1 : List (S58)) (a2 : Int) (a3 : Int) (a4 : Int) : Option (Int × (List (S58))) := (mon_Region.f l1_1).bind fun t164 => ((mon_Mon_Pc.f a1_0 l1_1).bind fun t168 => ((lattice_Lat_Leq.f k l0_0 a3 t168).bind fun t169 => (if t169 = true then (some (a1_0, t164)) else ((mon_Mon_Pc.f a1_0 l1_1).bind fun t170 => ((lattice_Lat_Join.f k l0_0 t170 a3).bind fun t171 => (if t164.length < 5864062014805 then (some (a1_0, (t164 ++ [(⟨a2, t171, a4⟩ : S58)]))) else (none)))))))
theorem mon_Else.mono : ∀ a0 a1 a2 a3 a4 a5 k, LeO (mon_Else.f k a0 a1 a2 a3 a4 a5) (mon_Else.f (k + 1) a0 a1 a2 a3 a4 a5) := by
 intro a0 a1 a2 a3 a4 a5 k
 unfold mon_Else.f
 repeat' first
   | (with_reducible exact lattice_Lat_Join.mono _ _ _ _)
   | (with_reducible exact lattice_Lat_Leq.mono _ _ _ _)
   | (with_reducible exact LeO.refl _)
   | (with_reducible exact LeO.none _)
   | (with_reducible refine LeO.ite ?_ ?_)
   | (with_reducible refine LeO.bind ?_ (fun _ => ?_))
   | exact lattice_Lat_Join.mono _ _ _ _
   | exact lattice_Lat_Leq.mono _ _ _ _
   | exact LeO.none _
   | refine LeO.ite ?_ ?_
   | refine LeO.bind ?_ (fun _ => ?_)
def mon_Else.T1 : Bool × List (List Nat × List Nat) := (true, [([], []), ([0], [0]), ([], []), ([2], [2]), ([3], [3]), ([1, 4], [1, 4]), ([], []), ([6, 5, 4, 0, 1, 2, 3, 4, 5, 6], [5, 6])])
def mon_Else.B1 : List Nat := [0, 1, 0, 4, 12, 31, 0, 127]
theorem mon_Else.tab1 : rtab .any (opsOf Tryd.f17 1) = mon_Else.T1 := by kernel_rfl
theorem mon_Else.bits1 : waitsOk mon_Else.T1.2 mon_Else.B1 = true := by kernel_rfl
def mon_Else.T3 : Bool × List (List Nat × List Nat) := (true, [([], []), ([0], [0]), ([], []), ([], []), ([], []), ([4], [4]), ([], []), ([3, 5, 6, 5], [3, 5, 6]), ([], []), ([2, 7, 8], [2, 7, 8]), ([9], [9]), ([1, 10, 7], [1, 10]), ([0, 1, 2, 3, 4, 5, 6, 7, 8, 9, 10, 11], []), ([12, 11, 11, 0, 1, 2, 3, 4, 5, 6, 7, 8, 9, 10, 11], [11, 12])])
def mon_Else.B3 : List Nat := [0, 1, 0, 0, 0, 16, 0, 120, 0, 508, 1020, 2047, 4095, 8191]
theorem mon_Else.tab3 : rtab .any (opsOf Tryd.f17 3) = mon_Else.T3 := by kernel_rfl
theorem mon_Else.bits3 : waitsOk mon_Else.T3.2 mon_Else.B3 = true := by kernel_rfl
set_option maxHeartbeats 8000000 in
set_option maxRecDepth 100000 in
theorem mon_Else.calls (k : Nat) (A0_0 : Option Addr) (c0_0 : Nat) (l0_0 : List Int) (a1_0 : Int) (A1_1 : Option Addr) (c1_1 : Nat) (l1_1 : List (S58)) (a2 : Int) (a3 : Int) (a4 : Int) (r1 : Int) (r2 : List (S58)) (w : World) (hr0_0 : Kd.C (Kd.int .u8) w A0_0 l0_0.length l0_0) (hc0_0 : l0_0.length ≤ c0_0) (hr1_1 : Kd.C k58 w A1_1 l1_1.length l1_1) (hc1_1 : l1_1.length ≤ c1_1) (h : mon_Else.f k l0_0 a1_0 l1_1 a2 a3 a4 = some (r1, r2)) :
  Calls Tryd.prog 17 #[.agg #[.slice A0_0 l0_0.length c0_0], .agg #[.int .i64 a1_0, .slice A1_1 l1_1.length c1_1], .int .i64 a2, .int .i64 a3, .int .i64 a4] w fun e w' => ∃ v1_ : Value, e = .returned (.agg #[.int .i64 r1, v1_]) ∧ Kd.R k58 58 w' w.heap.size (fun _ => True) v1_ r2 ∧ Below w.heap.size w w' := by
 have hu31 := Tryd.underlying31
 have hu34 := Tryd.underlying34
 have hu58 := Tryd.underlying58
 have HR0_0 := Aside0.mk hr0_0
 have HC0_0 := Aside0.mk hc0_0
 clear hr0_0 hc0_0
 have HR1_1 := Aside0.mk hr1_1
 have HC1_1 := Aside0.mk hc1_1
 clear hr1_1 hc1_1
 have HB := Aside0.mk (Below.refl w.heap.size w)
 have H : ((mon_Region.f l1_1).bind fun t164 => ((mon_Mon_Pc.f a1_0 l1_1).bind fun t168 => ((lattice_Lat_Leq.f k l0_0 a3 t168).bind fun t169 => (if t169 = true then (some (a1_0, t164)) else ((mon_Mon_Pc.f a1_0 l1_1).bind fun t170 => ((lattice_Lat_Join.f k l0_0 t170 a3).bind fun t171 => (if t164.length < 5864062014805 then (some (a1_0, (t164 ++ [(⟨a2, t171, a4⟩ : S58)]))) else (none)))))))) = some (r1, r2) := h
 clear h
 replace H := Option.bind_eq_some_iff.mp H
 obtain ⟨t164, A60, H⟩ := H
 replace H : ((mon_Mon_Pc.f a1_0 l1_1).bind fun t168 => ((lattice_Lat_Leq.f k l0_0 a3 t168).bind fun t169 => (if t169 = true then (some (a1_0, t164)) else ((mon_Mon_Pc.f a1_0 l1_1).bind fun t170 => ((lattice_Lat_Join.f k l0_0 t170 a3).bind fun t171 => (if t164.length < 5864062014805 then (some (a1_0, (t164 ++ [(⟨a2, t171, a4⟩ : S58)]))) else (none))))))) = some (r1, r2) := H
 have A6 := Aside0.mk A60
 clear A60
 replace H := Option.bind_eq_some_iff.mp H
 obtain ⟨t168, A70, H⟩ := H
 replace H : ((lattice_Lat_Leq.f k l0_0 a3 t168).bind fun t169 => (if t169 = true then (some (a1_0, t164)) else ((mon_Mon_Pc.f a1_0 l1_1).bind fun t170 => ((lattice_Lat_Join.f k l0_0 t170 a3).bind fun t171 => (if t164.length < 5864062014805 then (some (a1_0, (t164 ++ [(⟨a2, t171, a4⟩ : S58)]))) else (none)))))) = some (r1, r2) := H
 have A7 := Aside0.mk A70
 clear A70
 replace H := Option.bind_eq_some_iff.mp H
 obtain ⟨t169, A80, H⟩ := H
 replace H : (if t169 = true then (some (a1_0, t164)) else ((mon_Mon_Pc.f a1_0 l1_1).bind fun t170 => ((lattice_Lat_Join.f k l0_0 t170 a3).bind fun t171 => (if t164.length < 5864062014805 then (some (a1_0, (t164 ++ [(⟨a2, t171, a4⟩ : S58)]))) else (none))))) = some (r1, r2) := H
 have A8 := Aside0.mk A80
 clear A80
 by_cases c9 : t169 = true
 ·subst c9
  have H1 : (some (a1_0, t164)) = some (r1, r2) := by rw [if_pos rfl] at H; exact H
  clear H
  have H := H1
  clear H1
  simp only [Option.some.injEq, Prod.mk.injEq] at H
  obtain ⟨rfl, rfl⟩ := H
  go_enter Tryd.func17, Tryd.ntmps17
  try simp only [List.append_eq, List.cons_append, List.nil_append]
  try go_wp2_with (first | ((with_reducible refine gate_dst (N := 5) rfl ?_); refine box_event ?hg (N := 5) ?hd (cs := #[.slice A0_0 l0_0.length c0_0]) (t := 31) ?hr ?_; (case hd => rfl); (case hg => rfl); (case hr => first | (go_simp; done) | (go_simp; rfl)); intro gb161 hg w10 hbox hb; have BK161 := Aside0.mk (hbox); have GW161 := Aside0.mk ((by rw [hg]; exact (below_size (uB0 HB)) : w.heap.size ≤ gb161)); have GE161 := Aside0.mk ((by rw [hg]; exact (below_size (uB0 HB)) : w.heap.size ≤ gb161)); replace HB := Aside0.mk (below_step (uB0 HB) hb); clear hb hbox hg) | ((with_reducible refine gate_dst (N := 6) rfl ?_); refine box_event ?hg (N := 6) ?hd (cs := #[.int .i64 a1_0, .slice A1_1 l1_1.length c1_1]) (t := 34) ?hr ?_; (case hd => rfl); (case hg => rfl); (case hr => first | (go_simp; done) | (go_simp; rfl)); intro gb162 hg w11 hbox hb; have BK162 := Aside0.mk (hbox); have GW162 := Aside0.mk ((by rw [hg]; exact (below_size (uB1 HB GE161)) : w.heap.size ≤ gb162)); have GE162 := Aside0.mk ((by rw [hg]; exact (below_size (uB1 HB GE161)) : w.heap.size ≤ gb162)); replace HB := Aside0.mk (below_step (uB1 HB GE161) hb); have NB161_162 := uN1 BK161 hg; have NB162_161 := uN2 BK161 hg; replace BK161 := uD BK161 hb; clear hb hbox hg) | ((with_reducible refine gate_dst (N := 10) rfl ?_); refine box_event ?hg (N := 10) ?hd (cs := #[.int .i64 0, .slice none 0 0]) (t := 34) ?hr ?_; (case hd => rfl); (case hg => rfl); (case hr => first | (go_simp; done) | (go_simp; rfl)); intro gb163 hg w12 hbox hb; have BK163 := Aside0.mk (hbox); have GW163 := Aside0.mk ((by rw [hg]; exact (below_size (uB2 HB GE161 GE162)) : w.heap.size ≤ gb163)); have GE163 := Aside0.mk ((by rw [hg]; exact (below_size (uB2 HB GE161 GE162)) : w.heap.size ≤ gb163)); replace HB := Aside0.mk (below_step (uB2 HB GE161 GE162) hb); have NB161_163 := uN1 BK161 hg; have NB163_161 := uN2 BK161 hg; replace BK161 := uD BK161 hb; have NB162_163 := uN1 BK162 hg; have NB163_162 := uN2 BK162 hg; replace BK162 := uD BK162 hb; clear hb hbox hg))
  replace BK161 := Aside0.mk (blk_drew BK161.out)
  replace BK162 := Aside0.mk (blk_drew BK162.out)
  replace BK163 := Aside0.mk (blk_drew BK163.out)
  replace HB := Aside0.mk (below_drew1 HB.out)
  refine start_ (n := 8) (S := fun w' => w'.cell? ⟨gb162, 0, none⟩ = some (.int .i64 a1_0) ∧ w'.cell? ⟨gb162, 1, none⟩ = some (.slice A1_1 l1_1.length c1_1)) (ds := []) u_f8 (by kernel_rfl) rfl rfl ⟨uF BK162 0, uF BK162 1⟩ (fun hHeld => ?_); refine with_tabW mon_Else.tab1 mon_Else.bits1 (fun HT_ HW_ => ?_)
  generalize w12.drew = w13 at BK161 BK162 BK163 HB hHeld ⊢
  refine uPu 0 12 u_t1f7 (v := ?_) (a' := ?_) rfl rfl HT_ ?_ ?_ ?_
  rotate_left
  ·intro w'
   go_simp
   with_reducible rfl
  rotate_left
  ·exact uP
  refine uPu 2 14 u_t1f1t1f5 (v := ?_) (a' := ?_) rfl rfl HT_ ?_ ?_ ?_
  rotate_left
  ·intro w'
   go_simp
   with_reducible rfl
  rotate_left
  ·exact uP
  refine uTk 1 13 u_t3f5 (v := ?_) (a' := ?_) rfl rfl HT_ HW_ hHeld ?_ ?_ ?_
  rotate_left
  ·rintro w' ⟨s0, s1⟩
   go_simp
   with_reducible rfl
  rotate_left
  ·exact uP
  refine uTk 3 15 u_t4f4 (v := ?_) (a' := ?_) rfl rfl HT_ HW_ hHeld ?_ ?_ ?_
  rotate_left
  ·rintro w' ⟨s0, s1⟩
   go_simp
   with_reducible rfl
  rotate_left
  ·exact uP
  refine join_ (σ := Value × Nat) 1 u_t7f1 (fun s_ => [(16, s_.1), (11, .pointer (some ⟨s_.2, 0, none⟩)), (17, .agg #[.int .i64 a1_0, s_.1])]) (fun s_ w' => (w'.cell? ⟨gb162, 0, none⟩ = some (.int .i64 a1_0) ∧ w'.cell? ⟨gb162, 1, none⟩ = some (.slice A1_1 l1_1.length c1_1)) ∧ (Kd.R k58 58 w' w.heap.size (fun _ => True) s_.1 t164) ∧ (w'.heap[gb161]? = some (.cells #[.slice A0_0 l0_0.length c0_0] 31 (0, 0))) ∧ (w'.heap[gb162]? = some (.cells #[.int .i64 a1_0, .slice A1_1 l1_1.length c1_1] 34 (0, 0))) ∧ (w'.heap[gb163]? = some (.cells #[.int .i64 0, .slice none 0 0] 34 (0, 0))) ∧ (w'.heap[s_.2]? = some (.cells #[.int .i64 0, .slice none 0 0] 34 (0, 0))) ∧ (w.heap.size ≤ s_.2) ∧ (w.heap.size ≤ s_.2) ∧ (gb161 ≠ s_.2) ∧ (s_.2 ≠ gb161) ∧ (gb162 ≠ s_.2) ∧ (s_.2 ≠ gb162) ∧ (gb163 ≠ s_.2) ∧ (s_.2 ≠ gb163) ∧ (Below w.heap.size w w')) ?_ ?_
  rotate_left
  ·intro hCont
   refine two_ (i := 4) (j := 6) (Ni := some 16) (Nj := some 11) u_t5f3 u_t4f2t1f1 rfl rfl rfl rfl (two_of HT_.out (by kernel_rfl)) (by decide) (by decide) (fun K hK => ?_) (fun K hK => ?_)
   ·skip
    refine goes_ Tryd.func34 (by kernel_rfl) rfl #[.slice A1_1 l1_1.length c1_1] (by rfl) rfl rfl uC ?_
    with_reducible refine (mon_Region.calls _ _ l1_1 t164 _ ?side1 ?side2 A6.out).mono ?_
    (case side1 => exact uS (Kd.C_below HR1_1.out HB.out))
    (case side2 => exact HC1_1.out)
    rintro e w14 ⟨v165, rfl, ho0, hb⟩
    refine ⟨_, rfl, ?_⟩
    have HO166 := Aside0.mk (Kd.R_lower ho0 (below_size (uB3 HB GE161 GE162 GE163)))
    replace BK161 := uD BK161 hb
    replace BK162 := uD BK162 hb
    replace BK163 := uD BK163 hb
    replace HB := Aside0.mk (below_step (uB3 HB GE161 GE162 GE163) hb)
    (try clear hb)
    (try clear hb2)
    (try clear hk)
    (try clear hi)
    (try clear ho0)
    obtain ⟨Ao15, co15, eo15⟩ := Kd.R_slice HO166.out
    (first | subst eo15 | (injection eo15 with f1_ f2_ f3_; have f4_ := f1_.symm; have f5_ := f3_.symm; clear f1_ f2_ f3_; subst f4_; subst f5_))
    refine hK.out _ _ ⟨uF BK162 0, uF BK162 1⟩ (fun hHeld => ?_)
    clear hK K
    refine norm_ (a' := ?_) ?_ ?_
    rotate_left
    ·show Act.put _ (some 16) _ = _
     exact uP
    refine uPu 5 17 u_t6f2 (v := ?_) (a' := ?_) rfl rfl HT_ ?_ ?_ ?_
    rotate_left
    ·intro w'
     go_simp
     with_reducible rfl
    rotate_left
    ·exact uP
    refine one_ (i := 6) (N := some 11) u_t7f1 rfl rfl (one_of HT_.out (by kernel_rfl)) (by decide) (fun K hK => ?_)
    refine box_step ?hg (N := 11) ?hd (cs := #[.int .i64 0, .slice none 0 0]) (t := 34) ?hr ?_; (case hd => rfl); (case hg => rfl); (case hr => first | (go_simp; done) | (go_simp; rfl))
    intro gb167 hg w16 hbox hb
    replace HO166 := uRd HO166 hb
    have BK167 := Aside0.mk (hbox)
    have GW167 := Aside0.mk ((by rw [hg]; exact (below_size (uB3 HB GE161 GE162 GE163)) : w.heap.size ≤ gb167))
    have GE167 := Aside0.mk ((by rw [hg]; exact (below_size (uB3 HB GE161 GE162 GE163)) : w.heap.size ≤ gb167))
    replace HB := Aside0.mk (below_step (uB3 HB GE161 GE162 GE163) hb)
    have NB161_167 := uN1 BK161 hg
    have NB167_161 := uN2 BK161 hg
    replace BK161 := uD BK161 hb
    have NB162_167 := uN1 BK162 hg
    have NB167_162 := uN2 BK162 hg
    replace BK162 := uD BK162 hb
    have NB163_167 := uN1 BK163 hg
    have NB167_163 := uN2 BK163 hg
    replace BK163 := uD BK163 hb
    clear hb hbox hg
    refine hK.out _ _ ⟨uF BK162 0, uF BK162 1⟩ (fun hHeld => ?_)
    clear hK K
    refine norm_ (a' := ?_) ?_ ?_
    rotate_left
    ·show Act.put _ (some 11) _ = _
     exact uP
    exact norm_ (by simp only [putAll, Act.put, List.setIfInBounds_toArray, List.set_cons_zero, List.set_cons_succ]) (hCont (.slice Ao15 t164.length co15, gb167) _ ⟨hHeld, (uR HO166), (uK BK161), (uK BK162), (uK BK163), (uK BK167), GW167.out, GE167.out, NB161_167.out, NB167_161.out, NB162_167.out, NB167_162.out, NB163_167.out, NB167_163.out, (uB4 HB GE161 GE162 GE163 GE167)⟩)
   skip
   refine box_step ?hg (N := 11) ?hd (cs := #[.int .i64 0, .slice none 0 0]) (t := 34) ?hr ?_; (case hd => rfl); (case hg => rfl); (case hr => first | (go_simp; done) | (go_simp; rfl))
   intro gb167 hg w14 hbox hb
   have BK167 := Aside0.mk (hbox)
   have GW167 := Aside0.mk ((by rw [hg]; exact (below_size (uB3 HB GE161 GE162 GE163)) : w.heap.size ≤ gb167))
   have GE167 := Aside0.mk ((by rw [hg]; exact (below_size (uB3 HB GE161 GE162 GE163)) : w.heap.size ≤ gb167))
   replace HB := Aside0.mk (below_step (uB3 HB GE161 GE162 GE163) hb)
   have NB161_167 := uN1 BK161 hg
   have NB167_161 := uN2 BK161 hg
   replace BK161 := uD BK161 hb
   have NB162_167 := uN1 BK162 hg
   have NB167_162 := uN2 BK162 hg
   replace BK162 := uD BK162 hb
   have NB163_167 := uN1 BK163 hg
   have NB167_163 := uN2 BK163 hg
   replace BK163 := uD BK163 hb
   clear hb hbox hg
   refine hK.out _ _ ⟨uF BK162 0, uF BK162 1⟩ (fun hHeld => ?_)
   clear hK K
   refine norm_ (a' := ?_) ?_ ?_
   rotate_left
   ·show Act.put _ (some 11) _ = _
    exact uP
   refine one_ (i := 4) (N := some 16) u_t5f1t1f1 rfl rfl (one_of HT_.out (by kernel_rfl)) (by decide) (fun K hK => ?_)
   refine goes_ Tryd.func34 (by kernel_rfl) rfl #[.slice A1_1 l1_1.length c1_1] (by rfl) rfl rfl uC ?_
   with_reducible refine (mon_Region.calls _ _ l1_1 t164 _ ?side1 ?side2 A6.out).mono ?_
   (case side1 => exact uS (Kd.C_below HR1_1.out HB.out))
   (case side2 => exact HC1_1.out)
   rintro e w15 ⟨v165, rfl, ho0, hb⟩
   refine ⟨_, rfl, ?_⟩
   have HO166 := Aside0.mk (Kd.R_lower ho0 (below_size (uB4 HB GE161 GE162 GE163 GE167)))
   replace BK161 := uD BK161 hb
   replace BK162 := uD BK162 hb
   replace BK163 := uD BK163 hb
   replace BK167 := uD BK167 hb
   replace HB := Aside0.mk (below_step (uB4 HB GE161 GE162 GE163 GE167) hb)
   (try clear hb)
   (try clear hb2)
   (try clear hk)
   (try clear hi)
   (try clear ho0)
   obtain ⟨Ao16, co16, eo16⟩ := Kd.R_slice HO166.out
   (first | subst eo16 | (injection eo16 with f1_ f2_ f3_; have f4_ := f1_.symm; have f5_ := f3_.symm; clear f1_ f2_ f3_; subst f4_; subst f5_))
   refine hK.out _ _ ⟨uF BK162 0, uF BK162 1⟩ (fun hHeld => ?_)
   clear hK K
   refine norm_ (a' := ?_) ?_ ?_
   rotate_left
   ·show Act.put _ (some 16) _ = _
    exact uP
   refine uPu 5 17 u_t7f1 (v := ?_) (a' := ?_) rfl rfl HT_ ?_ ?_ ?_
   rotate_left
   ·intro w'
    go_simp
    with_reducible rfl
   rotate_left
   ·exact uP
   exact norm_ (by simp only [putAll, Act.put, List.setIfInBounds_toArray, List.set_cons_zero, List.set_cons_succ]) (hCont (.slice Ao16 t164.length co16, gb167) _ ⟨hHeld, (uR HO166), (uK BK161), (uK BK162), (uK BK163), (uK BK167), GW167.out, GE167.out, NB161_167.out, NB167_161.out, NB162_167.out, NB167_162.out, NB163_167.out, NB167_163.out, (uB4 HB GE161 GE162 GE163 GE167)⟩)
  rintro ⟨v165, gb167⟩ w17 ⟨hS_, h0_, h1_, h2_, h3_, h4_, h5_, h6_, h7_, h8_, h9_, h10_, h11_, h12_, h13_⟩
  have HO166 : Aside0 (Kd.R k58 58 w17 w.heap.size (fun _ => True) v165 t164) := ⟨h0_⟩
  replace BK161 : Aside0 (w17.heap[gb161]? = some (.cells #[.slice A0_0 l0_0.length c0_0] 31 (0, 0))) := ⟨h1_⟩
  replace BK162 : Aside0 (w17.heap[gb162]? = some (.cells #[.int .i64 a1_0, .slice A1_1 l1_1.length c1_1] 34 (0, 0))) := ⟨h2_⟩
  replace BK163 : Aside0 (w17.heap[gb163]? = some (.cells #[.int .i64 0, .slice none 0 0] 34 (0, 0))) := ⟨h3_⟩
  have BK167 : Aside0 (w17.heap[gb167]? = some (.cells #[.int .i64 0, .slice none 0 0] 34 (0, 0))) := ⟨h4_⟩
  have GW167 : Aside0 (w.heap.size ≤ gb167) := ⟨h5_⟩
  have GE167 : Aside0 (w.heap.size ≤ gb167) := ⟨h6_⟩
  have NB161_167 : Aside0 (gb161 ≠ gb167) := ⟨h7_⟩
  have NB167_161 : Aside0 (gb167 ≠ gb161) := ⟨h8_⟩
  have NB162_167 : Aside0 (gb162 ≠ gb167) := ⟨h9_⟩
  have NB167_162 : Aside0 (gb167 ≠ gb162) := ⟨h10_⟩
  have NB163_167 : Aside0 (gb163 ≠ gb167) := ⟨h11_⟩
  have NB167_163 : Aside0 (gb167 ≠ gb163) := ⟨h12_⟩
  replace HB : Aside0 (Below w.heap.size w w17) := ⟨h13_⟩
  clear h0_ h1_ h2_ h3_ h4_ h5_ h6_ h7_ h8_ h9_ h10_ h11_ h12_ h13_
  have hHeld : w17.cell? ⟨gb162, 0, none⟩ = some (.int .i64 a1_0) ∧ w17.cell? ⟨gb162, 1, none⟩ = some (.slice A1_1 l1_1.length c1_1) := hS_
  obtain ⟨Ao18, co18, eo18⟩ := Kd.R_slice HO166.out
  (first | subst eo18 | (injection eo18 with f1_ f2_ f3_; have f4_ := f1_.symm; have f5_ := f3_.symm; clear f1_ f2_ f3_; subst f4_; subst f5_))
  refine norm_ (a' := ?_) ?_ ?_
  rotate_left
  ·simp only [putAll, Act.put, List.setIfInBounds_toArray, List.set_cons_zero, List.set_cons_succ]
   rfl
  refine one_ (i := 7) (N := none) u_t8 rfl rfl (one_of HT_.out (by kernel_rfl)) (by decide) (fun K hK => ?_)
  have hs19 : w17.cell? ⟨gb167, 0, none⟩ = some (.int .i64 0) := uF BK167 0
  have hfs19 := blk_frozen BK167.out 0
  have hns19_0 := NB161_167.out
  have hns19_1 := NB162_167.out
  have hns19_2 := NB163_167.out
  have hms19_0 := NB167_161.out
  have hms19_1 := NB167_162.out
  have hms19_2 := NB167_163.out
  have hs20 : w17.cell? ⟨gb167, 1, none⟩ = some (.slice none 0 0) := uF BK167 1
  have hfs20 := blk_frozen BK167.out 1
  have hns20_0 := NB161_167.out
  have hns20_1 := NB162_167.out
  have hns20_2 := NB163_167.out
  have hms20_0 := NB167_161.out
  have hms20_1 := NB167_162.out
  have hms20_2 := NB167_163.out
  refine skip_ (w1 := ?_) (by rfl) rfl ?_ ?_
  rotate_left
  ·go_simp
   rfl
  refine hK.out _ _ ⟨((cell_far (p := ⟨gb167, _, none⟩) NB162_167.out _).trans (((cell_far (p := ⟨gb167, _, none⟩) NB162_167.out _).trans (hHeld.1)))), ((cell_far (p := ⟨gb167, _, none⟩) NB162_167.out _).trans (((cell_far (p := ⟨gb167, _, none⟩) NB162_167.out _).trans (hHeld.2))))⟩ (fun hHeld => ?_)
  clear hK K
  refine done_ (done_of HT_.out (by kernel_rfl)) ?_
  try go_wp2
  obtain ⟨w21, hW_⟩ : ∃ w_, w_ = ((w17.setCell ⟨gb167, 0, none⟩ (.int .i64 a1_0)).setCell ⟨gb167, 1, none⟩ (.slice Ao18 t164.length co18)) := ⟨_, rfl⟩
  replace HO166 : Aside0 (Kd.R k58 58 w21 w.heap.size (fun _ => True) (.slice Ao18 t164.length co18) t164) := ⟨by rw [hW_]; exact uT2 HO166 BK167 (fun _ hk => trivial)⟩
  replace BK161 := uY BK161 NB161_167 hW_
  replace BK162 := uY BK162 NB162_167 hW_
  replace BK163 := uY BK163 NB163_167 hW_
  replace BK167 : Aside0 (w21.heap[gb167]? = some (.cells #[.int .i64 a1_0, .slice Ao18 t164.length co18] 34 (0, 0))) := ⟨by rw [hW_]; (with_reducible repeat (first | refine blk_drewN ?_ _ | refine blk_drew ?_ | refine blk_alloc ?_ _)); refine blk_put (cs := #[.int .i64 a1_0, .slice none 0 0]) ?_ 1 _ rfl; (with_reducible repeat (first | refine blk_drewN ?_ _ | refine blk_drew ?_ | refine blk_alloc ?_ _)); refine blk_put (cs := #[.int .i64 0, .slice none 0 0]) ?_ 0 _ rfl; (with_reducible repeat (first | refine blk_drewN ?_ _ | refine blk_drew ?_ | refine blk_alloc ?_ _)); exact BK167.out⟩
  replace HB : Aside0 (Below w.heap.size w w21) := ⟨by rw [hW_]; exact uB4 HB GE161 GE162 GE163 GE167⟩
  rw [← hW_]
  clear hW_
  replace HO166 := Aside0.mk (Kd.R_drew HO166.out)
  replace BK161 := Aside0.mk (blk_drew BK161.out)
  replace BK162 := Aside0.mk (blk_drew BK162.out)
  replace BK163 := Aside0.mk (blk_drew BK163.out)
  replace BK167 := Aside0.mk (blk_drew BK167.out)
  replace HB := Aside0.mk (below_drew1 HB.out)
  refine start_ (n := 6) (S := fun w' => w'.cell? ⟨gb161, 0, none⟩ = some (.slice A0_0 l0_0.length c0_0) ∧ w'.cell? ⟨gb162, 0, none⟩ = some (.int .i64 a1_0) ∧ w'.cell? ⟨gb162, 1, none⟩ = some (.slice A1_1 l1_1.length c1_1)) (ds := []) u_f6 (by kernel_rfl) rfl rfl ⟨uF BK161 0, uF BK162 0, uF BK162 1⟩ (fun hHeld => ?_)
  generalize w21.drew = w22 at HO166 BK161 BK162 BK163 BK167 HB hHeld ⊢
  refine pure_ (i := 1) (N := some 19) (v := ?_) (a' := ?_) u_f1t1f4 rfl rfl (by kernel_rfl) (fun _ _ _ h => h) (Or.inl ⟨by rfl, ?_⟩) ?_ ?_
  rotate_left
  ·intro w'
   go_simp
   with_reducible rfl
  rotate_left
  ·exact uP
  refine take_ (i := 0) (N := some 18) (v := ?_) (a' := ?_) u_t2f4 rfl rfl (by kernel_rfl) (fun _ _ _ h => h) (Or.inl ⟨by rfl, ?_⟩) hHeld ?_ ?_
  rotate_left
  ·rintro w' ⟨s0, s1, s2⟩
   go_simp
   with_reducible rfl
  rotate_left
  ·exact uP
  refine take_ (i := 2) (N := some 20) (v := ?_) (a' := ?_) u_t3f3 rfl rfl (by kernel_rfl) (fun _ _ _ h => h) (Or.inl ⟨by rfl, ?_⟩) hHeld ?_ ?_
  rotate_left
  ·rintro w' ⟨s0, s1, s2⟩
   go_simp
   with_reducible rfl
  rotate_left
  ·exact uP
  refine one_ (i := 3) (N := some 21) u_t4f2 rfl rfl (by kernel_rfl) (by decide) (fun K hK => ?_)
  refine goes_ Tryd.func12 (by kernel_rfl) rfl #[.agg #[.int .i64 a1_0, .slice A1_1 l1_1.length c1_1]] (by rfl) rfl rfl uC ?_
  with_reducible refine (mon_Mon_Pc.calls a1_0 _ _ l1_1 t168 _ ?side1 ?side2 A7.out).mono ?_
  (case side1 => exact uS (Kd.C_below HR1_1.out HB.out))
  (case side2 => exact HC1_1.out)
  rintro e w23 ⟨rfl, hb⟩
  refine ⟨_, rfl, ?_⟩
  replace HO166 := uRd HO166 hb
  replace BK161 := uD BK161 hb
  replace BK162 := uD BK162 hb
  replace BK163 := uD BK163 hb
  replace BK167 := uD BK167 hb
  replace HB := Aside0.mk (below_step (uB4 HB GE161 GE162 GE163 GE167) hb)
  (try clear hb)
  (try clear hb2)
  (try clear hk)
  (try clear hi)
  refine hK.out _ _ ⟨uF BK161 0, uF BK162 0, uF BK162 1⟩ (fun hHeld => ?_)
  clear hK K
  refine norm_ (a' := ?_) ?_ ?_
  rotate_left
  ·show Act.put _ (some 21) _ = _
   exact uP
  refine one_ (i := 4) (N := some 22) u_t5f1 rfl rfl (by kernel_rfl) (by decide) (fun K hK => ?_)
  refine goes_ Tryd.func25 (by kernel_rfl) rfl #[.agg #[.slice A0_0 l0_0.length c0_0], .int .i64 a3, .int .i64 t168] (by rfl) rfl rfl uC ?_
  with_reducible refine (lattice_Lat_Leq.calls k _ _ l0_0 a3 t168 true _ ?side1 ?side2 A8.out).mono ?_
  (case side1 => exact uS (Kd.C_below HR0_0.out HB.out))
  (case side2 => exact HC0_0.out)
  rintro e w24 ⟨rfl, hb⟩
  refine ⟨_, rfl, ?_⟩
  replace HO166 := uRd HO166 hb
  replace BK161 := uD BK161 hb
  replace BK162 := uD BK162 hb
  replace BK163 := uD BK163 hb
  replace BK167 := uD BK167 hb
  replace HB := Aside0.mk (below_step (uB4 HB GE161 GE162 GE163 GE167) hb)
  (try clear hb)
  (try clear hb2)
  (try clear hk)
  (try clear hi)
  refine hK.out _ _ ⟨uF BK161 0, uF BK162 0, uF BK162 1⟩ (fun hHeld => ?_)
  clear hK K
  refine norm_ (a' := ?_) ?_ ?_
  rotate_left
  ·show Act.put _ (some 22) _ = _
   exact uP
  refine pure_ (i := 5) (N := some 23) (v := ?_) (a' := ?_) u_t6 rfl rfl (by kernel_rfl) (fun _ _ _ h => h) (Or.inl ⟨by rfl, ?_⟩) ?_ ?_
  rotate_left
  ·intro w'
   go_simp
   with_reducible rfl
  rotate_left
  ·exact uP
  refine done_ (by kernel_rfl) ?_
  have hnb25 := NB167_161.out
  have hnc25 := NB161_167.out
  have hnb26 := NB167_162.out
  have hnc26 := NB162_167.out
  have hnb27 := NB167_163.out
  have hnc27 := NB163_167.out
  have hcz28_0 : w24.cell? ⟨gb167, 0, none⟩ = some (.int .i64 a1_0) := uF BK167 0
  have hcz28_1 : w24.cell? ⟨gb167, 1, none⟩ = some (.slice Ao18 t164.length co18) := uF BK167 1
  have hfz28_0 := blk_frozen BK167.out 0
  have hfz28_1 := blk_frozen BK167.out 1
  have hnb29 := NB163_161.out
  have hnc29 := NB161_163.out
  have hnb30 := NB163_162.out
  have hnc30 := NB162_163.out
  have hcz31_0 : w24.cell? ⟨gb163, 0, none⟩ = some (.int .i64 0) := uF BK163 0
  have hcz31_1 : w24.cell? ⟨gb163, 1, none⟩ = some (.slice none 0 0) := uF BK163 1
  have hfz31_0 := blk_frozen BK163.out 0
  have hfz31_1 := blk_frozen BK163.out 1
  try go_wp2
  refine bodyPost_ret (results_cell_row rfl _ _ gb163 34 #[.int .i64 a1_0, .slice Ao18 t164.length co18] (0, 0) _ rfl (by (with_reducible repeat (first | refine blk_drewN ?_ _ | refine blk_drew ?_ | refine blk_alloc ?_ _)); refine blk_put (cs := #[.int .i64 a1_0, .slice none 0 0]) ?_ 1 _ rfl; (with_reducible repeat (first | refine blk_drewN ?_ _ | refine blk_drew ?_ | refine blk_alloc ?_ _)); refine blk_put (cs := #[.int .i64 0, .slice none 0 0]) ?_ 0 _ rfl; (with_reducible repeat (first | refine blk_drewN ?_ _ | refine blk_drew ?_ | refine blk_alloc ?_ _)); exact BK163.out) Tryd.underlying34 rfl (by kernel_rfl)) rfl ?_
  exact ⟨_, by first | rfl | (simp [errW_none, errW_some] <;> rfl) | (simp [*, errW_none, errW_some] <;> rfl), by (with_reducible repeat (first | apply Kd.R_alloc | apply Kd.R_drewN | apply Kd.R_drew)); exact Kd.R_mono (Kd.R_far (p := ⟨gb163, 1, none⟩) (Kd.R_far (p := ⟨gb163, 0, none⟩) (Kd.R_types HO166.out BK163.out (by decide)) (fun _ hk => hk.2) (.int .i64 a1_0)) (fun _ hk => hk.2) (.slice Ao18 t164.length co18)) (fun _ hk => trivial), uB4 HB GE161 GE162 GE163 GE167⟩
 replace c9 := Bool.eq_false_iff.mpr c9
 subst c9
 have H1 : ((mon_Mon_Pc.f a1_0 l1_1).bind fun t170 => ((lattice_Lat_Join.f k l0_0 t170 a3).bind fun t171 => (if t164.length < 5864062014805 then (some (a1_0, (t164 ++ [(⟨a2, t171, a4⟩ : S58)]))) else (none)))) = some (r1, r2) := by rw [if_neg (show ¬ (false = true) by decide)] at H; exact H
 clear H
 have H := H1
 clear H1
 replace H := Option.bind_eq_some_iff.mp H
 obtain ⟨t170, A320, H⟩ := H
 replace H : ((lattice_Lat_Join.f k l0_0 t170 a3).bind fun t171 => (if t164.length < 5864062014805 then (some (a1_0, (t164 ++ [(⟨a2, t171, a4⟩ : S58)]))) else (none))) = some (r1, r2) := H
 have A32 := Aside0.mk A320
 clear A320
 replace H := Option.bind_eq_some_iff.mp H
 obtain ⟨t171, A330, H⟩ := H
 replace H : (if t164.length < 5864062014805 then (some (a1_0, (t164 ++ [(⟨a2, t171, a4⟩ : S58)]))) else (none)) = some (r1, r2) := H
 have A33 := Aside0.mk A330
 clear A330
 by_cases c34 : t164.length < 5864062014805
 ·rw [if_pos c34] at H
  have LMc34 := Aside0.mk c34
  clear c34
  obtain ⟨y172, hy172⟩ : ∃ y_ : List (S58), y_ = (t164 ++ [(⟨a2, t171, a4⟩ : S58)]) := ⟨_, rfl⟩
  replace H : (some (a1_0, y172)) = some (r1, r2) := by first | (rw [hy172]; with_reducible exact H) | (have H2_ := (Option.bind_some _ _).symm.trans H; rw [hy172]; with_reducible exact H2_) | (have H2_ := (Option.bind_some _ _).symm.trans H; with_reducible exact H2_) | with_reducible exact H | (rw [hy172]; exact H) | exact H
  have Ny172 := Aside0.mk hy172
  clear hy172
  simp only [Option.some.injEq, Prod.mk.injEq] at H
  obtain ⟨rfl, rfl⟩ := H
  go_enter Tryd.func17, Tryd.ntmps17
  try simp only [List.append_eq, List.cons_append, List.nil_append]
  try go_wp2_with (first | ((with_reducible refine gate_dst (N := 5) rfl ?_); refine box_event ?hg (N := 5) ?hd (cs := #[.slice A0_0 l0_0.length c0_0]) (t := 31) ?hr ?_; (case hd => rfl); (case hg => rfl); (case hr => first | (go_simp; done) | (go_simp; rfl)); intro gb161 hg w35 hbox hb; have BK161 := Aside0.mk (hbox); have GW161 := Aside0.mk ((by rw [hg]; exact (below_size (uB0 HB)) : w.heap.size ≤ gb161)); have GE161 := Aside0.mk ((by rw [hg]; exact (below_size (uB0 HB)) : w.heap.size ≤ gb161)); replace HB := Aside0.mk (below_step (uB0 HB) hb); clear hb hbox hg) | ((with_reducible refine gate_dst (N := 6) rfl ?_); refine box_event ?hg (N := 6) ?hd (cs := #[.int .i64 a1_0, .slice A1_1 l1_1.length c1_1]) (t := 34) ?hr ?_; (case hd => rfl); (case hg => rfl); (case hr => first | (go_simp; done) | (go_simp; rfl)); intro gb162 hg w36 hbox hb; have BK162 := Aside0.mk (hbox); have GW162 := Aside0.mk ((by rw [hg]; exact (below_size (uB1 HB GE161)) : w.heap.size ≤ gb162)); have GE162 := Aside0.mk ((by rw [hg]; exact (below_size (uB1 HB GE161)) : w.heap.size ≤ gb162)); replace HB := Aside0.mk (below_step (uB1 HB GE161) hb); have NB161_162 := uN1 BK161 hg; have NB162_161 := uN2 BK161 hg; replace BK161 := uD BK161 hb; clear hb hbox hg) | ((with_reducible refine gate_dst (N := 10) rfl ?_); refine box_event ?hg (N := 10) ?hd (cs := #[.int .i64 0, .slice none 0 0]) (t := 34) ?hr ?_; (case hd => rfl); (case hg => rfl); (case hr => first | (go_simp; done) | (go_simp; rfl)); intro gb163 hg w37 hbox hb; have BK163 := Aside0.mk (hbox); have GW163 := Aside0.mk ((by rw [hg]; exact (below_size (uB2 HB GE161 GE162)) : w.heap.size ≤ gb163)); have GE163 := Aside0.mk ((by rw [hg]; exact (below_size (uB2 HB GE161 GE162)) : w.heap.size ≤ gb163)); replace HB := Aside0.mk (below_step (uB2 HB GE161 GE162) hb); have NB161_163 := uN1 BK161 hg; have NB163_161 := uN2 BK161 hg; replace BK161 := uD BK161 hb; have NB162_163 := uN1 BK162 hg; have NB163_162 := uN2 BK162 hg; replace BK162 := uD BK162 hb; clear hb hbox hg))
  replace BK161 := Aside0.mk (blk_drew BK161.out)
  replace BK162 := Aside0.mk (blk_drew BK162.out)
  replace BK163 := Aside0.mk (blk_drew BK163.out)
  replace HB := Aside0.mk (below_drew1 HB.out)
  refine start_ (n := 8) (S := fun w' => w'.cell? ⟨gb162, 0, none⟩ = some (.int .i64 a1_0) ∧ w'.cell? ⟨gb162, 1, none⟩ = some (.slice A1_1 l1_1.length c1_1)) (ds := []) u_f8 (by kernel_rfl) rfl rfl ⟨uF BK162 0, uF BK162 1⟩ (fun hHeld => ?_); refine with_tabW mon_Else.tab1 mon_Else.bits1 (fun HT_ HW_ => ?_)
  generalize w37.drew = w38 at BK161 BK162 BK163 HB hHeld ⊢
  refine uPu 0 12 u_t1f7 (v := ?_) (a' := ?_) rfl rfl HT_ ?_ ?_ ?_
  rotate_left
  ·intro w'
   go_simp
   with_reducible rfl
  rotate_left
  ·exact uP
  refine uPu 2 14 u_t1f1t1f5 (v := ?_) (a' := ?_) rfl rfl HT_ ?_ ?_ ?_
  rotate_left
  ·intro w'
   go_simp
   with_reducible rfl
  rotate_left
  ·exact uP
  refine uTk 1 13 u_t3f5 (v := ?_) (a' := ?_) rfl rfl HT_ HW_ hHeld ?_ ?_ ?_
  rotate_left
  ·rintro w' ⟨s0, s1⟩
   go_simp
   with_reducible rfl
  rotate_left
  ·exact uP
  refine uTk 3 15 u_t4f4 (v := ?_) (a' := ?_) rfl rfl HT_ HW_ hHeld ?_ ?_ ?_
  rotate_left
  ·rintro w' ⟨s0, s1⟩
   go_simp
   with_reducible rfl
  rotate_left
  ·exact uP
  refine join_ (σ := Value × Nat) 1 u_t7f1 (fun s_ => [(16, s_.1), (11, .pointer (some ⟨s_.2, 0, none⟩)), (17, .agg #[.int .i64 a1_0, s_.1])]) (fun s_ w' => (w'.cell? ⟨gb162, 0, none⟩ = some (.int .i64 a1_0) ∧ w'.cell? ⟨gb162, 1, none⟩ = some (.slice A1_1 l1_1.length c1_1)) ∧ (Kd.R k58 58 w' w.heap.size (fun _ => True) s_.1 t164) ∧ (w'.heap[gb161]? = some (.cells #[.slice A0_0 l0_0.length c0_0] 31 (0, 0))) ∧ (w'.heap[gb162]? = some (.cells #[.int .i64 a1_0, .slice A1_1 l1_1.length c1_1] 34 (0, 0))) ∧ (w'.heap[gb163]? = some (.cells #[.int .i64 0, .slice none 0 0] 34 (0, 0))) ∧ (w'.heap[s_.2]? = some (.cells #[.int .i64 0, .slice none 0 0] 34 (0, 0))) ∧ (w.heap.size ≤ s_.2) ∧ (w.heap.size ≤ s_.2) ∧ (gb161 ≠ s_.2) ∧ (s_.2 ≠ gb161) ∧ (gb162 ≠ s_.2) ∧ (s_.2 ≠ gb162) ∧ (gb163 ≠ s_.2) ∧ (s_.2 ≠ gb163) ∧ (Below w.heap.size w w')) ?_ ?_
  rotate_left
  ·intro hCont
   refine two_ (i := 4) (j := 6) (Ni := some 16) (Nj := some 11) u_t5f3 u_t4f2t1f1 rfl rfl rfl rfl (two_of HT_.out (by kernel_rfl)) (by decide) (by decide) (fun K hK => ?_) (fun K hK => ?_)
   ·skip
    refine goes_ Tryd.func34 (by kernel_rfl) rfl #[.slice A1_1 l1_1.length c1_1] (by rfl) rfl rfl uC ?_
    with_reducible refine (mon_Region.calls _ _ l1_1 t164 _ ?side1 ?side2 A6.out).mono ?_
    (case side1 => exact uS (Kd.C_below HR1_1.out HB.out))
    (case side2 => exact HC1_1.out)
    rintro e w39 ⟨v165, rfl, ho0, hb⟩
    refine ⟨_, rfl, ?_⟩
    have HO166 := Aside0.mk (Kd.R_lower ho0 (below_size (uB3 HB GE161 GE162 GE163)))
    replace BK161 := uD BK161 hb
    replace BK162 := uD BK162 hb
    replace BK163 := uD BK163 hb
    replace HB := Aside0.mk (below_step (uB3 HB GE161 GE162 GE163) hb)
    (try clear hb)
    (try clear hb2)
    (try clear hk)
    (try clear hi)
    (try clear ho0)
    obtain ⟨Ao40, co40, eo40⟩ := Kd.R_slice HO166.out
    (first | subst eo40 | (injection eo40 with f1_ f2_ f3_; have f4_ := f1_.symm; have f5_ := f3_.symm; clear f1_ f2_ f3_; subst f4_; subst f5_))
    refine hK.out _ _ ⟨uF BK162 0, uF BK162 1⟩ (fun hHeld => ?_)
    clear hK K
    refine norm_ (a' := ?_) ?_ ?_
    rotate_left
    ·show Act.put _ (some 16) _ = _
     exact uP
    refine uPu 5 17 u_t6f2 (v := ?_) (a' := ?_) rfl rfl HT_ ?_ ?_ ?_
    rotate_left
    ·intro w'
     go_simp
     with_reducible rfl
    rotate_left
    ·exact uP
    refine one_ (i := 6) (N := some 11) u_t7f1 rfl rfl (one_of HT_.out (by kernel_rfl)) (by decide) (fun K hK => ?_)
    refine box_step ?hg (N := 11) ?hd (cs := #[.int .i64 0, .slice none 0 0]) (t := 34) ?hr ?_; (case hd => rfl); (case hg => rfl); (case hr => first | (go_simp; done) | (go_simp; rfl))
    intro gb167 hg w41 hbox hb
    replace HO166 := uRd HO166 hb
    have BK167 := Aside0.mk (hbox)
    have GW167 := Aside0.mk ((by rw [hg]; exact (below_size (uB3 HB GE161 GE162 GE163)) : w.heap.size ≤ gb167))
    have GE167 := Aside0.mk ((by rw [hg]; exact (below_size (uB3 HB GE161 GE162 GE163)) : w.heap.size ≤ gb167))
    replace HB := Aside0.mk (below_step (uB3 HB GE161 GE162 GE163) hb)
    have NB161_167 := uN1 BK161 hg
    have NB167_161 := uN2 BK161 hg
    replace BK161 := uD BK161 hb
    have NB162_167 := uN1 BK162 hg
    have NB167_162 := uN2 BK162 hg
    replace BK162 := uD BK162 hb
    have NB163_167 := uN1 BK163 hg
    have NB167_163 := uN2 BK163 hg
    replace BK163 := uD BK163 hb
    clear hb hbox hg
    refine hK.out _ _ ⟨uF BK162 0, uF BK162 1⟩ (fun hHeld => ?_)
    clear hK K
    refine norm_ (a' := ?_) ?_ ?_
    rotate_left
    ·show Act.put _ (some 11) _ = _
     exact uP
    exact norm_ (by simp only [putAll, Act.put, List.setIfInBounds_toArray, List.set_cons_zero, List.set_cons_succ]) (hCont (.slice Ao40 t164.length co40, gb167) _ ⟨hHeld, (uR HO166), (uK BK161), (uK BK162), (uK BK163), (uK BK167), GW167.out, GE167.out, NB161_167.out, NB167_161.out, NB162_167.out, NB167_162.out, NB163_167.out, NB167_163.out, (uB4 HB GE161 GE162 GE163 GE167)⟩)
   skip
   refine box_step ?hg (N := 11) ?hd (cs := #[.int .i64 0, .slice none 0 0]) (t := 34) ?hr ?_; (case hd => rfl); (case hg => rfl); (case hr => first | (go_simp; done) | (go_simp; rfl))
   intro gb167 hg w39 hbox hb
   have BK167 := Aside0.mk (hbox)
   have GW167 := Aside0.mk ((by rw [hg]; exact (below_size (uB3 HB GE161 GE162 GE163)) : w.heap.size ≤ gb167))
   have GE167 := Aside0.mk ((by rw [hg]; exact (below_size (uB3 HB GE161 GE162 GE163)) : w.heap.size ≤ gb167))
   replace HB := Aside0.mk (below_step (uB3 HB GE161 GE162 GE163) hb)
   have NB161_167 := uN1 BK161 hg
   have NB167_161 := uN2 BK161 hg
   replace BK161 := uD BK161 hb
   have NB162_167 := uN1 BK162 hg
   have NB167_162 := uN2 BK162 hg
   replace BK162 := uD BK162 hb
   have NB163_167 := uN1 BK163 hg
   have NB167_163 := uN2 BK163 hg
   replace BK163 := uD BK163 hb
   clear hb hbox hg
   refine hK.out _ _ ⟨uF BK162 0, uF BK162 1⟩ (fun hHeld => ?_)
   clear hK K
   refine norm_ (a' := ?_) ?_ ?_
   rotate_left
   ·show Act.put _ (some 11) _ = _
    exact uP
   refine one_ (i := 4) (N := some 16) u_t5f1t1f1 rfl rfl (one_of HT_.out (by kernel_rfl)) (by decide) (fun K hK => ?_)
   refine goes_ Tryd.func34 (by kernel_rfl) rfl #[.slice A1_1 l1_1.length c1_1] (by rfl) rfl rfl uC ?_
   with_reducible refine (mon_Region.calls _ _ l1_1 t164 _ ?side1 ?side2 A6.out).mono ?_
   (case side1 => exact uS (Kd.C_below HR1_1.out HB.out))
   (case side2 => exact HC1_1.out)
   rintro e w40 ⟨v165, rfl, ho0, hb⟩
   refine ⟨_, rfl, ?_⟩
   have HO166 := Aside0.mk (Kd.R_lower ho0 (below_size (uB4 HB GE161 GE162 GE163 GE167)))
   replace BK161 := uD BK161 hb
   replace BK162 := uD BK162 hb
   replace BK163 := uD BK163 hb
   replace BK167 := uD BK167 hb
   replace HB := Aside0.mk (below_step (uB4 HB GE161 GE162 GE163 GE167) hb)
   (try clear hb)
   (try clear hb2)
   (try clear hk)
   (try clear hi)
   (try clear ho0)
   obtain ⟨Ao41, co41, eo41⟩ := Kd.R_slice HO166.out
   (first | subst eo41 | (injection eo41 with f1_ f2_ f3_; have f4_ := f1_.symm; have f5_ := f3_.symm; clear f1_ f2_ f3_; subst f4_; subst f5_))
   refine hK.out _ _ ⟨uF BK162 0, uF BK162 1⟩ (fun hHeld => ?_)
   clear hK K
   refine norm_ (a' := ?_) ?_ ?_
   rotate_left
   ·show Act.put _ (some 16) _ = _
    exact uP
   refine uPu 5 17 u_t7f1 (v := ?_) (a' := ?_) rfl rfl HT_ ?_ ?_ ?_
   rotate_left
   ·intro w'
    go_simp
    with_reducible rfl
   rotate_left
   ·exact uP
   exact norm_ (by simp only [putAll, Act.put, List.setIfInBounds_toArray, List.set_cons_zero, List.set_cons_succ]) (hCont (.slice Ao41 t164.length co41, gb167) _ ⟨hHeld, (uR HO166), (uK BK161), (uK BK162), (uK BK163), (uK BK167), GW167.out, GE167.out, NB161_167.out, NB167_161.out, NB162_167.out, NB167_162.out, NB163_167.out, NB167_163.out, (uB4 HB GE161 GE162 GE163 GE167)⟩)
  rintro ⟨v165, gb167⟩ w42 ⟨hS_, h0_, h1_, h2_, h3_, h4_, h5_, h6_, h7_, h8_, h9_, h10_, h11_, h12_, h13_⟩
  have HO166 : Aside0 (Kd.R k58 58 w42 w.heap.size (fun _ => True) v165 t164) := ⟨h0_⟩
  replace BK161 : Aside0 (w42.heap[gb161]? = some (.cells #[.slice A0_0 l0_0.length c0_0] 31 (0, 0))) := ⟨h1_⟩
  replace BK162 : Aside0 (w42.heap[gb162]? = some (.cells #[.int .i64 a1_0, .slice A1_1 l1_1.length c1_1] 34 (0, 0))) := ⟨h2_⟩
  replace BK163 : Aside0 (w42.heap[gb163]? = some (.cells #[.int .i64 0, .slice none 0 0] 34 (0, 0))) := ⟨h3_⟩
  have BK167 : Aside0 (w42.heap[gb167]? = some (.cells #[.int .i64 0, .slice none 0 0] 34 (0, 0))) := ⟨h4_⟩
  have GW167 : Aside0 (w.heap.size ≤ gb167) := ⟨h5_⟩
  have GE167 : Aside0 (w.heap.size ≤ gb167) := ⟨h6_⟩
  have NB161_167 : Aside0 (gb161 ≠ gb167) := ⟨h7_⟩
  have NB167_161 : Aside0 (gb167 ≠ gb161) := ⟨h8_⟩
  have NB162_167 : Aside0 (gb162 ≠ gb167) := ⟨h9_⟩
  have NB167_162 : Aside0 (gb167 ≠ gb162) := ⟨h10_⟩
  have NB163_167 : Aside0 (gb163 ≠ gb167) := ⟨h11_⟩
  have NB167_163 : Aside0 (gb167 ≠ gb163) := ⟨h12_⟩
  replace HB : Aside0 (Below w.heap.size w w42) := ⟨h13_⟩
  clear h0_ h1_ h2_ h3_ h4_ h5_ h6_ h7_ h8_ h9_ h10_ h11_ h12_ h13_
  have hHeld : w42.cell? ⟨gb162, 0, none⟩ = some (.int .i64 a1_0) ∧ w42.cell? ⟨gb162, 1, none⟩ = some (.slice A1_1 l1_1.length c1_1) := hS_
  obtain ⟨Ao43, co43, eo43⟩ := Kd.R_slice HO166.out
  (first | subst eo43 | (injection eo43 with f1_ f2_ f3_; have f4_ := f1_.symm; have f5_ := f3_.symm; clear f1_ f2_ f3_; subst f4_; subst f5_))
  refine norm_ (a' := ?_) ?_ ?_
  rotate_left
  ·simp only [putAll, Act.put, List.setIfInBounds_toArray, List.set_cons_zero, List.set_cons_succ]
   rfl
  refine one_ (i := 7) (N := none) u_t8 rfl rfl (one_of HT_.out (by kernel_rfl)) (by decide) (fun K hK => ?_)
  have hs44 : w42.cell? ⟨gb167, 0, none⟩ = some (.int .i64 0) := uF BK167 0
  have hfs44 := blk_frozen BK167.out 0
  have hns44_0 := NB161_167.out
  have hns44_1 := NB162_167.out
  have hns44_2 := NB163_167.out
  have hms44_0 := NB167_161.out
  have hms44_1 := NB167_162.out
  have hms44_2 := NB167_163.out
  have hs45 : w42.cell? ⟨gb167, 1, none⟩ = some (.slice none 0 0) := uF BK167 1
  have hfs45 := blk_frozen BK167.out 1
  have hns45_0 := NB161_167.out
  have hns45_1 := NB162_167.out
  have hns45_2 := NB163_167.out
  have hms45_0 := NB167_161.out
  have hms45_1 := NB167_162.out
  have hms45_2 := NB167_163.out
  refine skip_ (w1 := ?_) (by rfl) rfl ?_ ?_
  rotate_left
  ·go_simp
   rfl
  refine hK.out _ _ ⟨((cell_far (p := ⟨gb167, _, none⟩) NB162_167.out _).trans (((cell_far (p := ⟨gb167, _, none⟩) NB162_167.out _).trans (hHeld.1)))), ((cell_far (p := ⟨gb167, _, none⟩) NB162_167.out _).trans (((cell_far (p := ⟨gb167, _, none⟩) NB162_167.out _).trans (hHeld.2))))⟩ (fun hHeld => ?_)
  clear hK K
  refine done_ (done_of HT_.out (by kernel_rfl)) ?_
  try go_wp2
  obtain ⟨w46, hW_⟩ : ∃ w_, w_ = ((w42.setCell ⟨gb167, 0, none⟩ (.int .i64 a1_0)).setCell ⟨gb167, 1, none⟩ (.slice Ao43 t164.length co43)) := ⟨_, rfl⟩
  replace HO166 : Aside0 (Kd.R k58 58 w46 w.heap.size (fun _ => True) (.slice Ao43 t164.length co43) t164) := ⟨by rw [hW_]; exact uT2 HO166 BK167 (fun _ hk => trivial)⟩
  replace BK161 := uY BK161 NB161_167 hW_
  replace BK162 := uY BK162 NB162_167 hW_
  replace BK163 := uY BK163 NB163_167 hW_
  replace BK167 : Aside0 (w46.heap[gb167]? = some (.cells #[.int .i64 a1_0, .slice Ao43 t164.length co43] 34 (0, 0))) := ⟨by rw [hW_]; (with_reducible repeat (first | refine blk_drewN ?_ _ | refine blk_drew ?_ | refine blk_alloc ?_ _)); refine blk_put (cs := #[.int .i64 a1_0, .slice none 0 0]) ?_ 1 _ rfl; (with_reducible repeat (first | refine blk_drewN ?_ _ | refine blk_drew ?_ | refine blk_alloc ?_ _)); refine blk_put (cs := #[.int .i64 0, .slice none 0 0]) ?_ 0 _ rfl; (with_reducible repeat (first | refine blk_drewN ?_ _ | refine blk_drew ?_ | refine blk_alloc ?_ _)); exact BK167.out⟩
  replace HB : Aside0 (Below w.heap.size w w46) := ⟨by rw [hW_]; exact uB4 HB GE161 GE162 GE163 GE167⟩
  rw [← hW_]
  clear hW_
  replace HO166 := Aside0.mk (Kd.R_drew HO166.out)
  replace BK161 := Aside0.mk (blk_drew BK161.out)
  replace BK162 := Aside0.mk (blk_drew BK162.out)
  replace BK163 := Aside0.mk (blk_drew BK163.out)
  replace BK167 := Aside0.mk (blk_drew BK167.out)
  replace HB := Aside0.mk (below_drew1 HB.out)
  refine start_ (n := 6) (S := fun w' => w'.cell? ⟨gb161, 0, none⟩ = some (.slice A0_0 l0_0.length c0_0) ∧ w'.cell? ⟨gb162, 0, none⟩ = some (.int .i64 a1_0) ∧ w'.cell? ⟨gb162, 1, none⟩ = some (.slice A1_1 l1_1.length c1_1)) (ds := []) u_f6 (by kernel_rfl) rfl rfl ⟨uF BK161 0, uF BK162 0, uF BK162 1⟩ (fun hHeld => ?_)
  generalize w46.drew = w47 at HO166 BK161 BK162 BK163 BK167 HB hHeld ⊢
  refine pure_ (i := 1) (N := some 19) (v := ?_) (a' := ?_) u_f1t1f4 rfl rfl (by kernel_rfl) (fun _ _ _ h => h) (Or.inl ⟨by rfl, ?_⟩) ?_ ?_
  rotate_left
  ·intro w'
   go_simp
   with_reducible rfl
  rotate_left
  ·exact uP
  refine take_ (i := 0) (N := some 18) (v := ?_) (a' := ?_) u_t2f4 rfl rfl (by kernel_rfl) (fun _ _ _ h => h) (Or.inl ⟨by rfl, ?_⟩) hHeld ?_ ?_
  rotate_left
  ·rintro w' ⟨s0, s1, s2⟩
   go_simp
   with_reducible rfl
  rotate_left
  ·exact uP
  refine take_ (i := 2) (N := some 20) (v := ?_) (a' := ?_) u_t3f3 rfl rfl (by kernel_rfl) (fun _ _ _ h => h) (Or.inl ⟨by rfl, ?_⟩) hHeld ?_ ?_
  rotate_left
  ·rintro w' ⟨s0, s1, s2⟩
   go_simp
   with_reducible rfl
  rotate_left
  ·exact uP
  refine one_ (i := 3) (N := some 21) u_t4f2 rfl rfl (by kernel_rfl) (by decide) (fun K hK => ?_)
  refine goes_ Tryd.func12 (by kernel_rfl) rfl #[.agg #[.int .i64 a1_0, .slice A1_1 l1_1.length c1_1]] (by rfl) rfl rfl uC ?_
  with_reducible refine (mon_Mon_Pc.calls a1_0 _ _ l1_1 t168 _ ?side1 ?side2 A7.out).mono ?_
  (case side1 => exact uS (Kd.C_below HR1_1.out HB.out))
  (case side2 => exact HC1_1.out)
  rintro e w48 ⟨rfl, hb⟩
  refine ⟨_, rfl, ?_⟩
  replace HO166 := uRd HO166 hb
  replace BK161 := uD BK161 hb
  replace BK162 := uD BK162 hb
  replace BK163 := uD BK163 hb
  replace BK167 := uD BK167 hb
  replace HB := Aside0.mk (below_step (uB4 HB GE161 GE162 GE163 GE167) hb)
  (try clear hb)
  (try clear hb2)
  (try clear hk)
  (try clear hi)
  refine hK.out _ _ ⟨uF BK161 0, uF BK162 0, uF BK162 1⟩ (fun hHeld => ?_)
  clear hK K
  refine norm_ (a' := ?_) ?_ ?_
  rotate_left
  ·show Act.put _ (some 21) _ = _
   exact uP
  refine one_ (i := 4) (N := some 22) u_t5f1 rfl rfl (by kernel_rfl) (by decide) (fun K hK => ?_)
  refine goes_ Tryd.func25 (by kernel_rfl) rfl #[.agg #[.slice A0_0 l0_0.length c0_0], .int .i64 a3, .int .i64 t168] (by rfl) rfl rfl uC ?_
  with_reducible refine (lattice_Lat_Leq.calls k _ _ l0_0 a3 t168 false _ ?side1 ?side2 A8.out).mono ?_
  (case side1 => exact uS (Kd.C_below HR0_0.out HB.out))
  (case side2 => exact HC0_0.out)
  rintro e w49 ⟨rfl, hb⟩
  refine ⟨_, rfl, ?_⟩
  replace HO166 := uRd HO166 hb
  replace BK161 := uD BK161 hb
  replace BK162 := uD BK162 hb
  replace BK163 := uD BK163 hb
  replace BK167 := uD BK167 hb
  replace HB := Aside0.mk (below_step (uB4 HB GE161 GE162 GE163 GE167) hb)
  (try clear hb)
  (try clear hb2)
  (try clear hk)
  (try clear hi)
  refine hK.out _ _ ⟨uF BK161 0, uF BK162 0, uF BK162 1⟩ (fun hHeld => ?_)
  clear hK K
  refine norm_ (a' := ?_) ?_ ?_
  rotate_left
  ·show Act.put _ (some 22) _ = _
   exact uP
  refine pure_ (i := 5) (N := some 23) (v := ?_) (a' := ?_) u_t6 rfl rfl (by kernel_rfl) (fun _ _ _ h => h) (Or.inl ⟨by rfl, ?_⟩) ?_ ?_
  rotate_left
  ·intro w'
   go_simp
   with_reducible rfl
  rotate_left
  ·exact uP
  refine done_ (by kernel_rfl) ?_
  try go_wp2
  replace HO166 := Aside0.mk (Kd.R_drew HO166.out)
  replace BK161 := Aside0.mk (blk_drew BK161.out)
  replace BK162 := Aside0.mk (blk_drew BK162.out)
  replace BK163 := Aside0.mk (blk_drew BK163.out)
  replace BK167 := Aside0.mk (blk_drew BK167.out)
  replace HB := Aside0.mk (below_drew1 HB.out)
  refine start_ (n := 14) (S := fun w' => w'.cell? ⟨gb167, 0, none⟩ = some (.int .i64 a1_0) ∧ w'.cell? ⟨gb167, 1, none⟩ = some (.slice Ao43 t164.length co43) ∧ w'.cell? ⟨gb161, 0, none⟩ = some (.slice A0_0 l0_0.length c0_0) ∧ w'.cell? ⟨gb162, 0, none⟩ = some (.int .i64 a1_0) ∧ w'.cell? ⟨gb162, 1, none⟩ = some (.slice A1_1 l1_1.length c1_1)) (ds := [13]) u_f14 (by kernel_rfl) rfl rfl ⟨uF BK167 0, uF BK167 1, uF BK161 0, uF BK162 0, uF BK162 1⟩ (fun hHeld => ?_); refine with_tabW mon_Else.tab3 mon_Else.bits3 (fun HT_ HW_ => ?_)
  generalize w49.drew = w50 at HO166 BK161 BK162 BK163 BK167 HB hHeld ⊢
  refine uPu 0 24 u_t1f13 (v := ?_) (a' := ?_) rfl rfl HT_ ?_ ?_ ?_
  rotate_left
  ·intro w'
   go_simp
   with_reducible rfl
  rotate_left
  ·exact uP
  refine uPu 2 26 u_t1f1t1f11 (v := ?_) (a' := ?_) rfl rfl HT_ ?_ ?_ ?_
  rotate_left
  ·intro w'
   go_simp
   with_reducible rfl
  rotate_left
  ·exact uP
  refine uPu 6 30 u_t1f1t1f3t1f7 (v := ?_) (a' := ?_) rfl rfl HT_ ?_ ?_ ?_
  rotate_left
  ·intro w'
   go_simp
   with_reducible rfl
  rotate_left
  ·exact uP
  refine uPu 8 32 u_t1f1t1f3t1f1t1f5 (v := ?_) (a' := ?_) rfl rfl HT_ ?_ ?_ ?_
  rotate_left
  ·intro w'
   go_simp
   with_reducible rfl
  rotate_left
  ·exact uP
  refine uTk 1 25 u_t3f3t1f1t1f5 (v := ?_) (a' := ?_) rfl rfl HT_ HW_ hHeld ?_ ?_ ?_
  rotate_left
  ·rintro w' ⟨s0, s1, s2, s3, s4⟩
   go_simp
   with_reducible rfl
  rotate_left
  ·exact uP
  refine uTk 3 27 u_t4f2t1f1t1f5 (v := ?_) (a' := ?_) rfl rfl HT_ HW_ hHeld ?_ ?_ ?_
  rotate_left
  ·rintro w' ⟨s0, s1, s2, s3, s4⟩
   go_simp
   with_reducible rfl
  rotate_left
  ·exact uP
  refine uTk 4 28 u_t5f1t1f1t1f5 (v := ?_) (a' := ?_) rfl rfl HT_ HW_ hHeld ?_ ?_ ?_
  rotate_left
  ·rintro w' ⟨s0, s1, s2, s3, s4⟩
   go_simp
   with_reducible rfl
  rotate_left
  ·exact uP
  refine one_ (i := 5) (N := some 29) u_t7f1t1f5 rfl rfl (one_of HT_.out (by kernel_rfl)) (by decide) (fun K hK => ?_)
  refine goes_ Tryd.func12 (by kernel_rfl) rfl #[.agg #[.int .i64 a1_0, .slice A1_1 l1_1.length c1_1]] (by rfl) rfl rfl uC ?_
  with_reducible refine (mon_Mon_Pc.calls a1_0 _ _ l1_1 t170 _ ?side1 ?side2 A32.out).mono ?_
  (case side1 => exact uS (Kd.C_below HR1_1.out HB.out))
  (case side2 => exact HC1_1.out)
  rintro e w51 ⟨rfl, hb⟩
  refine ⟨_, rfl, ?_⟩
  replace HO166 := uRd HO166 hb
  replace BK161 := uD BK161 hb
  replace BK162 := uD BK162 hb
  replace BK163 := uD BK163 hb
  replace BK167 := uD BK167 hb
  replace HB := Aside0.mk (below_step (uB4 HB GE161 GE162 GE163 GE167) hb)
  (try clear hb)
  (try clear hb2)
  (try clear hk)
  (try clear hi)
  refine hK.out _ _ ⟨uF BK167 0, uF BK167 1, uF BK161 0, uF BK162 0, uF BK162 1⟩ (fun hHeld => ?_)
  clear hK K
  refine norm_ (a' := ?_) ?_ ?_
  rotate_left
  ·show Act.put _ (some 29) _ = _
   exact uP
  refine one_ (i := 7) (N := some 31) u_t9f5 rfl rfl (one_of HT_.out (by kernel_rfl)) (by decide) (fun K hK => ?_)
  refine goes_ Tryd.func32 (by kernel_rfl) rfl #[.agg #[.slice A0_0 l0_0.length c0_0], .int .i64 t170, .int .i64 a3] (by rfl) rfl rfl uC ?_
  with_reducible refine (lattice_Lat_Join.calls k _ _ l0_0 t170 a3 t171 _ ?side1 ?side2 A33.out).mono ?_
  (case side1 => exact uS (Kd.C_below HR0_0.out HB.out))
  (case side2 => exact HC0_0.out)
  rintro e w52 ⟨rfl, hb⟩
  refine ⟨_, rfl, ?_⟩
  replace HO166 := uRd HO166 hb
  replace BK161 := uD BK161 hb
  replace BK162 := uD BK162 hb
  replace BK163 := uD BK163 hb
  replace BK167 := uD BK167 hb
  replace HB := Aside0.mk (below_step (uB4 HB GE161 GE162 GE163 GE167) hb)
  (try clear hb)
  (try clear hb2)
  (try clear hk)
  (try clear hi)
  refine hK.out _ _ ⟨uF BK167 0, uF BK167 1, uF BK161 0, uF BK162 0, uF BK162 1⟩ (fun hHeld => ?_)
  clear hK K
  refine norm_ (a' := ?_) ?_ ?_
  rotate_left
  ·show Act.put _ (some 31) _ = _
   exact uP
  refine uPu 9 33 u_t10f4 (v := ?_) (a' := ?_) rfl rfl HT_ ?_ ?_ ?_
  rotate_left
  ·intro w'
   go_simp
   with_reducible rfl
  rotate_left
  ·exact uP
  refine one_ (i := 10) (N := some 34) u_t11f3 rfl rfl (one_of HT_.out (by kernel_rfl)) (by decide) (fun K hK => ?_)
  refine value_ (w1 := ?_) (v := ?_) (by rfl) rfl ?_ ?_
  rotate_left 2
  ·go_simp
   constructor
   ·rfl
   rfl
  refine hK.out _ _ ⟨(blk_cell (blk_alloc BK167.out _) 0).trans rfl, (blk_cell (blk_alloc BK167.out _) 1).trans rfl, (blk_cell (blk_alloc BK161.out _) 0).trans rfl, (blk_cell (blk_alloc BK162.out _) 0).trans rfl, (blk_cell (blk_alloc BK162.out _) 1).trans rfl⟩ (fun hHeld => ?_)
  clear hK K
  refine norm_ (a' := ?_) ?_ ?_
  rotate_left
  ·show Act.put _ (some 34) _ = _
   exact uP
  refine one_ (i := 11) (N := some 35) u_t12f2 rfl rfl (one_of HT_.out (by kernel_rfl)) (by decide) (fun K hK => ?_)
  refine Kd.R_append_step k58 (w0 := w) w.heap.size (by rfl) (.tmp 25) (.tmp 34) 32 58 (.agg #[(.int .i64 0), (.int .i64 0), (.int .i64 0)]) 24 rfl Tryd.underlying32 info58 rfl (by decide) (by omega) (.slice Ao43 t164.length co43) t164 (⟨a2, t171, a4⟩ : S58) [.int .i64 a2, .int .i64 t171, .int .i64 a4] (fun _ => True) (fun _ => False) rfl rfl ?aP (fun _ hk => hk.elim) ?aF ?aO ?aB ?aS ?aL ?_
  (case aP => exact k58_mkM _ _ _ (⟨a2, t171, a4⟩ : S58))
  (case aB => exact (uB4 HB GE161 GE162 GE163 GE167))
  (case aF => exact (fun _ _ => trivial))
  (case aO => exact (uR HO166))
  (case aS => exact (below_size (uB4 HB GE161 GE162 GE163 GE167)))
  (case aL => have := LMc34.out; omega)
  intro v173 w53 ho hb hg hat
  rw [← Ny172.out] at ho
  replace BK161 := Aside0.mk (blk_grown (g := gb161) (o := .cells #[.slice A0_0 l0_0.length c0_0] 31 (0, 0)) (uK BK161) hg (Kd.R_ne HO166.out BK161.out (by decide)))
  replace BK162 := Aside0.mk (blk_grown (g := gb162) (o := .cells #[.int .i64 a1_0, .slice A1_1 l1_1.length c1_1] 34 (0, 0)) (uK BK162) hg (Kd.R_ne HO166.out BK162.out (by decide)))
  replace BK163 := Aside0.mk (blk_grown (g := gb163) (o := .cells #[.int .i64 0, .slice none 0 0] 34 (0, 0)) (uK BK163) hg (Kd.R_ne HO166.out BK163.out (by decide)))
  replace BK167 := Aside0.mk (blk_grown (g := gb167) (o := .cells #[.int .i64 a1_0, .slice Ao43 t164.length co43] 34 (0, 0)) (uK BK167) hg (Kd.R_ne HO166.out BK167.out (by decide)))
  replace HB := Aside0.mk (hb)
  have HO174 := Aside0.mk (ho)
  clear HO166
  clear ho hb hg hat
  obtain ⟨Ao54, co54, eo54⟩ := Kd.R_slice HO174.out
  (first | subst eo54 | (injection eo54 with f1_ f2_ f3_; have f4_ := f1_.symm; have f5_ := f3_.symm; clear f1_ f2_ f3_; subst f4_; subst f5_))
  refine hK.out _ _ ⟨uF BK167 0, uF BK167 1, uF BK161 0, uF BK162 0, uF BK162 1⟩ (fun hHeld => ?_)
  clear hK K
  refine norm_ (a' := ?_) ?_ ?_
  rotate_left
  ·show Act.put _ (some 35) _ = _
   exact uP
  refine uPu 12 36 u_t13f1 (v := ?_) (a' := ?_) rfl rfl HT_ ?_ ?_ ?_
  rotate_left
  ·intro w'
   go_simp
   with_reducible rfl
  rotate_left
  ·exact uP
  refine last_ (i := 13) (N := none) u_t14 rfl rfl (one_of HT_.out (by kernel_rfl)) (by decide) (fun K hK => ?_)
  have hs55 : w53.cell? ⟨gb167, 1, none⟩ = some (.slice Ao43 t164.length co43) := uF BK167 1
  have hfs55 := blk_frozen BK167.out 1
  have hns55_0 := NB161_167.out
  have hns55_1 := NB162_167.out
  have hns55_2 := NB163_167.out
  have hms55_0 := NB167_161.out
  have hms55_1 := NB167_162.out
  have hms55_2 := NB167_163.out
  refine skip_ (w1 := ?_) (by rfl) rfl ?_ ?_
  rotate_left
  ·go_simp
   rfl
  refine hK.out _ _ ?_
  clear hK K
  refine done_ (done_of HT_.out (by kernel_rfl)) ?_
  have hnb56 := NB167_161.out
  have hnc56 := NB161_167.out
  have hnb57 := NB167_162.out
  have hnc57 := NB162_167.out
  have hnb58 := NB167_163.out
  have hnc58 := NB163_167.out
  have hcz59_0 : w53.cell? ⟨gb167, 0, none⟩ = some (.int .i64 a1_0) := uF BK167 0
  have hcz59_1 : w53.cell? ⟨gb167, 1, none⟩ = some (.slice Ao43 t164.length co43) := uF BK167 1
  have hfz59_0 := blk_frozen BK167.out 0
  have hfz59_1 := blk_frozen BK167.out 1
  have hnb60 := NB163_161.out
  have hnc60 := NB161_163.out
  have hnb61 := NB163_162.out
  have hnc61 := NB162_163.out
  have hcz62_0 : w53.cell? ⟨gb163, 0, none⟩ = some (.int .i64 0) := uF BK163 0
  have hcz62_1 : w53.cell? ⟨gb163, 1, none⟩ = some (.slice none 0 0) := uF BK163 1
  have hfz62_0 := blk_frozen BK163.out 0
  have hfz62_1 := blk_frozen BK163.out 1
  try go_wp2
  refine bodyPost_ret (results_cell_row rfl _ _ gb163 34 #[.int .i64 a1_0, .slice Ao54 y172.length co54] (0, 0) _ rfl (by (with_reducible repeat (first | refine blk_drewN ?_ _ | refine blk_drew ?_ | refine blk_alloc ?_ _)); refine blk_put (cs := #[.int .i64 a1_0, .slice none 0 0]) ?_ 1 _ rfl; (with_reducible repeat (first | refine blk_drewN ?_ _ | refine blk_drew ?_ | refine blk_alloc ?_ _)); refine blk_put (cs := #[.int .i64 0, .slice none 0 0]) ?_ 0 _ rfl; (with_reducible repeat (first | refine blk_drewN ?_ _ | refine blk_drew ?_ | refine blk_alloc ?_ _)); refine blk_far ?_ NB163_167.out _; (with_reducible repeat (first | refine blk_drewN ?_ _ | refine blk_drew ?_ | refine blk_alloc ?_ _)); exact BK163.out) Tryd.underlying34 rfl (by kernel_rfl)) rfl ?_
  exact ⟨_, by first | rfl | (simp [errW_none, errW_some] <;> rfl) | (simp [*, errW_none, errW_some] <;> rfl), by (with_reducible repeat (first | apply Kd.R_alloc | apply Kd.R_drewN | apply Kd.R_drew)); exact Kd.R_mono (Kd.R_far (p := ⟨gb163, 1, none⟩) (Kd.R_far (p := ⟨gb163, 0, none⟩) (Kd.R_far (p := ⟨gb167, 1, none⟩) (Kd.R_types (Kd.R_types HO174.out BK167.out (by decide)) BK163.out (by decide)) (fun _ hk => hk.1.2) (.slice Ao54 y172.length co54)) (fun _ hk => hk.2) (.int .i64 a1_0)) (fun _ hk => hk.2) (.slice Ao54 y172.length co54)) (fun _ hk => trivial), uB4 HB GE161 GE162 GE163 GE167⟩
 rw [if_neg c34] at H
 exact absurd H (by simp)

end Go.Proofs.YtodfomkhhfcnhaaDoor.PMonBack
