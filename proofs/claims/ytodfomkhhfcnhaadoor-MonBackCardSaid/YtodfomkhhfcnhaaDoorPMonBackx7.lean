/- The functions that the law reaches, as plain functions of lists and numbers, and that a call of the Go code comes to just their answers; laid by this repo's own program over the seat's translation. Conditions: each contract's own premises. -/
import Derived.Test.YtodfomkhhfcnhaaDoorPMonBackx0
import Derived.Test.YtodfomkhhfcnhaaDoorPMonBackx2
import Derived.Test.YtodfomkhhfcnhaaDoorPMonBackx4
import Derived.Test.YtodfomkhhfcnhaaDoorPMonBackx5
import Derived.Test.YtodfomkhhfcnhaaDoorPMonBackx6
namespace Go.Proofs.YtodfomkhhfcnhaaDoor.PMonBack
open Go.RowKit Go.Proofs.YtodfomkhhfcnhaaDoorW.PrintWords Go.Proofs.YtodfomkhhfcnhaaDoorW.PrintLast Go.Proofs.YtodfomkhhfcnhaaDoorW.PrintMore
attribute [local go_sem] max2_int min2_int max_two min_two max_three min_three max_four min_four   -- for this text's walks alone
set_option linter.unusedVariables false
set_option linter.unusedSimpArgs false

/-! ### mon_Join: function 19 -/
def mon_Join.l0 : Nat → Int → Int → Int → List (S58) → Option (Int × (List (S58)))
 | 0, _, _, _, _ => none
 | k + 1, x1, x5, x176000, x176001 => if x5 > 0 then (if 0 ≤ (wrap64 (x5 - 1)) then (if (wrap64 (x5 - 1)) < (x176001.length : Int) then (if ((rd_T58 x176001 (wrap64 (x5 - 1))).f0) = x1 then (mon_Join.l0 k x1 (wrap64 (x5 - 1)) x176000 x176001) else (if x5 ≤ (x176001.length : Int) then ((mon_Region.f (x176001.take (x5 : Int).toNat)).bind fun t182 => (some (x176000, t182))) else (none))) else (none)) else (none)) else (if 0 ≤ x5 then (if x5 ≤ (x176001.length : Int) then ((mon_Region.f (x176001.take (x5 : Int).toNat)).bind fun t189 => (some (x176000, t189))) else (none)) else (none))
def mon_Join.f (k : Nat) (a0_0 : Int) (l0_1 : List (S58)) (a1 : Int) : Option (Int × (List (S58))) := mon_Join.l0 k a1 (l0_1.length : Int) a0_0 l0_1
theorem mon_Join.mono_l : ∀ k, (∀ y0 y1 y2 y3, LeO (mon_Join.l0 k y0 y1 y2 y3) (mon_Join.l0 (k + 1) y0 y1 y2 y3))
 | 0 => fun _ _ _ _ r h => by simp [mon_Join.l0] at h
 | k + 1 => by
  have ih0 := mon_Join.mono_l k
  intro y0 y1 y2 y3
  unfold mon_Join.l0
  repeat' first
  | (with_reducible exact ih0 _ _ _ _)
  | (with_reducible exact LeO.refl _)
  | (with_reducible exact LeO.none _)
  | (with_reducible refine LeO.ite ?_ ?_)
  | (with_reducible refine LeO.bind ?_ (fun _ => ?_))
  | exact ih0 _ _ _ _
  | exact LeO.none _
  | refine LeO.ite ?_ ?_
  | refine LeO.bind ?_ (fun _ => ?_)
theorem mon_Join.mono : ∀ a0 a1 a2 k, LeO (mon_Join.f k a0 a1 a2) (mon_Join.f (k + 1) a0 a1 a2) := by
 intro a0 a1 a2 k
 have ih0 := mon_Join.mono_l k
 unfold mon_Join.f
 repeat' first
   | (with_reducible exact ih0 _ _ _ _)
   | (with_reducible exact LeO.refl _)
   | (with_reducible exact LeO.none _)
   | (with_reducible refine LeO.ite ?_ ?_)
   | (with_reducible refine LeO.bind ?_ (fun _ => ?_))
   | exact ih0 _ _ _ _
   | exact LeO.none _
   | refine LeO.ite ?_ ?_
   | refine LeO.bind ?_ (fun _ => ?_)
def mon_Join.T4 : Bool × List (List Nat × List Nat) := (true, [([], []), ([0], [0]), ([], []), ([2], [2]), ([], []), ([3, 4], [3, 4]), ([5], [5]), ([1, 6], [1, 6]), ([7, 6, 0, 1, 2, 3, 4, 5, 6, 7], [7])])
def mon_Join.B4 : List Nat := [0, 1, 0, 4, 0, 28, 60, 127, 255]
theorem mon_Join.tab4 : rtab .any (opsOf Tryd.f19 4) = mon_Join.T4 := by kernel_rfl
theorem mon_Join.bits4 : waitsOk mon_Join.T4.2 mon_Join.B4 = true := by kernel_rfl
set_option maxHeartbeats 8000000 in
set_option maxRecDepth 100000 in
theorem mon_Join.calls (k : Nat) (a0_0 : Int) (A0_1 : Option Addr) (c0_1 : Nat) (l0_1 : List (S58)) (a1 : Int) (r1 : Int) (r2 : List (S58)) (w : World) (hr0_1 : Kd.C k58 w A0_1 l0_1.length l0_1) (hc0_1 : l0_1.length ≤ c0_1) (h : mon_Join.f k a0_0 l0_1 a1 = some (r1, r2)) :
  Calls Tryd.prog 19 #[.agg #[.int .i64 a0_0, .slice A0_1 l0_1.length c0_1], .int .i64 a1] w fun e w' => ∃ v1_ : Value, e = .returned (.agg #[.int .i64 r1, v1_]) ∧ Kd.R k58 58 w' w.heap.size (fun _ => True) v1_ r2 ∧ Below w.heap.size w w' := by
 have hu34 := Tryd.underlying34
 have HR0_1 := Aside0.mk hr0_1
 have HC0_1 := Aside0.mk hc0_1
 clear hr0_1 hc0_1
 have HB := Aside0.mk (Below.refl w.heap.size w)
 have H : (mon_Join.l0 k a1 (l0_1.length : Int) a0_0 l0_1) = some (r1, r2) := h
 clear h
 have H' := Aside0.mk H
 clear H
 go_enter Tryd.func19, Tryd.ntmps19
 go_wp2_with (first | ((with_reducible refine gate_dst (N := 2) rfl ?_); refine box_event ?hg (N := 2) ?hd (cs := #[.int .i64 a0_0, .slice A0_1 l0_1.length c0_1]) (t := 34) ?hr ?_; (case hd => rfl); (case hg => rfl); (case hr => first | (go_simp; done) | (go_simp; rfl)); intro gb175 hg w3 hbox hb; have BK175 := Aside0.mk (hbox); have GW175 := Aside0.mk ((by rw [hg]; exact (below_size (uB0 HB)) : w.heap.size ≤ gb175)); have GE175 := Aside0.mk ((by rw [hg]; exact (below_size (uB0 HB)) : w.heap.size ≤ gb175)); replace HB := Aside0.mk (below_step (uB0 HB) hb); clear hb hbox hg) | ((with_reducible refine gate_dst (N := 4) rfl ?_); refine box_event ?hg (N := 4) ?hd (cs := #[.int .i64 0, .slice none 0 0]) (t := 34) ?hr ?_; (case hd => rfl); (case hg => rfl); (case hr => first | (go_simp; done) | (go_simp; rfl)); intro gb176 hg w4 hbox hb; have BK176 := Aside0.mk (hbox); have GW176 := Aside0.mk ((by rw [hg]; exact (below_size (uB1 HB GE175)) : w.heap.size ≤ gb176)); have GE176 := Aside0.mk ((by rw [hg]; exact (below_size (uB1 HB GE175)) : w.heap.size ≤ gb176)); replace HB := Aside0.mk (below_step (uB1 HB GE175) hb); have NB175_176 := uN1 BK175 hg; have NB176_175 := uN2 BK175 hg; replace BK175 := uD BK175 hb; clear hb hbox hg; have hnb5 := NB175_176.out; have hnc5 := NB176_175.out; have hcz6_0 : w4.cell? ⟨gb175, 0, none⟩ = some (.int .i64 a0_0) := uF BK175 0; have hcz6_1 : w4.cell? ⟨gb175, 1, none⟩ = some (.slice A0_1 l0_1.length c0_1) := uF BK175 1; have hfz6_0 := blk_frozen BK175.out 0; have hfz6_1 := blk_frozen BK175.out 1))
 go_loopg [5] k (fun kq v5 w' => ∃ (x5_1 : Int), v5 = .int .i64 x5_1 ∧ Aside0 (mon_Join.l0 kq a1 x5_1 a0_0 l0_1 = some (r1, r2)) ∧ Aside0 (kq ≤ k) ∧ Aside0 (w'.heap[gb175]? = some (.cells #[.int .i64 a0_0, (.slice A0_1 l0_1.length c0_1)] 34 (0, 0))) ∧ Aside0 (w'.heap[gb176]? = some (.cells #[.int .i64 0, (.slice none 0 0)] 34 (0, 0))) ∧ Aside0 (Below w.heap.size w w'))
 case atStart => exact ⟨((l0_1.length : Int)), (by first | rfl | (simp; done) | (simp [*]; done)), H', ⟨Nat.le_refl _⟩, ⟨uK BK175⟩, ⟨uK BK176⟩, ⟨uB2 HB GE175 GE176⟩⟩
 case round =>
 clear H'
 try clear c1
 try clear p2
 try clear c5
 try clear hcz6_0
 try clear hcz6_1
 try clear hfz6_0
 try clear hfz6_1
 obtain ⟨x5_1, rfl, HA, HK1, BK175, BK176, HB⟩ := hrel
 cases gk with
 | zero => exact absurd HA.out (by simp [mon_Join.l0])
 | succ k1 =>
 have H := HA.out
 clear HA
 simp only [mon_Join.l0] at H
 by_cases c7 : x5_1 > 0
 ·rw [if_pos c7] at H
  have c7b0 : decide (0 < x5_1) = true := decide_eq_true c7
  clear c7
  obtain ⟨ji8, hji8⟩ : ∃ j_ : Int, (wrap64 (x5_1 - 1)) = j_ := ⟨_, rfl⟩
  replace H : (if 0 ≤ (ji8) then (if (ji8) < (l0_1.length : Int) then (if ((rd_T58 l0_1 (ji8)).f0) = a1 then (mon_Join.l0 k1 a1 ji8 a0_0 l0_1) else (if x5_1 ≤ (l0_1.length : Int) then ((mon_Region.f (l0_1.take (x5_1 : Int).toNat)).bind fun t182 => (some (a0_0, t182))) else (none))) else (none)) else (none)) = some (r1, r2) := by first | (rw [hji8] at H; exact H) | (simp only [hji8] at H ⊢; exact H)
  have hji8w : (IntKind.i64.wrap (x5_1 - 1)) = ji8 := (i64_w _).trans hji8
  by_cases c9 : 0 ≤ (ji8)
  ·rw [if_pos c9] at H
   have c9b0 : decide (0 ≤ (ji8)) = true := decide_eq_true c9
   clear c9
   by_cases c10 : (ji8) < (l0_1.length : Int)
   ·rw [if_pos c10] at H
    have c10b0 : decide ((ji8) < (l0_1.length : Int)) = true := decide_eq_true c10
    clear c10
    by_cases c11 : ((rd_T58 l0_1 (ji8)).f0) = a1
    ·rw [if_pos c11] at H
     have c11b0 : (((rd_T58 l0_1 (ji8)).f0) == a1) = true := beq_iff_eq.mpr c11
     have c11b1 : (((rd_T58 l0_1 (ji8)).f0) != a1) = false := bne_eq_false_iff_eq.mpr c11
     clear c11
     have H' := Aside0.mk H
     clear H
     have hnb12 := NB175_176.out
     have hnc12 := NB176_175.out
     have hcz13_0 : wr.cell? ⟨gb175, 0, none⟩ = some (.int .i64 a0_0) := uF BK175 0
     have hcz13_1 : wr.cell? ⟨gb175, 1, none⟩ = some (.slice A0_1 l0_1.length c0_1) := uF BK175 1
     have hfz13_0 := blk_frozen BK175.out 0
     have hfz13_1 := blk_frozen BK175.out 1
     have p177 : 0 ≤ ((ji8) : Int) := of_decide_eq_true (by first | (with_reducible assumption) | assumption)
     have q177 : (ji8) < (l0_1.length : Int) := of_decide_eq_true (by first | (with_reducible assumption) | assumption)
     obtain ⟨ad177, e177, hx177_0, hx177_1, hx177_2⟩ := at_T58 HR0_1.out (ji8) p177 q177
     cases e177
     replace hx177_0 := (HB.out.cell (World.block_lt_of_cell? w _ hx177_0)).trans hx177_0
     replace hx177_1 := (HB.out.cell (World.block_lt_of_cell? w _ hx177_1)).trans hx177_1
     replace hx177_2 := (HB.out.cell (World.block_lt_of_cell? w _ hx177_2)).trans hx177_2
     replace p177 := eq_true p177
     replace q177 := eq_true q177
     go_wp2
     go_roundg k1
     case measure => have := HK1.out; omega
     case rel => exact ⟨(ji8), (by first | rfl | (simp; done) | (simp only [← hji8] <;> (first | rfl | simp)) | (simp [*]; done)), H', ⟨by have := HK1.out; omega⟩, ⟨uK BK175⟩, ⟨uK BK176⟩, ⟨uB2 HB GE175 GE176⟩⟩
    rw [if_neg c11] at H
    have c11b0 : (((rd_T58 l0_1 (ji8)).f0) == a1) = false := beq_eq_false_iff_ne.mpr c11
    have c11b1 : (((rd_T58 l0_1 (ji8)).f0) != a1) = true := bne_iff_ne.mpr c11
    have c14 : 0 ≤ x5_1 := by (have g0_ : 0 < x5_1 := of_decide_eq_true (by first | (with_reducible assumption) | assumption); omega)
    have c14b0 : decide (0 ≤ x5_1) = true := decide_eq_true c14
    clear c14
    by_cases c15 : x5_1 ≤ (l0_1.length : Int)
    ·rw [if_pos c15] at H
     have c15b0 := eq_true c15
     have c15b1 : decide (x5_1 ≤ (l0_1.length : Int)) = true := decide_eq_true c15
     clear c15
     obtain ⟨y178, hy178⟩ : ∃ y_ : List (S58), y_ = (l0_1.take (x5_1 : Int).toNat) := ⟨_, rfl⟩
     replace H : ((mon_Region.f y178).bind fun t182 => (some (a0_0, t182))) = some (r1, r2) := by first | (rw [hy178]; with_reducible exact H) | (have H2_ := (Option.bind_some _ _).symm.trans H; rw [hy178]; with_reducible exact H2_) | (have H2_ := (Option.bind_some _ _).symm.trans H; with_reducible exact H2_) | with_reducible exact H | (rw [hy178]; exact H) | exact H
     have Ny178 := Aside0.mk hy178
     clear hy178
     replace H := Option.bind_eq_some_iff.mp H
     obtain ⟨t182, A160, H⟩ := H
     replace H : (some (a0_0, t182)) = some (r1, r2) := H
     have A16 := Aside0.mk A160
     clear A160
     simp only [Option.some.injEq, Prod.mk.injEq] at H
     obtain ⟨rfl, rfl⟩ := H
     have hnb17 := NB175_176.out
     have hnc17 := NB176_175.out
     have hcz18_0 : wr.cell? ⟨gb175, 0, none⟩ = some (.int .i64 a0_0) := uF BK175 0
     have hcz18_1 : wr.cell? ⟨gb175, 1, none⟩ = some (.slice A0_1 l0_1.length c0_1) := uF BK175 1
     have hfz18_0 := blk_frozen BK175.out 0
     have hfz18_1 := blk_frozen BK175.out 1
     have p177 : 0 ≤ ((ji8) : Int) := of_decide_eq_true (by first | (with_reducible assumption) | assumption)
     have q177 : (ji8) < (l0_1.length : Int) := of_decide_eq_true (by first | (with_reducible assumption) | assumption)
     obtain ⟨ad177, e177, hx177_0, hx177_1, hx177_2⟩ := at_T58 HR0_1.out (ji8) p177 q177
     cases e177
     replace hx177_0 := (HB.out.cell (World.block_lt_of_cell? w _ hx177_0)).trans hx177_0
     replace hx177_1 := (HB.out.cell (World.block_lt_of_cell? w _ hx177_1)).trans hx177_1
     replace hx177_2 := (HB.out.cell (World.block_lt_of_cell? w _ hx177_2)).trans hx177_2
     replace p177 := eq_true p177
     replace q177 := eq_true q177
     try go_wp2
     replace BK175 := Aside0.mk (blk_drew BK175.out)
     replace BK176 := Aside0.mk (blk_drew BK176.out)
     replace HB := Aside0.mk (below_drew1 HB.out)
     have q20 : (x5_1 : Int) ≤ ((l0_1.length : Int) : Int) := of_decide_eq_true (by first | (with_reducible assumption) | assumption)
     obtain ⟨i020, hi020, _, hsz20, _⟩ := info_parts info58
     have hroom20 : l0_1.length ≤ c0_1 := HC0_1.out
     have hC20 : Kd.C k58 _ (some ad177) l0_1.length l0_1 := HR0_1.out
     have hcut20 := cut_to (P := Tryd.prog) 32 58 .i64 Tryd.underlying32 hi020 (some ad177) l0_1.length c0_1 x5_1 (of_decide_eq_true (by first | (with_reducible assumption) | assumption)) q20 hroom20
     have hr20 := Kd.C_take (m := (x5_1 : Int).toNat) hC20 (by omega)
     have hy20 : y178.length = (x5_1 : Int).toNat := (by rw [Ny178.out, List.length_take]; omega)
     rw [← Ny178.out] at hr20
     rw [← hy20] at hcut20
     have HR181 := Aside0.mk hr20
     have HC181 := Aside0.mk (show y178.length ≤ c0_1 from by omega)
     clear hr20 hC20 hroom20 hi020 hsz20
     have KY20 := Aside0.mk hy20
     clear hy20
     replace q20 := eq_true q20
     refine start_ (n := 9) (S := fun w' => w'.cell? ⟨gb175, 0, none⟩ = some (.int .i64 a0_0) ∧ w'.cell? ⟨gb175, 1, none⟩ = some (.slice (some ad177) l0_1.length c0_1)) (ds := []) u_f9 (by kernel_rfl) rfl rfl ⟨uF BK175 0, uF BK175 1⟩ (fun hHeld => ?_); refine with_tabW mon_Join.tab4 mon_Join.bits4 (fun HT_ HW_ => ?_)
     generalize wr.drew = w19 at BK175 BK176 HB HR181 hHeld ⊢
     refine uPu 0 24 u_t1f8 (v := ?_) (a' := ?_) rfl rfl HT_ ?_ ?_ ?_
     rotate_left
     ·intro w'
      go_simp
      with_reducible rfl
     rotate_left
     ·exact uP
     refine uPu 2 26 u_t1f1t1f6 (v := ?_) (a' := ?_) rfl rfl HT_ ?_ ?_ ?_
     rotate_left
     ·intro w'
      go_simp
      with_reducible rfl
     rotate_left
     ·exact uP
     refine uPu 4 28 u_t1f1t1f1t1f4 (v := ?_) (a' := ?_) rfl rfl HT_ ?_ ?_ ?_
     rotate_left
     ·intro w'
      go_simp
      with_reducible rfl
     rotate_left
     ·exact uP
     refine uTk 1 25 u_t3f1t1f4 (v := ?_) (a' := ?_) rfl rfl HT_ HW_ hHeld ?_ ?_ ?_
     rotate_left
     ·rintro w' ⟨s0, s1⟩
      go_simp
      with_reducible rfl
     rotate_left
     ·exact uP
     refine uTk 3 27 u_t5f4 (v := ?_) (a' := ?_) rfl rfl HT_ HW_ hHeld ?_ ?_ ?_
     rotate_left
     ·rintro w' ⟨s0, s1⟩
      go_simp
      with_reducible rfl
     rotate_left
     ·exact uP
     refine uPu 5 29 u_t6f3 (v := ?_) (a' := ?_) rfl rfl HT_ ?_ ?_ ?_
     rotate_left
     ·intro w'
      go_simp
      with_reducible rfl
     rotate_left
     ·exact uP
     refine one_ (i := 6) (N := some 30) u_t7f2 rfl rfl (one_of HT_.out (by kernel_rfl)) (by decide) (fun K hK => ?_)
     refine goes_ Tryd.func34 (by kernel_rfl) rfl #[.slice (some ad177) y178.length c0_1] (by rfl) rfl rfl uC ?_
     with_reducible refine (mon_Region.calls _ _ y178 t182 _ ?side1 ?side2 A16.out).mono ?_
     (case side1 => exact uS (Kd.C_below HR181.out HB.out))
     (case side2 => exact HC181.out)
     rintro e w21 ⟨v183, rfl, ho0, hb⟩
     refine ⟨_, rfl, ?_⟩
     have HO184 := Aside0.mk (Kd.R_lower ho0 (below_size (uB2 HB GE175 GE176)))
     replace BK175 := uD BK175 hb
     replace BK176 := uD BK176 hb
     replace HB := Aside0.mk (below_step (uB2 HB GE175 GE176) hb)
     (try clear hb)
     (try clear hb2)
     (try clear hk)
     (try clear hi)
     (try clear ho0)
     obtain ⟨Ao22, co22, eo22⟩ := Kd.R_slice HO184.out
     (first | subst eo22 | (injection eo22 with f1_ f2_ f3_; have f4_ := f1_.symm; have f5_ := f3_.symm; clear f1_ f2_ f3_; subst f4_; subst f5_))
     refine hK.out _ _ ⟨uF BK175 0, uF BK175 1⟩ (fun hHeld => ?_)
     clear hK K
     refine norm_ (a' := ?_) ?_ ?_
     rotate_left
     ·show Act.put _ (some 30) _ = _
      exact uP
     refine uPu 7 31 u_t8f1 (v := ?_) (a' := ?_) rfl rfl HT_ ?_ ?_ ?_
     rotate_left
     ·intro w'
      go_simp
      with_reducible rfl
     rotate_left
     ·exact uP
     refine one_ (i := 8) (N := none) u_t9 rfl rfl (one_of HT_.out (by kernel_rfl)) (by decide) (fun K hK => ?_)
     have hs23 : w21.cell? ⟨gb176, 0, none⟩ = some (.int .i64 0) := uF BK176 0
     have hfs23 := blk_frozen BK176.out 0
     have hns23_0 := NB175_176.out
     have hms23_0 := NB176_175.out
     have hs24 : w21.cell? ⟨gb176, 1, none⟩ = some (.slice none 0 0) := uF BK176 1
     have hfs24 := blk_frozen BK176.out 1
     have hns24_0 := NB175_176.out
     have hms24_0 := NB176_175.out
     refine skip_ (w1 := ?_) (by rfl) rfl ?_ ?_
     rotate_left
     ·go_simp
      rfl
     refine hK.out _ _ ⟨((cell_far (p := ⟨gb176, _, none⟩) NB175_176.out _).trans (((cell_far (p := ⟨gb176, _, none⟩) NB175_176.out _).trans (hHeld.1)))), ((cell_far (p := ⟨gb176, _, none⟩) NB175_176.out _).trans (((cell_far (p := ⟨gb176, _, none⟩) NB175_176.out _).trans (hHeld.2))))⟩ (fun hHeld => ?_)
     clear hK K
     refine done_ (done_of HT_.out (by kernel_rfl)) ?_
     try go_wp2
     refine bodyPost_ret (results_cell_row rfl _ _ gb176 34 #[.int .i64 a0_0, .slice Ao22 t182.length co22] (0, 0) _ rfl (by (with_reducible repeat (first | refine blk_drewN ?_ _ | refine blk_drew ?_ | refine blk_alloc ?_ _)); refine blk_put (cs := #[.int .i64 a0_0, .slice none 0 0]) ?_ 1 _ rfl; (with_reducible repeat (first | refine blk_drewN ?_ _ | refine blk_drew ?_ | refine blk_alloc ?_ _)); refine blk_put (cs := #[.int .i64 0, .slice none 0 0]) ?_ 0 _ rfl; (with_reducible repeat (first | refine blk_drewN ?_ _ | refine blk_drew ?_ | refine blk_alloc ?_ _)); exact BK176.out) Tryd.underlying34 rfl (by kernel_rfl)) rfl ?_
     exact ⟨_, by first | rfl | (simp [errW_none, errW_some] <;> rfl) | (simp only [← hji8]; first | rfl | (simp [errW_none, errW_some] <;> rfl)) | (simp [*, errW_none, errW_some] <;> rfl), by (with_reducible repeat (first | apply Kd.R_alloc | apply Kd.R_drewN | apply Kd.R_drew)); exact Kd.R_mono (Kd.R_far (p := ⟨gb176, 1, none⟩) (Kd.R_far (p := ⟨gb176, 0, none⟩) (Kd.R_types HO184.out BK176.out (by decide)) (fun _ hk => hk.2) (.int .i64 a0_0)) (fun _ hk => hk.2) (.slice Ao22 t182.length co22)) (fun _ hk => trivial), uB2 HB GE175 GE176⟩
    rw [if_neg c15] at H
    exact absurd H (by simp)
   rw [if_neg c10] at H
   exact absurd H (by simp)
  rw [if_neg c9] at H
  exact absurd H (by simp)
 rw [if_neg c7] at H
 have c7b0 : decide (0 < x5_1) = false := decide_eq_false c7
 clear c7
 by_cases c25 : 0 ≤ x5_1
 ·rw [if_pos c25] at H
  have c25b0 := eq_true c25
  have c25b1 : decide (0 ≤ x5_1) = true := decide_eq_true c25
  clear c25
  by_cases c26 : x5_1 ≤ (l0_1.length : Int)
  ·rw [if_pos c26] at H
   have c26b0 := eq_true c26
   have c26b1 : decide (x5_1 ≤ (l0_1.length : Int)) = true := decide_eq_true c26
   clear c26
   obtain ⟨y185, hy185⟩ : ∃ y_ : List (S58), y_ = (l0_1.take (x5_1 : Int).toNat) := ⟨_, rfl⟩
   replace H : ((mon_Region.f y185).bind fun t189 => (some (a0_0, t189))) = some (r1, r2) := by first | (rw [hy185]; with_reducible exact H) | (have H2_ := (Option.bind_some _ _).symm.trans H; rw [hy185]; with_reducible exact H2_) | (have H2_ := (Option.bind_some _ _).symm.trans H; with_reducible exact H2_) | with_reducible exact H | (rw [hy185]; exact H) | exact H
   have Ny185 := Aside0.mk hy185
   clear hy185
   replace H := Option.bind_eq_some_iff.mp H
   obtain ⟨t189, A270, H⟩ := H
   replace H : (some (a0_0, t189)) = some (r1, r2) := H
   have A27 := Aside0.mk A270
   clear A270
   simp only [Option.some.injEq, Prod.mk.injEq] at H
   obtain ⟨rfl, rfl⟩ := H
   try go_wp2
   replace BK175 := Aside0.mk (blk_drew BK175.out)
   replace BK176 := Aside0.mk (blk_drew BK176.out)
   replace HB := Aside0.mk (below_drew1 HB.out)
   have q29 : (x5_1 : Int) ≤ ((l0_1.length : Int) : Int) := of_decide_eq_true (by first | (with_reducible assumption) | assumption)
   obtain ⟨i029, hi029, _, hsz29, _⟩ := info_parts info58
   have hroom29 : l0_1.length ≤ c0_1 := HC0_1.out
   have hC29 : Kd.C k58 _ A0_1 l0_1.length l0_1 := HR0_1.out
   (try clear hcut20)
   have hcut29 := cut_to (P := Tryd.prog) 32 58 .i64 Tryd.underlying32 hi029 A0_1 l0_1.length c0_1 x5_1 (of_decide_eq_true (by first | (with_reducible assumption) | assumption)) q29 hroom29
   have hr29 := Kd.C_take (m := (x5_1 : Int).toNat) hC29 (by omega)
   have hy29 : y185.length = (x5_1 : Int).toNat := (by rw [Ny185.out, List.length_take]; omega)
   rw [← Ny185.out] at hr29
   rw [← hy29] at hcut29
   have HR188 := Aside0.mk hr29
   have HC188 := Aside0.mk (show y185.length ≤ c0_1 from by omega)
   clear hr29 hC29 hroom29 hi029 hsz29
   have KY29 := Aside0.mk hy29
   clear hy29
   replace q29 := eq_true q29
   refine start_ (n := 9) (S := fun w' => w'.cell? ⟨gb175, 0, none⟩ = some (.int .i64 a0_0) ∧ w'.cell? ⟨gb175, 1, none⟩ = some (.slice A0_1 l0_1.length c0_1)) (ds := []) u_f9 (by kernel_rfl) rfl rfl ⟨uF BK175 0, uF BK175 1⟩ (fun hHeld => ?_); refine with_tabW mon_Join.tab4 mon_Join.bits4 (fun HT_ HW_ => ?_)
   generalize wr.drew = w28 at BK175 BK176 HB HR188 hHeld ⊢
   refine uPu 0 24 u_t1f8 (v := ?_) (a' := ?_) rfl rfl HT_ ?_ ?_ ?_
   rotate_left
   ·intro w'
    go_simp
    with_reducible rfl
   rotate_left
   ·exact uP
   refine uPu 2 26 u_t1f1t1f6 (v := ?_) (a' := ?_) rfl rfl HT_ ?_ ?_ ?_
   rotate_left
   ·intro w'
    go_simp
    with_reducible rfl
   rotate_left
   ·exact uP
   refine uPu 4 28 u_t1f1t1f1t1f4 (v := ?_) (a' := ?_) rfl rfl HT_ ?_ ?_ ?_
   rotate_left
   ·intro w'
    go_simp
    with_reducible rfl
   rotate_left
   ·exact uP
   refine uTk 1 25 u_t3f1t1f4 (v := ?_) (a' := ?_) rfl rfl HT_ HW_ hHeld ?_ ?_ ?_
   rotate_left
   ·rintro w' ⟨s0, s1⟩
    go_simp
    with_reducible rfl
   rotate_left
   ·exact uP
   refine uTk 3 27 u_t5f4 (v := ?_) (a' := ?_) rfl rfl HT_ HW_ hHeld ?_ ?_ ?_
   rotate_left
   ·rintro w' ⟨s0, s1⟩
    go_simp
    with_reducible rfl
   rotate_left
   ·exact uP
   refine uPu 5 29 u_t6f3 (v := ?_) (a' := ?_) rfl rfl HT_ ?_ ?_ ?_
   rotate_left
   ·intro w'
    go_simp
    with_reducible rfl
   rotate_left
   ·exact uP
   refine one_ (i := 6) (N := some 30) u_t7f2 rfl rfl (one_of HT_.out (by kernel_rfl)) (by decide) (fun K hK => ?_)
   refine goes_ Tryd.func34 (by kernel_rfl) rfl #[.slice A0_1 y185.length c0_1] (by rfl) rfl rfl uC ?_
   with_reducible refine (mon_Region.calls _ _ y185 t189 _ ?side1 ?side2 A27.out).mono ?_
   (case side1 => exact uS (Kd.C_below HR188.out HB.out))
   (case side2 => exact HC188.out)
   rintro e w30 ⟨v190, rfl, ho0, hb⟩
   refine ⟨_, rfl, ?_⟩
   have HO191 := Aside0.mk (Kd.R_lower ho0 (below_size (uB2 HB GE175 GE176)))
   replace BK175 := uD BK175 hb
   replace BK176 := uD BK176 hb
   replace HB := Aside0.mk (below_step (uB2 HB GE175 GE176) hb)
   (try clear hb)
   (try clear hb2)
   (try clear hk)
   (try clear hi)
   (try clear ho0)
   obtain ⟨Ao31, co31, eo31⟩ := Kd.R_slice HO191.out
   (first | subst eo31 | (injection eo31 with f1_ f2_ f3_; have f4_ := f1_.symm; have f5_ := f3_.symm; clear f1_ f2_ f3_; subst f4_; subst f5_))
   refine hK.out _ _ ⟨uF BK175 0, uF BK175 1⟩ (fun hHeld => ?_)
   clear hK K
   refine norm_ (a' := ?_) ?_ ?_
   rotate_left
   ·show Act.put _ (some 30) _ = _
    exact uP
   refine uPu 7 31 u_t8f1 (v := ?_) (a' := ?_) rfl rfl HT_ ?_ ?_ ?_
   rotate_left
   ·intro w'
    go_simp
    with_reducible rfl
   rotate_left
   ·exact uP
   refine one_ (i := 8) (N := none) u_t9 rfl rfl (one_of HT_.out (by kernel_rfl)) (by decide) (fun K hK => ?_)
   have hs32 : w30.cell? ⟨gb176, 0, none⟩ = some (.int .i64 0) := uF BK176 0
   have hfs32 := blk_frozen BK176.out 0
   have hns32_0 := NB175_176.out
   have hms32_0 := NB176_175.out
   have hs33 : w30.cell? ⟨gb176, 1, none⟩ = some (.slice none 0 0) := uF BK176 1
   have hfs33 := blk_frozen BK176.out 1
   have hns33_0 := NB175_176.out
   have hms33_0 := NB176_175.out
   refine skip_ (w1 := ?_) (by rfl) rfl ?_ ?_
   rotate_left
   ·go_simp
    rfl
   refine hK.out _ _ ⟨((cell_far (p := ⟨gb176, _, none⟩) NB175_176.out _).trans (((cell_far (p := ⟨gb176, _, none⟩) NB175_176.out _).trans (hHeld.1)))), ((cell_far (p := ⟨gb176, _, none⟩) NB175_176.out _).trans (((cell_far (p := ⟨gb176, _, none⟩) NB175_176.out _).trans (hHeld.2))))⟩ (fun hHeld => ?_)
   clear hK K
   refine done_ (done_of HT_.out (by kernel_rfl)) ?_
   try go_wp2
   refine bodyPost_ret (results_cell_row rfl _ _ gb176 34 #[.int .i64 a0_0, .slice Ao31 t189.length co31] (0, 0) _ rfl (by (with_reducible repeat (first | refine blk_drewN ?_ _ | refine blk_drew ?_ | refine blk_alloc ?_ _)); refine blk_put (cs := #[.int .i64 a0_0, .slice none 0 0]) ?_ 1 _ rfl; (with_reducible repeat (first | refine blk_drewN ?_ _ | refine blk_drew ?_ | refine blk_alloc ?_ _)); refine blk_put (cs := #[.int .i64 0, .slice none 0 0]) ?_ 0 _ rfl; (with_reducible repeat (first | refine blk_drewN ?_ _ | refine blk_drew ?_ | refine blk_alloc ?_ _)); exact BK176.out) Tryd.underlying34 rfl (by kernel_rfl)) rfl ?_
   exact ⟨_, by first | rfl | (simp [errW_none, errW_some] <;> rfl) | (simp [*, errW_none, errW_some] <;> rfl), by (with_reducible repeat (first | apply Kd.R_alloc | apply Kd.R_drewN | apply Kd.R_drew)); exact Kd.R_mono (Kd.R_far (p := ⟨gb176, 1, none⟩) (Kd.R_far (p := ⟨gb176, 0, none⟩) (Kd.R_types HO191.out BK176.out (by decide)) (fun _ hk => hk.2) (.int .i64 a0_0)) (fun _ hk => hk.2) (.slice Ao31 t189.length co31)) (fun _ hk => trivial), uB2 HB GE175 GE176⟩
  rw [if_neg c26] at H
  exact absurd H (by simp)
 rw [if_neg c25] at H
 exact absurd H (by simp)

/-! ### mon_Take: function 21 -/
def mon_Take.f (a0_0 : Int) (l0_1 : List (S58)) (a1 : Int) : Option (Option Int) := if (l0_1.length : Int) > 0 then (if 0 ≤ (wrap64 ((l0_1.length : Int) - 1)) then (if (wrap64 ((l0_1.length : Int) - 1)) < (l0_1.length : Int) then (if a1 < ((rd_T58 l0_1 (wrap64 ((l0_1.length : Int) - 1))).f2) then (some (some 11)) else (some none)) else (none)) else (none)) else (some none)
set_option maxHeartbeats 8000000 in
set_option maxRecDepth 100000 in
theorem mon_Take.calls (a0_0 : Int) (A0_1 : Option Addr) (c0_1 : Nat) (l0_1 : List (S58)) (a1 : Int) (r : Option Int) (w : World) (hr0_1 : Kd.C k58 w A0_1 l0_1.length l0_1) (hc0_1 : l0_1.length ≤ c0_1) (h : mon_Take.f a0_0 l0_1 a1 = some r) :
  Calls Tryd.prog 21 #[.agg #[.int .i64 a0_0, .slice A0_1 l0_1.length c0_1], .int .i64 a1] w fun e w' => e = .returned (errW r) ∧ Below w.heap.size w w' := by
 have hu34 := Tryd.underlying34
 have hu38 := Tryd.underlying38
 have hu63 := Tryd.underlying63
 have HR0_1 := Aside0.mk hr0_1
 have HC0_1 := Aside0.mk hc0_1
 clear hr0_1 hc0_1
 have HB := Aside0.mk (Below.refl w.heap.size w)
 have H : (if (l0_1.length : Int) > 0 then (if 0 ≤ (wrap64 ((l0_1.length : Int) - 1)) then (if (wrap64 ((l0_1.length : Int) - 1)) < (l0_1.length : Int) then (if a1 < ((rd_T58 l0_1 (wrap64 ((l0_1.length : Int) - 1))).f2) then (some (some 11)) else (some none)) else (none)) else (none)) else (some none)) = some r := h
 clear h
 by_cases c3 : (l0_1.length : Int) > 0
 ·rw [if_pos c3] at H
  have c3b0 : decide (0 < (l0_1.length : Int)) = true := decide_eq_true c3
  have c3b1 : decide (0 < l0_1.length) = true := decide_eq_true (by omega)
  clear c3
  obtain ⟨ji4, hji4⟩ : ∃ j_ : Int, (wrap64 ((l0_1.length : Int) - 1)) = j_ := ⟨_, rfl⟩
  replace H : (if 0 ≤ (ji4) then (if (ji4) < (l0_1.length : Int) then (if a1 < ((rd_T58 l0_1 (ji4)).f2) then (some (some 11)) else (some none)) else (none)) else (none)) = some r := by first | (rw [hji4] at H; exact H) | (simp only [hji4] at H ⊢; exact H)
  have hji4w : (IntKind.i64.wrap ((l0_1.length : Int) - 1)) = ji4 := (i64_w _).trans hji4
  by_cases c5 : 0 ≤ (ji4)
  ·rw [if_pos c5] at H
   have c5b0 : decide (0 ≤ (ji4)) = true := decide_eq_true c5
   clear c5
   by_cases c6 : (ji4) < (l0_1.length : Int)
   ·rw [if_pos c6] at H
    have c6b0 : decide ((ji4) < (l0_1.length : Int)) = true := decide_eq_true c6
    clear c6
    by_cases c7 : a1 < ((rd_T58 l0_1 (ji4)).f2)
    ·rw [if_pos c7] at H
     have c7b0 : decide (a1 < ((rd_T58 l0_1 (ji4)).f2)) = true := decide_eq_true c7
     clear c7
     obtain rfl := Option.some.inj H
     go_enter Tryd.func21, Tryd.ntmps21
     go_wp2_with (first | ((with_reducible refine gate_dst (N := 2) rfl ?_); refine box_event ?hg (N := 2) ?hd (cs := #[.int .i64 a0_0, .slice A0_1 l0_1.length c0_1]) (t := 34) ?hr ?_; (case hd => rfl); (case hg => rfl); (case hr => first | (go_simp; done) | (go_simp; rfl)); intro gb192 hg w8 hbox hb; have BK192 := Aside0.mk (hbox); have GW192 := Aside0.mk ((by rw [hg]; exact (below_size (uB0 HB)) : w.heap.size ≤ gb192)); have GE192 := Aside0.mk ((by rw [hg]; exact (below_size (uB0 HB)) : w.heap.size ≤ gb192)); replace HB := Aside0.mk (below_step (uB0 HB) hb); clear hb hbox hg; have hcz9_0 : w8.cell? ⟨gb192, 0, none⟩ = some (.int .i64 a0_0) := uF BK192 0; have hcz9_1 : w8.cell? ⟨gb192, 1, none⟩ = some (.slice A0_1 l0_1.length c0_1) := uF BK192 1; have hfz9_0 := blk_frozen BK192.out 0; have hfz9_1 := blk_frozen BK192.out 1; have p193 : 0 ≤ ((ji4) : Int) := of_decide_eq_true (by first | (with_reducible assumption) | assumption); have q193 : (ji4) < (l0_1.length : Int) := of_decide_eq_true (by first | (with_reducible assumption) | assumption); obtain ⟨ad193, e193, hx193_0, hx193_1, hx193_2⟩ := at_T58 HR0_1.out (ji4) p193 q193; cases e193; replace hx193_0 := (HB.out.cell (World.block_lt_of_cell? w _ hx193_0)).trans hx193_0; replace hx193_1 := (HB.out.cell (World.block_lt_of_cell? w _ hx193_1)).trans hx193_1; replace hx193_2 := (HB.out.cell (World.block_lt_of_cell? w _ hx193_2)).trans hx193_2; replace p193 := eq_true p193; replace q193 := eq_true q193))
     go_ret
     exact ⟨by first | rfl | (simp [errW_none, errW_some] <;> rfl) | (simp only [← hji4]; first | rfl | (simp [errW_none, errW_some] <;> rfl)) | (simp [*, errW_none, errW_some] <;> rfl), uB1 HB GE192⟩
    rw [if_neg c7] at H
    have c7b0 : decide (a1 < ((rd_T58 l0_1 (ji4)).f2)) = false := decide_eq_false c7
    clear c7
    obtain rfl := Option.some.inj H
    go_enter Tryd.func21, Tryd.ntmps21
    go_wp2_with (first | ((with_reducible refine gate_dst (N := 2) rfl ?_); refine box_event ?hg (N := 2) ?hd (cs := #[.int .i64 a0_0, .slice A0_1 l0_1.length c0_1]) (t := 34) ?hr ?_; (case hd => rfl); (case hg => rfl); (case hr => first | (go_simp; done) | (go_simp; rfl)); intro gb192 hg w10 hbox hb; have BK192 := Aside0.mk (hbox); have GW192 := Aside0.mk ((by rw [hg]; exact (below_size (uB0 HB)) : w.heap.size ≤ gb192)); have GE192 := Aside0.mk ((by rw [hg]; exact (below_size (uB0 HB)) : w.heap.size ≤ gb192)); replace HB := Aside0.mk (below_step (uB0 HB) hb); clear hb hbox hg; have hcz11_0 : w10.cell? ⟨gb192, 0, none⟩ = some (.int .i64 a0_0) := uF BK192 0; have hcz11_1 : w10.cell? ⟨gb192, 1, none⟩ = some (.slice A0_1 l0_1.length c0_1) := uF BK192 1; have hfz11_0 := blk_frozen BK192.out 0; have hfz11_1 := blk_frozen BK192.out 1; have p193 : 0 ≤ ((ji4) : Int) := of_decide_eq_true (by first | (with_reducible assumption) | assumption); have q193 : (ji4) < (l0_1.length : Int) := of_decide_eq_true (by first | (with_reducible assumption) | assumption); obtain ⟨ad193, e193, hx193_0, hx193_1, hx193_2⟩ := at_T58 HR0_1.out (ji4) p193 q193; cases e193; replace hx193_0 := (HB.out.cell (World.block_lt_of_cell? w _ hx193_0)).trans hx193_0; replace hx193_1 := (HB.out.cell (World.block_lt_of_cell? w _ hx193_1)).trans hx193_1; replace hx193_2 := (HB.out.cell (World.block_lt_of_cell? w _ hx193_2)).trans hx193_2; replace p193 := eq_true p193; replace q193 := eq_true q193))
    go_ret
    exact ⟨by first | rfl | (simp [errW_none, errW_some] <;> rfl) | (simp only [← hji4]; first | rfl | (simp [errW_none, errW_some] <;> rfl)) | (simp [*, errW_none, errW_some] <;> rfl), uB1 HB GE192⟩
   rw [if_neg c6] at H
   exact absurd H (by simp)
  rw [if_neg c5] at H
  exact absurd H (by simp)
 rw [if_neg c3] at H
 have c3b0 : decide (0 < (l0_1.length : Int)) = false := decide_eq_false c3
 have c3b1 : decide (0 < l0_1.length) = false := decide_eq_false (by omega)
 clear c3
 obtain rfl := Option.some.inj H
 go_enter Tryd.func21, Tryd.ntmps21
 go_wp2_with (first | ((with_reducible refine gate_dst (N := 2) rfl ?_); refine box_event ?hg (N := 2) ?hd (cs := #[.int .i64 a0_0, .slice A0_1 l0_1.length c0_1]) (t := 34) ?hr ?_; (case hd => rfl); (case hg => rfl); (case hr => first | (go_simp; done) | (go_simp; rfl)); intro gb192 hg w12 hbox hb; have BK192 := Aside0.mk (hbox); have GW192 := Aside0.mk ((by rw [hg]; exact (below_size (uB0 HB)) : w.heap.size ≤ gb192)); have GE192 := Aside0.mk ((by rw [hg]; exact (below_size (uB0 HB)) : w.heap.size ≤ gb192)); replace HB := Aside0.mk (below_step (uB0 HB) hb); clear hb hbox hg; have hcz13_0 : w12.cell? ⟨gb192, 0, none⟩ = some (.int .i64 a0_0) := uF BK192 0; have hcz13_1 : w12.cell? ⟨gb192, 1, none⟩ = some (.slice A0_1 l0_1.length c0_1) := uF BK192 1; have hfz13_0 := blk_frozen BK192.out 0; have hfz13_1 := blk_frozen BK192.out 1))
 go_ret
 exact ⟨by first | rfl | (simp [errW_none, errW_some] <;> rfl) | (simp [*, errW_none, errW_some] <;> rfl), uB1 HB GE192⟩

/-! ### mon_May: function 23 -/
def mon_May.f (k : Nat) (l0_0 : List Int) (a1 : Int) (a2 : Int) : Option (Option Int) := (lattice_Lat_Leq.f k l0_0 a1 a2).bind fun t195 => (if t195 = true then (some none) else (some (some 11)))
theorem mon_May.mono : ∀ a0 a1 a2 k, LeO (mon_May.f k a0 a1 a2) (mon_May.f (k + 1) a0 a1 a2) := by
 intro a0 a1 a2 k
 unfold mon_May.f
 repeat' first
   | (with_reducible exact lattice_Lat_Leq.mono _ _ _ _)
   | (with_reducible exact LeO.refl _)
   | (with_reducible exact LeO.none _)
   | (with_reducible refine LeO.ite ?_ ?_)
   | (with_reducible refine LeO.bind ?_ (fun _ => ?_))
   | exact lattice_Lat_Leq.mono _ _ _ _
   | exact LeO.none _
   | refine LeO.ite ?_ ?_
   | refine LeO.bind ?_ (fun _ => ?_)
set_option maxHeartbeats 8000000 in
set_option maxRecDepth 100000 in
theorem mon_May.calls (k : Nat) (A0_0 : Option Addr) (c0_0 : Nat) (l0_0 : List Int) (a1 : Int) (a2 : Int) (r : Option Int) (w : World) (hr0_0 : Kd.C (Kd.int .u8) w A0_0 l0_0.length l0_0) (hc0_0 : l0_0.length ≤ c0_0) (h : mon_May.f k l0_0 a1 a2 = some r) :
  Calls Tryd.prog 23 #[.agg #[.slice A0_0 l0_0.length c0_0], .int .i64 a1, .int .i64 a2] w fun e w' => e = .returned (errW r) ∧ Below w.heap.size w w' := by
 have hu31 := Tryd.underlying31
 have hu38 := Tryd.underlying38
 have hu63 := Tryd.underlying63
 have HR0_0 := Aside0.mk hr0_0
 have HC0_0 := Aside0.mk hc0_0
 clear hr0_0 hc0_0
 have HB := Aside0.mk (Below.refl w.heap.size w)
 have H : ((lattice_Lat_Leq.f k l0_0 a1 a2).bind fun t195 => (if t195 = true then (some none) else (some (some 11)))) = some r := h
 clear h
 replace H := Option.bind_eq_some_iff.mp H
 obtain ⟨t195, A40, H⟩ := H
 replace H : (if t195 = true then (some none) else (some (some 11))) = some r := H
 have A4 := Aside0.mk A40
 clear A40
 by_cases c5 : t195 = true
 ·subst c5
  have H1 : (some none) = some r := by rw [if_pos rfl] at H; exact H
  clear H
  have H := H1
  clear H1
  obtain rfl := Option.some.inj H
  go_enter Tryd.func23, Tryd.ntmps23
  go_wp2_with (first | ((with_reducible refine gate_dst (N := 3) rfl ?_); refine box_event ?hg (N := 3) ?hd (cs := #[.slice A0_0 l0_0.length c0_0]) (t := 31) ?hr ?_; (case hd => rfl); (case hg => rfl); (case hr => first | (go_simp; done) | (go_simp; rfl)); intro gb194 hg w6 hbox hb; have BK194 := Aside0.mk (hbox); have GW194 := Aside0.mk ((by rw [hg]; exact (below_size (uB0 HB)) : w.heap.size ≤ gb194)); have GE194 := Aside0.mk ((by rw [hg]; exact (below_size (uB0 HB)) : w.heap.size ≤ gb194)); replace HB := Aside0.mk (below_step (uB0 HB) hb); clear hb hbox hg; have hcz7_0 : w6.cell? ⟨gb194, 0, none⟩ = some (.slice A0_0 l0_0.length c0_0) := uF BK194 0; have hfz7_0 := blk_frozen BK194.out 0) | ((with_reducible refine gate_callee (f := 25) rfl ?_); refine goesL_ (some 10) rfl rfl Tryd.func25 (by kernel_rfl) rfl #[.agg #[.slice A0_0 l0_0.length c0_0], .int .i64 a1, .int .i64 a2] rfl uC ?_; (with_reducible refine (lattice_Lat_Leq.calls k _ _ l0_0 a1 a2 true _ ?side1 ?side2 A4.out).mono ?_); (case side1 => exact uS (Kd.C_below HR0_0.out HB.out)); (case side2 => exact HC0_0.out); rintro e w8 ⟨rfl, hb⟩; refine ⟨_, rfl, ?_⟩; replace BK194 := uD BK194 hb; replace HB := Aside0.mk (below_step (uB1 HB GE194) hb); (try clear hb); (try clear hb2); (try clear hk); (try clear hi)))
  go_ret
  exact ⟨by first | rfl | (simp [errW_none, errW_some] <;> rfl) | (simp [*, errW_none, errW_some] <;> rfl), uB1 HB GE194⟩
 replace c5 := Bool.eq_false_iff.mpr c5
 subst c5
 have H1 : (some (some 11)) = some r := by rw [if_neg (show ¬ (false = true) by decide)] at H; exact H
 clear H
 have H := H1
 clear H1
 obtain rfl := Option.some.inj H
 go_enter Tryd.func23, Tryd.ntmps23
 go_wp2_with (first | ((with_reducible refine gate_dst (N := 3) rfl ?_); refine box_event ?hg (N := 3) ?hd (cs := #[.slice A0_0 l0_0.length c0_0]) (t := 31) ?hr ?_; (case hd => rfl); (case hg => rfl); (case hr => first | (go_simp; done) | (go_simp; rfl)); intro gb194 hg w9 hbox hb; have BK194 := Aside0.mk (hbox); have GW194 := Aside0.mk ((by rw [hg]; exact (below_size (uB0 HB)) : w.heap.size ≤ gb194)); have GE194 := Aside0.mk ((by rw [hg]; exact (below_size (uB0 HB)) : w.heap.size ≤ gb194)); replace HB := Aside0.mk (below_step (uB0 HB) hb); clear hb hbox hg; have hcz10_0 : w9.cell? ⟨gb194, 0, none⟩ = some (.slice A0_0 l0_0.length c0_0) := uF BK194 0; have hfz10_0 := blk_frozen BK194.out 0) | ((with_reducible refine gate_callee (f := 25) rfl ?_); refine goesL_ (some 10) rfl rfl Tryd.func25 (by kernel_rfl) rfl #[.agg #[.slice A0_0 l0_0.length c0_0], .int .i64 a1, .int .i64 a2] rfl uC ?_; (with_reducible refine (lattice_Lat_Leq.calls k _ _ l0_0 a1 a2 false _ ?side1 ?side2 A4.out).mono ?_); (case side1 => exact uS (Kd.C_below HR0_0.out HB.out)); (case side2 => exact HC0_0.out); rintro e w11 ⟨rfl, hb⟩; refine ⟨_, rfl, ?_⟩; replace BK194 := uD BK194 hb; replace HB := Aside0.mk (below_step (uB1 HB GE194) hb); (try clear hb); (try clear hb2); (try clear hk); (try clear hi)))
 go_ret
 exact ⟨by first | rfl | (simp [errW_none, errW_some] <;> rfl) | (simp [*, errW_none, errW_some] <;> rfl), uB1 HB GE194⟩

/-! ### lattice_Square: function 26 -/
def lattice_Square.f  : Option (List Int) := some (([15, 10, 12, 8] : List Int))
set_option maxHeartbeats 8000000 in
set_option maxRecDepth 100000 in
theorem lattice_Square.calls  (r : List Int) (w : World) (h : lattice_Square.f  = some r) :
  Calls Tryd.prog 26 #[] w fun e w' => ∃ v0_ : Value, e = .returned (.agg #[v0_]) ∧ Kd.R (Kd.int .u8) 5 w' w.heap.size (fun _ => True) v0_ r ∧ Below w.heap.size w w' := by
 have hu31 := Tryd.underlying31
 have HB := Aside0.mk (Below.refl w.heap.size w)
 have H : (some (([15, 10, 12, 8] : List Int))) = some r := h
 clear h
 obtain ⟨y197, hy197⟩ : ∃ y_ : List Int, y_ = (([15, 10, 12, 8] : List Int)) := ⟨_, rfl⟩
 replace H : (some y197) = some r := by first | (rw [hy197]; with_reducible exact H) | (have H2_ := (Option.bind_some _ _).symm.trans H; rw [hy197]; with_reducible exact H2_) | (have H2_ := (Option.bind_some _ _).symm.trans H; with_reducible exact H2_) | with_reducible exact H | (rw [hy197]; exact H) | exact H
 have Ny197 := Aside0.mk hy197
 clear hy197
 obtain rfl := Option.some.inj H
 go_enter Tryd.func26, Tryd.ntmps26
 go_wp2_with (first | ((with_reducible refine gate_dst (N := 0) rfl ?_); refine box_event ?hg (N := 0) ?hd (cs := #[.slice none 0 0]) (t := 31) ?hr ?_; (case hd => rfl); (case hg => rfl); (case hr => first | (go_simp; done) | (go_simp; rfl)); intro gb196 hg w1 hbox hb; have BK196 := Aside0.mk (hbox); have GW196 := Aside0.mk ((by rw [hg]; exact (below_size (uB0 HB)) : w.heap.size ≤ gb196)); have GE196 := Aside0.mk ((by rw [hg]; exact (below_size (uB0 HB)) : w.heap.size ≤ gb196)); replace HB := Aside0.mk (below_step (uB0 HB) hb); clear hb hbox hg) | ((with_reducible refine gate_dst (N := 1) rfl ?_); refine Kd.R_lit (Kd.int .u8) _ 5 ?hg (N := 1) ?hd (xs := ([15, 10, 12, 8] : List Int)) (inner := [.int .u8 15, .int .u8 10, .int .u8 12, .int .u8 8]) (ok := fun _ => True) (okp := fun _ => True) ?hr ?hp (fun _ hk => hk) trivial (Below.refl _ _) (Nat.le_refl _) (by simp) ?_; (case hd => rfl); (case hg => rfl); (case hr => first | (go_simp; done) | (go_simp; rfl)); (case hp => exact (Reps.one (show Kd.M (Kd.int .u8) _ _ _ 15 [.int .u8 15] from rfl) (Reps.one (show Kd.M (Kd.int .u8) _ _ _ 10 [.int .u8 10] from rfl) (Reps.one (show Kd.M (Kd.int .u8) _ _ _ 12 [.int .u8 12] from rfl) (Reps.one (show Kd.M (Kd.int .u8) _ _ _ 8 [.int .u8 8] from rfl) (Reps.none _ _)))))); intro v198 w2 ho3 hb hg_ hnew_; clear hg_ hnew_; (first | rw [← Ny197.out] at ho3 | (simp only [Int.reduceToNat] at ho3; rw [← Ny197.out] at ho3)); have HO199 := Aside0.mk (Kd.R_lower ho3 (below_size (uB1 HB GE196))); replace BK196 := uD BK196 hb; replace HB := Aside0.mk (below_step (uB1 HB GE196) hb); clear hb ho3; obtain ⟨Ao4, co4, eo4⟩ := Kd.R_slice HO199.out; subst eo4; have hcz5_0 : w2.cell? ⟨gb196, 0, none⟩ = some (.slice none 0 0) := uF BK196 0; have hfz5_0 := blk_frozen BK196.out 0))
 refine bodyPost_ret (results_cell_row rfl _ _ gb196 31 #[.slice Ao4 y197.length co4] (0, 0) _ rfl (by (with_reducible repeat (first | refine blk_drewN ?_ _ | refine blk_drew ?_ | refine blk_alloc ?_ _)); refine blk_put (cs := #[.slice none 0 0]) ?_ 0 _ rfl; (with_reducible repeat (first | refine blk_drewN ?_ _ | refine blk_drew ?_ | refine blk_alloc ?_ _)); exact BK196.out) Tryd.underlying31 rfl (by kernel_rfl)) rfl ?_
 exact ⟨_, by first | rfl | (simp [errW_none, errW_some] <;> rfl) | (simp [*, errW_none, errW_some] <;> rfl), by (with_reducible repeat (first | apply Kd.R_alloc | apply Kd.R_drewN | apply Kd.R_drew)); exact Kd.R_mono (Kd.R_far (p := ⟨gb196, 0, none⟩) (Kd.R_types HO199.out BK196.out (by decide)) (fun _ hk => hk.2) (.slice Ao4 y197.length co4)) (fun _ hk => trivial), uB1 HB GE196⟩

/-! ### colloquylaw20_sure: function 7 -/
def colloquylaw20_sure.f (k : Nat)  : Option (Bool) := (lattice_Square.f).bind fun t200 => ((mon_Else.f k t200 0 ([] : List (S58)) 9 1 0).bind fun bt204 => ((mon_Else.f k t200 bt204.1 bt204.2 20 2 3).bind fun bt209 => ((mon_Else.f k t200 bt209.1 bt209.2 30 3 5).bind fun bt214 => ((mon_Mon_Pc.f bt204.1 bt204.2).bind fun t219 => (if t219 = 1 then ((mon_Mon_Pc.f bt209.1 bt209.2).bind fun t220 => (if t220 = 3 then (if (bt214.2.length : Int) = 2 then ((mon_Join.f k bt209.1 bt209.2 9).bind fun bt221 => ((mon_Mon_Pc.f bt221.1 bt221.2).bind fun t225 => (if t225 = 3 then ((mon_Join.f k bt209.1 bt209.2 20).bind fun bt226 => ((mon_Mon_Pc.f bt226.1 bt226.2).bind fun t230 => (if t230 = 1 then ((mon_Join.f k bt209.1 bt209.2 20).bind fun bt231 => ((mon_Join.f k bt231.1 bt231.2 9).bind fun bt235 => ((mon_Mon_Pc.f bt235.1 bt235.2).bind fun t239 => (if t239 = 0 then ((mon_Take.f bt209.1 bt209.2 2).bind fun t240 => ((colloquylaw20_num.f t240).bind fun t241 => (if t241 = 11 then ((mon_Take.f bt209.1 bt209.2 3).bind fun t242 => (if t242.isNone = true then ((mon_Raise.f k t200 bt204.1 bt204.2 (([0, 2] : List Int))).bind fun t247 => (if t247 = 3 then ((mon_May.f k t200 1 2).bind fun t248 => ((colloquylaw20_num.f t248).bind fun t249 => (if t249 = 11 then ((mon_May.f k t200 1 3).bind fun t250 => (if t250.isNone = true then ((mon_Check.f k t200 bt209.1 bt209.2).bind fun t252 => (if t252.isNone = true then ((mon_Check.f k t200 0 (([(⟨0, 0, 0⟩ : S58)] : List (S58)))).bind fun t257 => ((colloquylaw20_num.f t257).bind fun t258 => (some (t258 == 1)))) else (none))) else (none))) else (none)))) else (none))) else (none))) else (none)))) else (none))))) else (none)))) else (none)))) else (none)) else (none))) else (none))))))
theorem colloquylaw20_sure.mono : ∀ k, LeO (colloquylaw20_sure.f k ) (colloquylaw20_sure.f (k + 1) ) := by
 intro  k
 unfold colloquylaw20_sure.f
 repeat' first
   | (with_reducible exact mon_Check.mono _ _ _ _)
   | (with_reducible exact mon_Else.mono _ _ _ _ _ _ _)
   | (with_reducible exact mon_Join.mono _ _ _ _)
   | (with_reducible exact mon_May.mono _ _ _ _)
   | (with_reducible exact mon_Raise.mono _ _ _ _ _)
   | (with_reducible exact LeO.refl _)
   | (with_reducible exact LeO.none _)
   | (with_reducible refine LeO.ite ?_ ?_)
   | (with_reducible refine LeO.bind ?_ (fun _ => ?_))
   | exact mon_Check.mono _ _ _ _
   | exact mon_Else.mono _ _ _ _ _ _ _
   | exact mon_Join.mono _ _ _ _
   | exact mon_May.mono _ _ _ _
   | exact mon_Raise.mono _ _ _ _ _
   | exact LeO.none _
   | refine LeO.ite ?_ ?_
   | refine LeO.bind ?_ (fun _ => ?_)
set_option maxHeartbeats 8000000 in
set_option maxRecDepth 100000 in
theorem colloquylaw20_sure.calls (k : Nat)  (r : Bool) (w : World) (hg : Go.Proofs.YtodfomkhhfcnhaaDoor.AsNum.GP w) (h : colloquylaw20_sure.f k  = some r) :
  Calls Tryd.prog 7 #[] w fun e w' => e = .returned (.bool r) ∧ Below w.heap.size w w' := by
 have hu31 := Tryd.underlying31
 have hu34 := Tryd.underlying34
 have hu58 := Tryd.underlying58
 have hu38 := Tryd.underlying38
 have hu63 := Tryd.underlying63
 have HG := Aside0.mk hg
 clear hg
 have HB := Aside0.mk (Below.refl w.heap.size w)
 have H : ((lattice_Square.f).bind fun t200 => ((mon_Else.f k t200 0 ([] : List (S58)) 9 1 0).bind fun bt204 => ((mon_Else.f k t200 bt204.1 bt204.2 20 2 3).bind fun bt209 => ((mon_Else.f k t200 bt209.1 bt209.2 30 3 5).bind fun bt214 => ((mon_Mon_Pc.f bt204.1 bt204.2).bind fun t219 => (if t219 = 1 then ((mon_Mon_Pc.f bt209.1 bt209.2).bind fun t220 => (if t220 = 3 then (if (bt214.2.length : Int) = 2 then ((mon_Join.f k bt209.1 bt209.2 9).bind fun bt221 => ((mon_Mon_Pc.f bt221.1 bt221.2).bind fun t225 => (if t225 = 3 then ((mon_Join.f k bt209.1 bt209.2 20).bind fun bt226 => ((mon_Mon_Pc.f bt226.1 bt226.2).bind fun t230 => (if t230 = 1 then ((mon_Join.f k bt209.1 bt209.2 20).bind fun bt231 => ((mon_Join.f k bt231.1 bt231.2 9).bind fun bt235 => ((mon_Mon_Pc.f bt235.1 bt235.2).bind fun t239 => (if t239 = 0 then ((mon_Take.f bt209.1 bt209.2 2).bind fun t240 => ((colloquylaw20_num.f t240).bind fun t241 => (if t241 = 11 then ((mon_Take.f bt209.1 bt209.2 3).bind fun t242 => (if t242.isNone = true then ((mon_Raise.f k t200 bt204.1 bt204.2 (([0, 2] : List Int))).bind fun t247 => (if t247 = 3 then ((mon_May.f k t200 1 2).bind fun t248 => ((colloquylaw20_num.f t248).bind fun t249 => (if t249 = 11 then ((mon_May.f k t200 1 3).bind fun t250 => (if t250.isNone = true then ((mon_Check.f k t200 bt209.1 bt209.2).bind fun t252 => (if t252.isNone = true then ((mon_Check.f k t200 0 (([(⟨0, 0, 0⟩ : S58)] : List (S58)))).bind fun t257 => ((colloquylaw20_num.f t257).bind fun t258 => (some (t258 == 1)))) else (none))) else (none))) else (none)))) else (none))) else (none))) else (none)))) else (none))))) else (none)))) else (none)))) else (none)) else (none))) else (none))))))) = some r := h
 clear h
 replace H := Option.bind_eq_some_iff.mp H
 obtain ⟨t200, A10, H⟩ := H
 replace H : ((mon_Else.f k t200 0 ([] : List (S58)) 9 1 0).bind fun bt204 => ((mon_Else.f k t200 bt204.1 bt204.2 20 2 3).bind fun bt209 => ((mon_Else.f k t200 bt209.1 bt209.2 30 3 5).bind fun bt214 => ((mon_Mon_Pc.f bt204.1 bt204.2).bind fun t219 => (if t219 = 1 then ((mon_Mon_Pc.f bt209.1 bt209.2).bind fun t220 => (if t220 = 3 then (if (bt214.2.length : Int) = 2 then ((mon_Join.f k bt209.1 bt209.2 9).bind fun bt221 => ((mon_Mon_Pc.f bt221.1 bt221.2).bind fun t225 => (if t225 = 3 then ((mon_Join.f k bt209.1 bt209.2 20).bind fun bt226 => ((mon_Mon_Pc.f bt226.1 bt226.2).bind fun t230 => (if t230 = 1 then ((mon_Join.f k bt209.1 bt209.2 20).bind fun bt231 => ((mon_Join.f k bt231.1 bt231.2 9).bind fun bt235 => ((mon_Mon_Pc.f bt235.1 bt235.2).bind fun t239 => (if t239 = 0 then ((mon_Take.f bt209.1 bt209.2 2).bind fun t240 => ((colloquylaw20_num.f t240).bind fun t241 => (if t241 = 11 then ((mon_Take.f bt209.1 bt209.2 3).bind fun t242 => (if t242.isNone = true then ((mon_Raise.f k t200 bt204.1 bt204.2 (([0, 2] : List Int))).bind fun t247 => (if t247 = 3 then ((mon_May.f k t200 1 2).bind fun t248 => ((colloquylaw20_num.f t248).bind fun t249 => (if t249 = 11 then ((mon_May.f k t200 1 3).bind fun t250 => (if t250.isNone = true then ((mon_Check.f k t200 bt209.1 bt209.2).bind fun t252 => (if t252.isNone = true then ((mon_Check.f k t200 0 (([(⟨0, 0, 0⟩ : S58)] : List (S58)))).bind fun t257 => ((colloquylaw20_num.f t257).bind fun t258 => (some (t258 == 1)))) else (none))) else (none))) else (none)))) else (none))) else (none))) else (none)))) else (none))))) else (none)))) else (none)))) else (none)) else (none))) else (none)))))) = some r := H
 have A1 := Aside0.mk A10
 clear A10
 replace H := Option.bind_eq_some_iff.mp H
 obtain ⟨⟨t204, t205⟩, A20, H⟩ := H
 replace H : ((mon_Else.f k t200 t204 t205 20 2 3).bind fun bt209 => ((mon_Else.f k t200 bt209.1 bt209.2 30 3 5).bind fun bt214 => ((mon_Mon_Pc.f t204 t205).bind fun t219 => (if t219 = 1 then ((mon_Mon_Pc.f bt209.1 bt209.2).bind fun t220 => (if t220 = 3 then (if (bt214.2.length : Int) = 2 then ((mon_Join.f k bt209.1 bt209.2 9).bind fun bt221 => ((mon_Mon_Pc.f bt221.1 bt221.2).bind fun t225 => (if t225 = 3 then ((mon_Join.f k bt209.1 bt209.2 20).bind fun bt226 => ((mon_Mon_Pc.f bt226.1 bt226.2).bind fun t230 => (if t230 = 1 then ((mon_Join.f k bt209.1 bt209.2 20).bind fun bt231 => ((mon_Join.f k bt231.1 bt231.2 9).bind fun bt235 => ((mon_Mon_Pc.f bt235.1 bt235.2).bind fun t239 => (if t239 = 0 then ((mon_Take.f bt209.1 bt209.2 2).bind fun t240 => ((colloquylaw20_num.f t240).bind fun t241 => (if t241 = 11 then ((mon_Take.f bt209.1 bt209.2 3).bind fun t242 => (if t242.isNone = true then ((mon_Raise.f k t200 t204 t205 (([0, 2] : List Int))).bind fun t247 => (if t247 = 3 then ((mon_May.f k t200 1 2).bind fun t248 => ((colloquylaw20_num.f t248).bind fun t249 => (if t249 = 11 then ((mon_May.f k t200 1 3).bind fun t250 => (if t250.isNone = true then ((mon_Check.f k t200 bt209.1 bt209.2).bind fun t252 => (if t252.isNone = true then ((mon_Check.f k t200 0 (([(⟨0, 0, 0⟩ : S58)] : List (S58)))).bind fun t257 => ((colloquylaw20_num.f t257).bind fun t258 => (some (t258 == 1)))) else (none))) else (none))) else (none)))) else (none))) else (none))) else (none)))) else (none))))) else (none)))) else (none)))) else (none)) else (none))) else (none))))) = some r := H
 have A2 := Aside0.mk A20
 clear A20
 replace H := Option.bind_eq_some_iff.mp H
 obtain ⟨⟨t209, t210⟩, A30, H⟩ := H
 replace H : ((mon_Else.f k t200 t209 t210 30 3 5).bind fun bt214 => ((mon_Mon_Pc.f t204 t205).bind fun t219 => (if t219 = 1 then ((mon_Mon_Pc.f t209 t210).bind fun t220 => (if t220 = 3 then (if (bt214.2.length : Int) = 2 then ((mon_Join.f k t209 t210 9).bind fun bt221 => ((mon_Mon_Pc.f bt221.1 bt221.2).bind fun t225 => (if t225 = 3 then ((mon_Join.f k t209 t210 20).bind fun bt226 => ((mon_Mon_Pc.f bt226.1 bt226.2).bind fun t230 => (if t230 = 1 then ((mon_Join.f k t209 t210 20).bind fun bt231 => ((mon_Join.f k bt231.1 bt231.2 9).bind fun bt235 => ((mon_Mon_Pc.f bt235.1 bt235.2).bind fun t239 => (if t239 = 0 then ((mon_Take.f t209 t210 2).bind fun t240 => ((colloquylaw20_num.f t240).bind fun t241 => (if t241 = 11 then ((mon_Take.f t209 t210 3).bind fun t242 => (if t242.isNone = true then ((mon_Raise.f k t200 t204 t205 (([0, 2] : List Int))).bind fun t247 => (if t247 = 3 then ((mon_May.f k t200 1 2).bind fun t248 => ((colloquylaw20_num.f t248).bind fun t249 => (if t249 = 11 then ((mon_May.f k t200 1 3).bind fun t250 => (if t250.isNone = true then ((mon_Check.f k t200 t209 t210).bind fun t252 => (if t252.isNone = true then ((mon_Check.f k t200 0 (([(⟨0, 0, 0⟩ : S58)] : List (S58)))).bind fun t257 => ((colloquylaw20_num.f t257).bind fun t258 => (some (t258 == 1)))) else (none))) else (none))) else (none)))) else (none))) else (none))) else (none)))) else (none))))) else (none)))) else (none)))) else (none)) else (none))) else (none)))) = some r := H
 have A3 := Aside0.mk A30
 clear A30
 replace H := Option.bind_eq_some_iff.mp H
 obtain ⟨⟨t214, t215⟩, A40, H⟩ := H
 replace H : ((mon_Mon_Pc.f t204 t205).bind fun t219 => (if t219 = 1 then ((mon_Mon_Pc.f t209 t210).bind fun t220 => (if t220 = 3 then (if (t215.length : Int) = 2 then ((mon_Join.f k t209 t210 9).bind fun bt221 => ((mon_Mon_Pc.f bt221.1 bt221.2).bind fun t225 => (if t225 = 3 then ((mon_Join.f k t209 t210 20).bind fun bt226 => ((mon_Mon_Pc.f bt226.1 bt226.2).bind fun t230 => (if t230 = 1 then ((mon_Join.f k t209 t210 20).bind fun bt231 => ((mon_Join.f k bt231.1 bt231.2 9).bind fun bt235 => ((mon_Mon_Pc.f bt235.1 bt235.2).bind fun t239 => (if t239 = 0 then ((mon_Take.f t209 t210 2).bind fun t240 => ((colloquylaw20_num.f t240).bind fun t241 => (if t241 = 11 then ((mon_Take.f t209 t210 3).bind fun t242 => (if t242.isNone = true then ((mon_Raise.f k t200 t204 t205 (([0, 2] : List Int))).bind fun t247 => (if t247 = 3 then ((mon_May.f k t200 1 2).bind fun t248 => ((colloquylaw20_num.f t248).bind fun t249 => (if t249 = 11 then ((mon_May.f k t200 1 3).bind fun t250 => (if t250.isNone = true then ((mon_Check.f k t200 t209 t210).bind fun t252 => (if t252.isNone = true then ((mon_Check.f k t200 0 (([(⟨0, 0, 0⟩ : S58)] : List (S58)))).bind fun t257 => ((colloquylaw20_num.f t257).bind fun t258 => (some (t258 == 1)))) else (none))) else (none))) else (none)))) else (none))) else (none))) else (none)))) else (none))))) else (none)))) else (none)))) else (none)) else (none))) else (none))) = some r := H
 have A4 := Aside0.mk A40
 clear A40
 replace H := Option.bind_eq_some_iff.mp H
 obtain ⟨t219, A50, H⟩ := H
 replace H : (if t219 = 1 then ((mon_Mon_Pc.f t209 t210).bind fun t220 => (if t220 = 3 then (if (t215.length : Int) = 2 then ((mon_Join.f k t209 t210 9).bind fun bt221 => ((mon_Mon_Pc.f bt221.1 bt221.2).bind fun t225 => (if t225 = 3 then ((mon_Join.f k t209 t210 20).bind fun bt226 => ((mon_Mon_Pc.f bt226.1 bt226.2).bind fun t230 => (if t230 = 1 then ((mon_Join.f k t209 t210 20).bind fun bt231 => ((mon_Join.f k bt231.1 bt231.2 9).bind fun bt235 => ((mon_Mon_Pc.f bt235.1 bt235.2).bind fun t239 => (if t239 = 0 then ((mon_Take.f t209 t210 2).bind fun t240 => ((colloquylaw20_num.f t240).bind fun t241 => (if t241 = 11 then ((mon_Take.f t209 t210 3).bind fun t242 => (if t242.isNone = true then ((mon_Raise.f k t200 t204 t205 (([0, 2] : List Int))).bind fun t247 => (if t247 = 3 then ((mon_May.f k t200 1 2).bind fun t248 => ((colloquylaw20_num.f t248).bind fun t249 => (if t249 = 11 then ((mon_May.f k t200 1 3).bind fun t250 => (if t250.isNone = true then ((mon_Check.f k t200 t209 t210).bind fun t252 => (if t252.isNone = true then ((mon_Check.f k t200 0 (([(⟨0, 0, 0⟩ : S58)] : List (S58)))).bind fun t257 => ((colloquylaw20_num.f t257).bind fun t258 => (some (t258 == 1)))) else (none))) else (none))) else (none)))) else (none))) else (none))) else (none)))) else (none))))) else (none)))) else (none)))) else (none)) else (none))) else (none)) = some r := H
 have A5 := Aside0.mk A50
 clear A50
 by_cases c6 : t219 = 1
 ·rw [if_pos c6] at H
  have c6b0 : (t219 == 1) = true := beq_iff_eq.mpr c6
  have c6b1 : (t219 != 1) = false := bne_eq_false_iff_eq.mpr c6
  clear c6
  replace H := Option.bind_eq_some_iff.mp H
  obtain ⟨t220, A70, H⟩ := H
  replace H : (if t220 = 3 then (if (t215.length : Int) = 2 then ((mon_Join.f k t209 t210 9).bind fun bt221 => ((mon_Mon_Pc.f bt221.1 bt221.2).bind fun t225 => (if t225 = 3 then ((mon_Join.f k t209 t210 20).bind fun bt226 => ((mon_Mon_Pc.f bt226.1 bt226.2).bind fun t230 => (if t230 = 1 then ((mon_Join.f k t209 t210 20).bind fun bt231 => ((mon_Join.f k bt231.1 bt231.2 9).bind fun bt235 => ((mon_Mon_Pc.f bt235.1 bt235.2).bind fun t239 => (if t239 = 0 then ((mon_Take.f t209 t210 2).bind fun t240 => ((colloquylaw20_num.f t240).bind fun t241 => (if t241 = 11 then ((mon_Take.f t209 t210 3).bind fun t242 => (if t242.isNone = true then ((mon_Raise.f k t200 t204 t205 (([0, 2] : List Int))).bind fun t247 => (if t247 = 3 then ((mon_May.f k t200 1 2).bind fun t248 => ((colloquylaw20_num.f t248).bind fun t249 => (if t249 = 11 then ((mon_May.f k t200 1 3).bind fun t250 => (if t250.isNone = true then ((mon_Check.f k t200 t209 t210).bind fun t252 => (if t252.isNone = true then ((mon_Check.f k t200 0 (([(⟨0, 0, 0⟩ : S58)] : List (S58)))).bind fun t257 => ((colloquylaw20_num.f t257).bind fun t258 => (some (t258 == 1)))) else (none))) else (none))) else (none)))) else (none))) else (none))) else (none)))) else (none))))) else (none)))) else (none)))) else (none)) else (none)) = some r := H
  have A7 := Aside0.mk A70
  clear A70
  by_cases c8 : t220 = 3
  ·rw [if_pos c8] at H
   have c8b0 : (t220 == 3) = true := beq_iff_eq.mpr c8
   have c8b1 : (t220 != 3) = false := bne_eq_false_iff_eq.mpr c8
   clear c8
   by_cases c9 : (t215.length : Int) = 2
   ·rw [if_pos c9] at H
    have c9b0 : ((t215.length : Int) == 2) = true := beq_iff_eq.mpr c9
    have c9b1 : ((t215.length : Int) != 2) = false := bne_eq_false_iff_eq.mpr c9
    clear c9
    replace H := Option.bind_eq_some_iff.mp H
    obtain ⟨⟨t221, t222⟩, A100, H⟩ := H
    replace H : ((mon_Mon_Pc.f t221 t222).bind fun t225 => (if t225 = 3 then ((mon_Join.f k t209 t210 20).bind fun bt226 => ((mon_Mon_Pc.f bt226.1 bt226.2).bind fun t230 => (if t230 = 1 then ((mon_Join.f k t209 t210 20).bind fun bt231 => ((mon_Join.f k bt231.1 bt231.2 9).bind fun bt235 => ((mon_Mon_Pc.f bt235.1 bt235.2).bind fun t239 => (if t239 = 0 then ((mon_Take.f t209 t210 2).bind fun t240 => ((colloquylaw20_num.f t240).bind fun t241 => (if t241 = 11 then ((mon_Take.f t209 t210 3).bind fun t242 => (if t242.isNone = true then ((mon_Raise.f k t200 t204 t205 (([0, 2] : List Int))).bind fun t247 => (if t247 = 3 then ((mon_May.f k t200 1 2).bind fun t248 => ((colloquylaw20_num.f t248).bind fun t249 => (if t249 = 11 then ((mon_May.f k t200 1 3).bind fun t250 => (if t250.isNone = true then ((mon_Check.f k t200 t209 t210).bind fun t252 => (if t252.isNone = true then ((mon_Check.f k t200 0 (([(⟨0, 0, 0⟩ : S58)] : List (S58)))).bind fun t257 => ((colloquylaw20_num.f t257).bind fun t258 => (some (t258 == 1)))) else (none))) else (none))) else (none)))) else (none))) else (none))) else (none)))) else (none))))) else (none)))) else (none))) = some r := H
    have A10 := Aside0.mk A100
    clear A100
    replace H := Option.bind_eq_some_iff.mp H
    obtain ⟨t225, A110, H⟩ := H
    replace H : (if t225 = 3 then ((mon_Join.f k t209 t210 20).bind fun bt226 => ((mon_Mon_Pc.f bt226.1 bt226.2).bind fun t230 => (if t230 = 1 then ((mon_Join.f k t209 t210 20).bind fun bt231 => ((mon_Join.f k bt231.1 bt231.2 9).bind fun bt235 => ((mon_Mon_Pc.f bt235.1 bt235.2).bind fun t239 => (if t239 = 0 then ((mon_Take.f t209 t210 2).bind fun t240 => ((colloquylaw20_num.f t240).bind fun t241 => (if t241 = 11 then ((mon_Take.f t209 t210 3).bind fun t242 => (if t242.isNone = true then ((mon_Raise.f k t200 t204 t205 (([0, 2] : List Int))).bind fun t247 => (if t247 = 3 then ((mon_May.f k t200 1 2).bind fun t248 => ((colloquylaw20_num.f t248).bind fun t249 => (if t249 = 11 then ((mon_May.f k t200 1 3).bind fun t250 => (if t250.isNone = true then ((mon_Check.f k t200 t209 t210).bind fun t252 => (if t252.isNone = true then ((mon_Check.f k t200 0 (([(⟨0, 0, 0⟩ : S58)] : List (S58)))).bind fun t257 => ((colloquylaw20_num.f t257).bind fun t258 => (some (t258 == 1)))) else (none))) else (none))) else (none)))) else (none))) else (none))) else (none)))) else (none))))) else (none)))) else (none)) = some r := H
    have A11 := Aside0.mk A110
    clear A110
    by_cases c12 : t225 = 3
    ·rw [if_pos c12] at H
     have c12b0 : (t225 == 3) = true := beq_iff_eq.mpr c12
     have c12b1 : (t225 != 3) = false := bne_eq_false_iff_eq.mpr c12
     clear c12
     replace H := Option.bind_eq_some_iff.mp H
     obtain ⟨⟨t226, t227⟩, A130, H⟩ := H
     replace H : ((mon_Mon_Pc.f t226 t227).bind fun t230 => (if t230 = 1 then ((mon_Join.f k t209 t210 20).bind fun bt231 => ((mon_Join.f k bt231.1 bt231.2 9).bind fun bt235 => ((mon_Mon_Pc.f bt235.1 bt235.2).bind fun t239 => (if t239 = 0 then ((mon_Take.f t209 t210 2).bind fun t240 => ((colloquylaw20_num.f t240).bind fun t241 => (if t241 = 11 then ((mon_Take.f t209 t210 3).bind fun t242 => (if t242.isNone = true then ((mon_Raise.f k t200 t204 t205 (([0, 2] : List Int))).bind fun t247 => (if t247 = 3 then ((mon_May.f k t200 1 2).bind fun t248 => ((colloquylaw20_num.f t248).bind fun t249 => (if t249 = 11 then ((mon_May.f k t200 1 3).bind fun t250 => (if t250.isNone = true then ((mon_Check.f k t200 t209 t210).bind fun t252 => (if t252.isNone = true then ((mon_Check.f k t200 0 (([(⟨0, 0, 0⟩ : S58)] : List (S58)))).bind fun t257 => ((colloquylaw20_num.f t257).bind fun t258 => (some (t258 == 1)))) else (none))) else (none))) else (none)))) else (none))) else (none))) else (none)))) else (none))))) else (none))) = some r := H
     have A13 := Aside0.mk A130
     clear A130
     replace H := Option.bind_eq_some_iff.mp H
     obtain ⟨t230, A140, H⟩ := H
     replace H : (if t230 = 1 then ((mon_Join.f k t209 t210 20).bind fun bt231 => ((mon_Join.f k bt231.1 bt231.2 9).bind fun bt235 => ((mon_Mon_Pc.f bt235.1 bt235.2).bind fun t239 => (if t239 = 0 then ((mon_Take.f t209 t210 2).bind fun t240 => ((colloquylaw20_num.f t240).bind fun t241 => (if t241 = 11 then ((mon_Take.f t209 t210 3).bind fun t242 => (if t242.isNone = true then ((mon_Raise.f k t200 t204 t205 (([0, 2] : List Int))).bind fun t247 => (if t247 = 3 then ((mon_May.f k t200 1 2).bind fun t248 => ((colloquylaw20_num.f t248).bind fun t249 => (if t249 = 11 then ((mon_May.f k t200 1 3).bind fun t250 => (if t250.isNone = true then ((mon_Check.f k t200 t209 t210).bind fun t252 => (if t252.isNone = true then ((mon_Check.f k t200 0 (([(⟨0, 0, 0⟩ : S58)] : List (S58)))).bind fun t257 => ((colloquylaw20_num.f t257).bind fun t258 => (some (t258 == 1)))) else (none))) else (none))) else (none)))) else (none))) else (none))) else (none)))) else (none))))) else (none)) = some r := H
     have A14 := Aside0.mk A140
     clear A140
     by_cases c15 : t230 = 1
     ·rw [if_pos c15] at H
      have c15b0 : (t230 == 1) = true := beq_iff_eq.mpr c15
      have c15b1 : (t230 != 1) = false := bne_eq_false_iff_eq.mpr c15
      clear c15
      replace H := Option.bind_eq_some_iff.mp H
      obtain ⟨⟨t231, t232⟩, A160, H⟩ := H
      replace H : ((mon_Join.f k t231 t232 9).bind fun bt235 => ((mon_Mon_Pc.f bt235.1 bt235.2).bind fun t239 => (if t239 = 0 then ((mon_Take.f t209 t210 2).bind fun t240 => ((colloquylaw20_num.f t240).bind fun t241 => (if t241 = 11 then ((mon_Take.f t209 t210 3).bind fun t242 => (if t242.isNone = true then ((mon_Raise.f k t200 t204 t205 (([0, 2] : List Int))).bind fun t247 => (if t247 = 3 then ((mon_May.f k t200 1 2).bind fun t248 => ((colloquylaw20_num.f t248).bind fun t249 => (if t249 = 11 then ((mon_May.f k t200 1 3).bind fun t250 => (if t250.isNone = true then ((mon_Check.f k t200 t209 t210).bind fun t252 => (if t252.isNone = true then ((mon_Check.f k t200 0 (([(⟨0, 0, 0⟩ : S58)] : List (S58)))).bind fun t257 => ((colloquylaw20_num.f t257).bind fun t258 => (some (t258 == 1)))) else (none))) else (none))) else (none)))) else (none))) else (none))) else (none)))) else (none)))) = some r := H
      have A16 := Aside0.mk A160
      clear A160
      replace H := Option.bind_eq_some_iff.mp H
      obtain ⟨⟨t235, t236⟩, A170, H⟩ := H
      replace H : ((mon_Mon_Pc.f t235 t236).bind fun t239 => (if t239 = 0 then ((mon_Take.f t209 t210 2).bind fun t240 => ((colloquylaw20_num.f t240).bind fun t241 => (if t241 = 11 then ((mon_Take.f t209 t210 3).bind fun t242 => (if t242.isNone = true then ((mon_Raise.f k t200 t204 t205 (([0, 2] : List Int))).bind fun t247 => (if t247 = 3 then ((mon_May.f k t200 1 2).bind fun t248 => ((colloquylaw20_num.f t248).bind fun t249 => (if t249 = 11 then ((mon_May.f k t200 1 3).bind fun t250 => (if t250.isNone = true then ((mon_Check.f k t200 t209 t210).bind fun t252 => (if t252.isNone = true then ((mon_Check.f k t200 0 (([(⟨0, 0, 0⟩ : S58)] : List (S58)))).bind fun t257 => ((colloquylaw20_num.f t257).bind fun t258 => (some (t258 == 1)))) else (none))) else (none))) else (none)))) else (none))) else (none))) else (none)))) else (none))) = some r := H
      have A17 := Aside0.mk A170
      clear A170
      replace H := Option.bind_eq_some_iff.mp H
      obtain ⟨t239, A180, H⟩ := H
      replace H : (if t239 = 0 then ((mon_Take.f t209 t210 2).bind fun t240 => ((colloquylaw20_num.f t240).bind fun t241 => (if t241 = 11 then ((mon_Take.f t209 t210 3).bind fun t242 => (if t242.isNone = true then ((mon_Raise.f k t200 t204 t205 (([0, 2] : List Int))).bind fun t247 => (if t247 = 3 then ((mon_May.f k t200 1 2).bind fun t248 => ((colloquylaw20_num.f t248).bind fun t249 => (if t249 = 11 then ((mon_May.f k t200 1 3).bind fun t250 => (if t250.isNone = true then ((mon_Check.f k t200 t209 t210).bind fun t252 => (if t252.isNone = true then ((mon_Check.f k t200 0 (([(⟨0, 0, 0⟩ : S58)] : List (S58)))).bind fun t257 => ((colloquylaw20_num.f t257).bind fun t258 => (some (t258 == 1)))) else (none))) else (none))) else (none)))) else (none))) else (none))) else (none)))) else (none)) = some r := H
      have A18 := Aside0.mk A180
      clear A180
      by_cases c19 : t239 = 0
      ·rw [if_pos c19] at H
       have c19b0 : (t239 == 0) = true := beq_iff_eq.mpr c19
       have c19b1 : (t239 != 0) = false := bne_eq_false_iff_eq.mpr c19
       clear c19
       replace H := Option.bind_eq_some_iff.mp H
       obtain ⟨t240, A200, H⟩ := H
       replace H : ((colloquylaw20_num.f t240).bind fun t241 => (if t241 = 11 then ((mon_Take.f t209 t210 3).bind fun t242 => (if t242.isNone = true then ((mon_Raise.f k t200 t204 t205 (([0, 2] : List Int))).bind fun t247 => (if t247 = 3 then ((mon_May.f k t200 1 2).bind fun t248 => ((colloquylaw20_num.f t248).bind fun t249 => (if t249 = 11 then ((mon_May.f k t200 1 3).bind fun t250 => (if t250.isNone = true then ((mon_Check.f k t200 t209 t210).bind fun t252 => (if t252.isNone = true then ((mon_Check.f k t200 0 (([(⟨0, 0, 0⟩ : S58)] : List (S58)))).bind fun t257 => ((colloquylaw20_num.f t257).bind fun t258 => (some (t258 == 1)))) else (none))) else (none))) else (none)))) else (none))) else (none))) else (none))) = some r := H
       have A20 := Aside0.mk A200
       clear A200
       replace H := Option.bind_eq_some_iff.mp H
       obtain ⟨t241, A210, H⟩ := H
       replace H : (if t241 = 11 then ((mon_Take.f t209 t210 3).bind fun t242 => (if t242.isNone = true then ((mon_Raise.f k t200 t204 t205 (([0, 2] : List Int))).bind fun t247 => (if t247 = 3 then ((mon_May.f k t200 1 2).bind fun t248 => ((colloquylaw20_num.f t248).bind fun t249 => (if t249 = 11 then ((mon_May.f k t200 1 3).bind fun t250 => (if t250.isNone = true then ((mon_Check.f k t200 t209 t210).bind fun t252 => (if t252.isNone = true then ((mon_Check.f k t200 0 (([(⟨0, 0, 0⟩ : S58)] : List (S58)))).bind fun t257 => ((colloquylaw20_num.f t257).bind fun t258 => (some (t258 == 1)))) else (none))) else (none))) else (none)))) else (none))) else (none))) else (none)) = some r := H
       have A21 := Aside0.mk A210
       clear A210
       by_cases c22 : t241 = 11
       ·rw [if_pos c22] at H
        have c22b0 : (t241 == 11) = true := beq_iff_eq.mpr c22
        have c22b1 : (t241 != 11) = false := bne_eq_false_iff_eq.mpr c22
        clear c22
        replace H := Option.bind_eq_some_iff.mp H
        obtain ⟨t242, A230, H⟩ := H
        replace H : (if t242.isNone = true then ((mon_Raise.f k t200 t204 t205 (([0, 2] : List Int))).bind fun t247 => (if t247 = 3 then ((mon_May.f k t200 1 2).bind fun t248 => ((colloquylaw20_num.f t248).bind fun t249 => (if t249 = 11 then ((mon_May.f k t200 1 3).bind fun t250 => (if t250.isNone = true then ((mon_Check.f k t200 t209 t210).bind fun t252 => (if t252.isNone = true then ((mon_Check.f k t200 0 (([(⟨0, 0, 0⟩ : S58)] : List (S58)))).bind fun t257 => ((colloquylaw20_num.f t257).bind fun t258 => (some (t258 == 1)))) else (none))) else (none))) else (none)))) else (none))) else (none)) = some r := H
        have A23 := Aside0.mk A230
        clear A230
        rcases t242 with _ | q243
        ·have H1 : ((mon_Raise.f k t200 t204 t205 (([0, 2] : List Int))).bind fun t247 => (if t247 = 3 then ((mon_May.f k t200 1 2).bind fun t248 => ((colloquylaw20_num.f t248).bind fun t249 => (if t249 = 11 then ((mon_May.f k t200 1 3).bind fun t250 => (if t250.isNone = true then ((mon_Check.f k t200 t209 t210).bind fun t252 => (if t252.isNone = true then ((mon_Check.f k t200 0 (([(⟨0, 0, 0⟩ : S58)] : List (S58)))).bind fun t257 => ((colloquylaw20_num.f t257).bind fun t258 => (some (t258 == 1)))) else (none))) else (none))) else (none)))) else (none))) = some r := by rw [if_pos (show (none : Option Int).isNone = true by rfl)] at H; exact H
         clear H
         have H := H1
         clear H1
         try simp only [errW_none, errW_some]
         obtain ⟨y244, hy244⟩ : ∃ y_ : List Int, y_ = (([0, 2] : List Int)) := ⟨_, rfl⟩
         replace H : ((mon_Raise.f k t200 t204 t205 y244).bind fun t247 => (if t247 = 3 then ((mon_May.f k t200 1 2).bind fun t248 => ((colloquylaw20_num.f t248).bind fun t249 => (if t249 = 11 then ((mon_May.f k t200 1 3).bind fun t250 => (if t250.isNone = true then ((mon_Check.f k t200 t209 t210).bind fun t252 => (if t252.isNone = true then ((mon_Check.f k t200 0 (([(⟨0, 0, 0⟩ : S58)] : List (S58)))).bind fun t257 => ((colloquylaw20_num.f t257).bind fun t258 => (some (t258 == 1)))) else (none))) else (none))) else (none)))) else (none))) = some r := by first | (rw [hy244]; with_reducible exact H) | (have H2_ := (Option.bind_some _ _).symm.trans H; rw [hy244]; with_reducible exact H2_) | (have H2_ := (Option.bind_some _ _).symm.trans H; with_reducible exact H2_) | with_reducible exact H | (rw [hy244]; exact H) | exact H
         have Ny244 := Aside0.mk hy244
         clear hy244
         replace H := Option.bind_eq_some_iff.mp H
         obtain ⟨t247, A240, H⟩ := H
         replace H : (if t247 = 3 then ((mon_May.f k t200 1 2).bind fun t248 => ((colloquylaw20_num.f t248).bind fun t249 => (if t249 = 11 then ((mon_May.f k t200 1 3).bind fun t250 => (if t250.isNone = true then ((mon_Check.f k t200 t209 t210).bind fun t252 => (if t252.isNone = true then ((mon_Check.f k t200 0 (([(⟨0, 0, 0⟩ : S58)] : List (S58)))).bind fun t257 => ((colloquylaw20_num.f t257).bind fun t258 => (some (t258 == 1)))) else (none))) else (none))) else (none)))) else (none)) = some r := H
         have A24 := Aside0.mk A240
         clear A240
         by_cases c25 : t247 = 3
         ·rw [if_pos c25] at H
          have c25b0 : (t247 == 3) = true := beq_iff_eq.mpr c25
          have c25b1 : (t247 != 3) = false := bne_eq_false_iff_eq.mpr c25
          clear c25
          replace H := Option.bind_eq_some_iff.mp H
          obtain ⟨t248, A260, H⟩ := H
          replace H : ((colloquylaw20_num.f t248).bind fun t249 => (if t249 = 11 then ((mon_May.f k t200 1 3).bind fun t250 => (if t250.isNone = true then ((mon_Check.f k t200 t209 t210).bind fun t252 => (if t252.isNone = true then ((mon_Check.f k t200 0 (([(⟨0, 0, 0⟩ : S58)] : List (S58)))).bind fun t257 => ((colloquylaw20_num.f t257).bind fun t258 => (some (t258 == 1)))) else (none))) else (none))) else (none))) = some r := H
          have A26 := Aside0.mk A260
          clear A260
          replace H := Option.bind_eq_some_iff.mp H
          obtain ⟨t249, A270, H⟩ := H
          replace H : (if t249 = 11 then ((mon_May.f k t200 1 3).bind fun t250 => (if t250.isNone = true then ((mon_Check.f k t200 t209 t210).bind fun t252 => (if t252.isNone = true then ((mon_Check.f k t200 0 (([(⟨0, 0, 0⟩ : S58)] : List (S58)))).bind fun t257 => ((colloquylaw20_num.f t257).bind fun t258 => (some (t258 == 1)))) else (none))) else (none))) else (none)) = some r := H
          have A27 := Aside0.mk A270
          clear A270
          by_cases c28 : t249 = 11
          ·rw [if_pos c28] at H
           have c28b0 : (t249 == 11) = true := beq_iff_eq.mpr c28
           have c28b1 : (t249 != 11) = false := bne_eq_false_iff_eq.mpr c28
           clear c28
           replace H := Option.bind_eq_some_iff.mp H
           obtain ⟨t250, A290, H⟩ := H
           replace H : (if t250.isNone = true then ((mon_Check.f k t200 t209 t210).bind fun t252 => (if t252.isNone = true then ((mon_Check.f k t200 0 (([(⟨0, 0, 0⟩ : S58)] : List (S58)))).bind fun t257 => ((colloquylaw20_num.f t257).bind fun t258 => (some (t258 == 1)))) else (none))) else (none)) = some r := H
           have A29 := Aside0.mk A290
           clear A290
           rcases t250 with _ | q251
           ·have H1 : ((mon_Check.f k t200 t209 t210).bind fun t252 => (if t252.isNone = true then ((mon_Check.f k t200 0 (([(⟨0, 0, 0⟩ : S58)] : List (S58)))).bind fun t257 => ((colloquylaw20_num.f t257).bind fun t258 => (some (t258 == 1)))) else (none))) = some r := by rw [if_pos (show (none : Option Int).isNone = true by rfl)] at H; exact H
            clear H
            have H := H1
            clear H1
            try simp only [errW_none, errW_some]
            replace H := Option.bind_eq_some_iff.mp H
            obtain ⟨t252, A300, H⟩ := H
            replace H : (if t252.isNone = true then ((mon_Check.f k t200 0 (([(⟨0, 0, 0⟩ : S58)] : List (S58)))).bind fun t257 => ((colloquylaw20_num.f t257).bind fun t258 => (some (t258 == 1)))) else (none)) = some r := H
            have A30 := Aside0.mk A300
            clear A300
            rcases t252 with _ | q253
            ·have H1 : ((mon_Check.f k t200 0 (([(⟨0, 0, 0⟩ : S58)] : List (S58)))).bind fun t257 => ((colloquylaw20_num.f t257).bind fun t258 => (some (t258 == 1)))) = some r := by rw [if_pos (show (none : Option Int).isNone = true by rfl)] at H; exact H
             clear H
             have H := H1
             clear H1
             try simp only [errW_none, errW_some]
             obtain ⟨y254, hy254⟩ : ∃ y_ : List (S58), y_ = (([(⟨0, 0, 0⟩ : S58)] : List (S58))) := ⟨_, rfl⟩
             replace H : ((mon_Check.f k t200 0 y254).bind fun t257 => ((colloquylaw20_num.f t257).bind fun t258 => (some (t258 == 1)))) = some r := by first | (rw [hy254]; with_reducible exact H) | (have H2_ := (Option.bind_some _ _).symm.trans H; rw [hy254]; with_reducible exact H2_) | (have H2_ := (Option.bind_some _ _).symm.trans H; with_reducible exact H2_) | with_reducible exact H | (rw [hy254]; exact H) | exact H
             have Ny254 := Aside0.mk hy254
             clear hy254
             replace H := Option.bind_eq_some_iff.mp H
             obtain ⟨t257, A310, H⟩ := H
             replace H : ((colloquylaw20_num.f t257).bind fun t258 => (some (t258 == 1))) = some r := H
             have A31 := Aside0.mk A310
             clear A310
             replace H := Option.bind_eq_some_iff.mp H
             obtain ⟨t258, A320, H⟩ := H
             replace H : (some (t258 == 1)) = some r := H
             have A32 := Aside0.mk A320
             clear A320
             obtain rfl := Option.some.inj H
             have TK68 : True := trivial
             have TK73 : True := trivial
             go_enter Tryd.func7, Tryd.ntmps7
             try simp only [List.append_eq, List.cons_append, List.nil_append]
             go_wp2_with (first | ((with_reducible refine gate_callee (f := 26) rfl ?_); refine goesL_ (some 5) rfl rfl Tryd.func26 (by kernel_rfl) rfl #[] rfl uC ?_; (with_reducible refine (lattice_Square.calls  t200 _ A1.out).mono ?_); rintro e w33 ⟨v201, rfl, ho0, hb⟩; refine ⟨_, rfl, ?_⟩; have HO202 := Aside0.mk (Kd.R_lower ho0 (below_size (uB0 HB))); replace HB := Aside0.mk (below_step (uB0 HB) hb); (try clear hb); (try clear hb2); (try clear hk); (try clear hi); (try clear ho0)) | ((with_reducible refine gate_dst (N := 1) rfl ?_); (try (refine gate_guard (by rfl) ?_; dsimp only)); refine box_event ?hg (N := 1) ?hd (cs := #[.slice none 0 0]) (t := 31) ?hr ?_; (case hd => rfl); (case hg => rfl); (case hr => first | (go_simp; done) | (go_simp; rfl)); intro gb203 hg w34 hbox hb; replace HO202 := uRd HO202 hb; have BK203 := Aside0.mk (hbox); have GW203 := Aside0.mk ((by rw [hg]; exact (below_size (uB0 HB)) : w.heap.size ≤ gb203)); have GE203 := Aside0.mk ((by rw [hg]; exact (below_size (uB0 HB)) : w.heap.size ≤ gb203)); replace HB := Aside0.mk (below_step (uB0 HB) hb); clear hb hbox hg; obtain ⟨Ao35, co35, eo35⟩ := Kd.R_slice HO202.out; subst eo35; have hcz36_0 : w34.cell? ⟨gb203, 0, none⟩ = some (.slice none 0 0) := uF BK203 0; have hfz36_0 := blk_frozen BK203.out 0) | ((with_reducible refine gate_callee (f := 17) rfl ?_); refine goesL_ (some 8) rfl rfl Tryd.func17 (by kernel_rfl) rfl #[.agg #[.slice Ao35 t200.length co35], .agg #[.int .i64 0, .slice none 0 0], .int .i64 9, .int .i64 1, .int .i64 0] rfl uC ?_; (refine (mon_Else.calls k _ _ t200 0 _ _ ([] : List (S58)) 9 1 0 t204 t205 _ ?side1 ?side2 ?side3 ?side4 A2.out).mono ?_); (case side1 => refine (Kd.R_reads' (e := 5) (base := w.heap.size) (ok := fun k_ => True) (n := t200.length) (c := co35) ?_).2.2; exact (uT HO202 BK203)); (case side2 => exact (Kd.R_reads' HO202.out).2.1); (case side3 => exact Kd.C_nil _ _); (case side4 => exact Nat.le_refl _); rintro e w37 ⟨v206, rfl, ho0, hb⟩; refine ⟨_, rfl, ?_⟩; replace HO202 := Aside0.mk (Kd.R_below (uT HO202 BK203) hb); have HO207 := Aside0.mk (Kd.R_lower ho0 (below_size (uB1 HB GE203))); replace BK203 := Aside0.mk (blk_below (g := gb203) (o := .cells #[.slice Ao35 t200.length co35] 31 (0, 0)) (by (with_reducible repeat (first | refine blk_drewN ?_ _ | refine blk_drew ?_ | refine blk_alloc ?_ _)); refine blk_put (cs := #[.slice none 0 0]) ?_ 0 _ rfl; (with_reducible repeat (first | refine blk_drewN ?_ _ | refine blk_drew ?_ | refine blk_alloc ?_ _)); exact BK203.out) hb); replace HB := Aside0.mk (below_step (uB1 HB GE203) hb); (try clear hb); (try clear hb2); (try clear hk); (try clear hi); (try clear ho0)) | ((with_reducible refine gate_dst (N := 2) rfl ?_); (try (refine gate_guard (by rfl) ?_; dsimp only)); refine box_event ?hg (N := 2) ?hd (cs := #[.int .i64 0, .slice none 0 0]) (t := 34) ?hr ?_; (case hd => rfl); (case hg => rfl); (case hr => first | (go_simp; done) | (go_simp; rfl)); intro gb208 hg w38 hbox hb; replace HO202 := uRd HO202 hb; replace HO207 := uRd HO207 hb; have BK208 := Aside0.mk (hbox); have GW208 := Aside0.mk ((by rw [hg]; exact (below_size (uB1 HB GE203)) : w.heap.size ≤ gb208)); have GE208 := Aside0.mk ((by rw [hg]; exact (below_size (uB1 HB GE203)) : w.heap.size ≤ gb208)); replace HB := Aside0.mk (below_step (uB1 HB GE203) hb); have NB203_208 := uN1 BK203 hg; have NB208_203 := uN2 BK203 hg; replace BK203 := uD BK203 hb; clear hb hbox hg; have hnb39 := NB208_203.out; have hnc39 := NB203_208.out; have hcz40_0 : w38.cell? ⟨gb208, 0, none⟩ = some (.int .i64 0) := uF BK208 0; have hcz40_1 : w38.cell? ⟨gb208, 1, none⟩ = some (.slice none 0 0) := uF BK208 1; have hfz40_0 := blk_frozen BK208.out 0; have hfz40_1 := blk_frozen BK208.out 1; obtain ⟨Ao41, co41, eo41⟩ := Kd.R_slice HO207.out; subst eo41; have hcz42_0 : w38.cell? ⟨gb203, 0, none⟩ = some (.slice Ao35 t200.length co35) := uF BK203 0; have hfz42_0 := blk_frozen BK203.out 0) | ((with_reducible refine gate_callee (f := 17) rfl ?_); refine goesL_ (some 11) rfl rfl Tryd.func17 (by kernel_rfl) rfl #[.agg #[.slice Ao35 t200.length co35], .agg #[.int .i64 t204, .slice Ao41 t205.length co41], .int .i64 20, .int .i64 2, .int .i64 3] rfl uC ?_; (with_reducible refine (mon_Else.calls k _ _ t200 t204 _ _ t205 20 2 3 t209 t210 _ ?side1 ?side2 ?side3 ?side4 A3.out).mono ?_); (case side1 => refine (Kd.R_reads' (e := 5) (base := w.heap.size) (ok := fun k_ => True) (n := t200.length) (c := co35) ?_).2.2; exact (uT HO202 BK208)); (case side2 => exact (Kd.R_reads' HO202.out).2.1); (case side3 => refine (Kd.R_reads' (e := 58) (base := w.heap.size) (ok := fun k_ => True) (n := t205.length) (c := co41) ?_).2.2; exact (uT HO207 BK208)); (case side4 => exact (Kd.R_reads' HO207.out).2.1); rintro e w43 ⟨v211, rfl, ho0, hb⟩; refine ⟨_, rfl, ?_⟩; replace HO202 := Aside0.mk (Kd.R_below (uT HO202 BK208) hb); have HO212 := Aside0.mk (Kd.R_lower (Kd.R_new' ho0 (Kd.R_lt (uT HO207 BK208))) (below_size (uB2 HB GE203 GE208))); replace HO207 := Aside0.mk (Kd.R_elder' (uT HO207 BK208) (Kd.R_base ho0) hb); replace BK203 := uX BK203 NB203_208 hb; replace BK208 := Aside0.mk (blk_below (g := gb208) (o := .cells #[.int .i64 t204, .slice Ao41 t205.length co41] 34 (0, 0)) (by (with_reducible repeat (first | refine blk_drewN ?_ _ | refine blk_drew ?_ | refine blk_alloc ?_ _)); refine blk_put (cs := #[.int .i64 t204, .slice none 0 0]) ?_ 1 _ rfl; (with_reducible repeat (first | refine blk_drewN ?_ _ | refine blk_drew ?_ | refine blk_alloc ?_ _)); refine blk_put (cs := #[.int .i64 0, .slice none 0 0]) ?_ 0 _ rfl; (with_reducible repeat (first | refine blk_drewN ?_ _ | refine blk_drew ?_ | refine blk_alloc ?_ _)); exact BK208.out) hb); replace HB := Aside0.mk (below_step (uB2 HB GE203 GE208) hb); (try clear hb); (try clear hb2); (try clear hk); (try clear hi); (try clear ho0)) | ((with_reducible refine gate_dst (N := 3) rfl ?_); (try (refine gate_guard (by rfl) ?_; dsimp only)); refine box_event ?hg (N := 3) ?hd (cs := #[.int .i64 0, .slice none 0 0]) (t := 34) ?hr ?_; (case hd => rfl); (case hg => rfl); (case hr => first | (go_simp; done) | (go_simp; rfl)); intro gb213 hg w44 hbox hb; replace HO202 := uRd HO202 hb; replace HO207 := uRd HO207 hb; replace HO212 := uRd HO212 hb; have BK213 := Aside0.mk (hbox); have GW213 := Aside0.mk ((by rw [hg]; exact (below_size (uB2 HB GE203 GE208)) : w.heap.size ≤ gb213)); have GE213 := Aside0.mk ((by rw [hg]; exact (below_size (uB2 HB GE203 GE208)) : w.heap.size ≤ gb213)); replace HB := Aside0.mk (below_step (uB2 HB GE203 GE208) hb); have NB203_213 := uN1 BK203 hg; have NB213_203 := uN2 BK203 hg; replace BK203 := uD BK203 hb; have NB208_213 := uN1 BK208 hg; have NB213_208 := uN2 BK208 hg; replace BK208 := uD BK208 hb; clear hb hbox hg; have hnb45 := NB213_203.out; have hnc45 := NB203_213.out; have hnb46 := NB213_208.out; have hnc46 := NB208_213.out; have hcz47_0 : w44.cell? ⟨gb213, 0, none⟩ = some (.int .i64 0) := uF BK213 0; have hcz47_1 : w44.cell? ⟨gb213, 1, none⟩ = some (.slice none 0 0) := uF BK213 1; have hfz47_0 := blk_frozen BK213.out 0; have hfz47_1 := blk_frozen BK213.out 1; obtain ⟨Ao48, co48, eo48⟩ := Kd.R_slice HO212.out; subst eo48; have hcz49_0 : w44.cell? ⟨gb203, 0, none⟩ = some (.slice Ao35 t200.length co35) := uF BK203 0; have hfz49_0 := blk_frozen BK203.out 0) | ((with_reducible refine gate_callee (f := 17) rfl ?_); refine goesL_ (some 14) rfl rfl Tryd.func17 (by kernel_rfl) rfl #[.agg #[.slice Ao35 t200.length co35], .agg #[.int .i64 t209, .slice Ao48 t210.length co48], .int .i64 30, .int .i64 3, .int .i64 5] rfl uC ?_; (with_reducible refine (mon_Else.calls k _ _ t200 t209 _ _ t210 30 3 5 t214 t215 _ ?side1 ?side2 ?side3 ?side4 A4.out).mono ?_); (case side1 => refine (Kd.R_reads' (e := 5) (base := w.heap.size) (ok := fun k_ => True) (n := t200.length) (c := co35) ?_).2.2; exact (uT HO202 BK213)); (case side2 => exact (Kd.R_reads' HO202.out).2.1); (case side3 => refine (Kd.R_reads' (e := 58) (base := w.heap.size) (ok := fun k_ => (True ∧ some k_ ≠ (.slice Ao41 t205.length co41 : Value).ownBlock)) (n := t210.length) (c := co48) ?_).2.2; exact (uT HO212 BK213)); (case side4 => exact (Kd.R_reads' HO212.out).2.1); rintro e w50 ⟨v216, rfl, ho0, hb⟩; refine ⟨_, rfl, ?_⟩; replace HO202 := Aside0.mk (Kd.R_below (uT HO202 BK213) hb); have HO217 := Aside0.mk (Kd.R_lower (Kd.R_new' (Kd.R_new' ho0 (Kd.R_lt (uT HO207 BK213))) (Kd.R_lt (uT HO212 BK213))) (below_size (uB3 HB GE203 GE208 GE213))); replace HO207 := Aside0.mk (Kd.R_elder' (uT HO207 BK213) (Kd.R_base ho0) hb); replace HO212 := Aside0.mk (Kd.R_elder' (uT HO212 BK213) (Kd.R_base ho0) hb); replace BK203 := uX BK203 NB203_213 hb; replace BK208 := uX BK208 NB208_213 hb; replace BK213 := Aside0.mk (blk_below (g := gb213) (o := .cells #[.int .i64 t209, .slice Ao48 t210.length co48] 34 (0, 0)) (by (with_reducible repeat (first | refine blk_drewN ?_ _ | refine blk_drew ?_ | refine blk_alloc ?_ _)); refine blk_put (cs := #[.int .i64 t209, .slice none 0 0]) ?_ 1 _ rfl; (with_reducible repeat (first | refine blk_drewN ?_ _ | refine blk_drew ?_ | refine blk_alloc ?_ _)); refine blk_put (cs := #[.int .i64 0, .slice none 0 0]) ?_ 0 _ rfl; (with_reducible repeat (first | refine blk_drewN ?_ _ | refine blk_drew ?_ | refine blk_alloc ?_ _)); exact BK213.out) hb); replace HB := Aside0.mk (below_step (uB3 HB GE203 GE208 GE213) hb); (try clear hb); (try clear hb2); (try clear hk); (try clear hi); (try clear ho0)) | ((with_reducible refine gate_dst (N := 4) rfl ?_); (try (refine gate_guard (by rfl) ?_; dsimp only)); refine box_event ?hg (N := 4) ?hd (cs := #[.int .i64 0, .slice none 0 0]) (t := 34) ?hr ?_; (case hd => rfl); (case hg => rfl); (case hr => first | (go_simp; done) | (go_simp; rfl)); intro gb218 hg w51 hbox hb; replace HO202 := uRd HO202 hb; replace HO207 := uRd HO207 hb; replace HO212 := uRd HO212 hb; replace HO217 := uRd HO217 hb; have BK218 := Aside0.mk (hbox); have GW218 := Aside0.mk ((by rw [hg]; exact (below_size (uB3 HB GE203 GE208 GE213)) : w.heap.size ≤ gb218)); have GE218 := Aside0.mk ((by rw [hg]; exact (below_size (uB3 HB GE203 GE208 GE213)) : w.heap.size ≤ gb218)); replace HB := Aside0.mk (below_step (uB3 HB GE203 GE208 GE213) hb); have NB203_218 := uN1 BK203 hg; have NB218_203 := uN2 BK203 hg; replace BK203 := uD BK203 hb; have NB208_218 := uN1 BK208 hg; have NB218_208 := uN2 BK208 hg; replace BK208 := uD BK208 hb; have NB213_218 := uN1 BK213 hg; have NB218_213 := uN2 BK213 hg; replace BK213 := uD BK213 hb; clear hb hbox hg; have hnb52 := NB218_203.out; have hnc52 := NB203_218.out; have hnb53 := NB218_208.out; have hnc53 := NB208_218.out; have hnb54 := NB218_213.out; have hnc54 := NB213_218.out; have hcz55_0 : w51.cell? ⟨gb218, 0, none⟩ = some (.int .i64 0) := uF BK218 0; have hcz55_1 : w51.cell? ⟨gb218, 1, none⟩ = some (.slice none 0 0) := uF BK218 1; have hfz55_0 := blk_frozen BK218.out 0; have hfz55_1 := blk_frozen BK218.out 1; obtain ⟨Ao56, co56, eo56⟩ := Kd.R_slice HO217.out; subst eo56; have hcz57_0 : w51.cell? ⟨gb208, 0, none⟩ = some (.int .i64 t204) := uF BK208 0; have hcz57_1 : w51.cell? ⟨gb208, 1, none⟩ = some (.slice Ao41 t205.length co41) := uF BK208 1; have hfz57_0 := blk_frozen BK208.out 0; have hfz57_1 := blk_frozen BK208.out 1) | ((with_reducible refine gate_callee (f := 12) rfl ?_); refine goesL_ (some 16) rfl rfl Tryd.func12 (by kernel_rfl) rfl #[.agg #[.int .i64 t204, .slice Ao41 t205.length co41]] rfl uC ?_; (with_reducible refine (mon_Mon_Pc.calls t204 _ _ t205 t219 _ ?side1 ?side2 A5.out).mono ?_); (case side1 => refine (Kd.R_reads' (e := 58) (base := w.heap.size) (ok := fun k_ => ((True ∧ some k_ ≠ (.slice Ao48 t210.length co48 : Value).ownBlock) ∧ some k_ ≠ (.slice Ao56 t215.length co56 : Value).ownBlock)) (n := t205.length) (c := co41) ?_).2.2; exact (uT HO207 BK218)); (case side2 => exact (Kd.R_reads' HO207.out).2.1); rintro e w58 ⟨rfl, hb⟩; refine ⟨_, rfl, ?_⟩; replace HO202 := Aside0.mk (Kd.R_below (uT HO202 BK218) hb); replace HO207 := Aside0.mk (Kd.R_below (uT HO207 BK218) hb); replace HO212 := Aside0.mk (Kd.R_below (uT HO212 BK218) hb); replace HO217 := Aside0.mk (Kd.R_below (uT HO217 BK218) hb); replace BK203 := uX BK203 NB203_218 hb; replace BK208 := uX BK208 NB208_218 hb; replace BK213 := uX BK213 NB213_218 hb; replace BK218 := Aside0.mk (blk_below (g := gb218) (o := .cells #[.int .i64 t214, .slice Ao56 t215.length co56] 34 (0, 0)) (by (with_reducible repeat (first | refine blk_drewN ?_ _ | refine blk_drew ?_ | refine blk_alloc ?_ _)); refine blk_put (cs := #[.int .i64 t214, .slice none 0 0]) ?_ 1 _ rfl; (with_reducible repeat (first | refine blk_drewN ?_ _ | refine blk_drew ?_ | refine blk_alloc ?_ _)); refine blk_put (cs := #[.int .i64 0, .slice none 0 0]) ?_ 0 _ rfl; (with_reducible repeat (first | refine blk_drewN ?_ _ | refine blk_drew ?_ | refine blk_alloc ?_ _)); exact BK218.out) hb); replace HB := Aside0.mk (below_step (uB4 HB GE203 GE208 GE213 GE218) hb); (try clear hb); (try clear hb2); (try clear hk); (try clear hi); have hcz59_0 : w58.cell? ⟨gb213, 0, none⟩ = some (.int .i64 t209) := uF BK213 0; have hcz59_1 : w58.cell? ⟨gb213, 1, none⟩ = some (.slice Ao48 t210.length co48) := uF BK213 1; have hfz59_0 := blk_frozen BK213.out 0; have hfz59_1 := blk_frozen BK213.out 1) | (go_at_call 12; (with_reducible refine (mon_Mon_Pc.calls t209 _ _ t210 t220 _ ?side1 ?side2 A7.out).mono ?_); (case side1 => exact uS (Kd.R_reads' HO212.out).2.2); (case side2 => exact (Kd.R_reads' HO212.out).2.1); rintro e w60 ⟨rfl, hb⟩; replace HO202 := uRd HO202 hb; replace HO207 := uRd HO207 hb; replace HO212 := uRd HO212 hb; replace HO217 := uRd HO217 hb; replace BK203 := uD BK203 hb; replace BK208 := uD BK208 hb; replace BK213 := uD BK213 hb; replace BK218 := uD BK218 hb; replace HB := Aside0.mk (below_step (uB4 HB GE203 GE208 GE213 GE218) hb); (try clear hb); (try clear hb2); (try clear hk); (try clear hi); have hcz61_0 : w60.cell? ⟨gb218, 0, none⟩ = some (.int .i64 t214) := uF BK218 0; have hcz61_1 : w60.cell? ⟨gb218, 1, none⟩ = some (.slice Ao56 t215.length co56) := uF BK218 1; have hfz61_0 := blk_frozen BK218.out 0; have hfz61_1 := blk_frozen BK218.out 1; have hcz62_0 : w60.cell? ⟨gb213, 0, none⟩ = some (.int .i64 t209) := uF BK213 0; have hcz62_1 : w60.cell? ⟨gb213, 1, none⟩ = some (.slice Ao48 t210.length co48) := uF BK213 1; have hfz62_0 := blk_frozen BK213.out 0; have hfz62_1 := blk_frozen BK213.out 1) | (go_at_call 19; (with_reducible refine (mon_Join.calls k t209 _ _ t210 9 t221 t222 _ ?side1 ?side2 A10.out).mono ?_); (case side1 => exact uS (Kd.R_reads' HO212.out).2.2); (case side2 => exact (Kd.R_reads' HO212.out).2.1); rintro e w63 ⟨v223, rfl, ho0, hb⟩; replace HO202 := uRd HO202 hb; have HO224 := Aside0.mk (Kd.R_lower (Kd.R_new' (Kd.R_new' ho0 (Kd.R_lt (uR HO207))) (Kd.R_lt (uR HO212))) (below_size (uB4 HB GE203 GE208 GE213 GE218))); replace HO207 := Aside0.mk (Kd.R_elder' (uR HO207) (Kd.R_base ho0) hb); replace HO212 := Aside0.mk (Kd.R_elder' (uR HO212) (Kd.R_base ho0) hb); replace BK203 := uD BK203 hb; replace BK208 := uD BK208 hb; replace BK213 := uD BK213 hb; replace BK218 := uD BK218 hb; replace HB := Aside0.mk (below_step (uB4 HB GE203 GE208 GE213 GE218) hb); (try clear hb); (try clear hb2); (try clear hk); (try clear hi); (try clear ho0); obtain ⟨Ao64, co64, eo64⟩ := Kd.R_slice HO224.out; subst eo64) | (go_at_call 12; (with_reducible refine (mon_Mon_Pc.calls t221 _ _ t222 t225 _ ?side1 ?side2 A11.out).mono ?_); (case side1 => exact uS (Kd.R_reads' HO224.out).2.2); (case side2 => exact (Kd.R_reads' HO224.out).2.1); rintro e w65 ⟨rfl, hb⟩; replace HO202 := uRd HO202 hb; replace HO207 := uRd HO207 hb; replace HO212 := uRd HO212 hb; replace HO224 := uRd HO224 hb; replace BK203 := uD BK203 hb; replace BK208 := uD BK208 hb; replace BK213 := uD BK213 hb; replace BK218 := uD BK218 hb; replace HB := Aside0.mk (below_step (uB4 HB GE203 GE208 GE213 GE218) hb); (try clear hb); (try clear hb2); (try clear hk); (try clear hi); have hcz66_0 : w65.cell? ⟨gb213, 0, none⟩ = some (.int .i64 t209) := uF BK213 0; have hcz66_1 : w65.cell? ⟨gb213, 1, none⟩ = some (.slice Ao48 t210.length co48) := uF BK213 1; have hfz66_0 := blk_frozen BK213.out 0; have hfz66_1 := blk_frozen BK213.out 1) | (have tTK68 := TK68; go_at_call 19; (with_reducible refine (mon_Join.calls k t209 _ _ t210 20 t226 t227 _ ?side1 ?side2 A13.out).mono ?_); (case side1 => exact uS (Kd.R_reads' HO212.out).2.2); (case side2 => exact (Kd.R_reads' HO212.out).2.1); rintro e w67 ⟨v228, rfl, ho0, hb⟩; replace HO202 := uRd HO202 hb; have HO229 := Aside0.mk (Kd.R_lower (Kd.R_new' (Kd.R_new' ho0 (Kd.R_lt (uR HO207))) (Kd.R_lt (uR HO212))) (below_size (uB4 HB GE203 GE208 GE213 GE218))); replace HO207 := Aside0.mk (Kd.R_elder' (uR HO207) (Kd.R_base ho0) hb); replace HO212 := Aside0.mk (Kd.R_elder' (uR HO212) (Kd.R_base ho0) hb); replace BK203 := uD BK203 hb; replace BK208 := uD BK208 hb; replace BK213 := uD BK213 hb; replace BK218 := uD BK218 hb; replace HB := Aside0.mk (below_step (uB4 HB GE203 GE208 GE213 GE218) hb); (try clear hb); (try clear hb2); (try clear hk); (try clear hi); (try clear ho0); clear tTK68 TK68; obtain ⟨Ao69, co69, eo69⟩ := Kd.R_slice HO229.out; subst eo69) | (go_at_call 12; (with_reducible refine (mon_Mon_Pc.calls t226 _ _ t227 t230 _ ?side1 ?side2 A14.out).mono ?_); (case side1 => exact uS (Kd.R_reads' HO229.out).2.2); (case side2 => exact (Kd.R_reads' HO229.out).2.1); rintro e w70 ⟨rfl, hb⟩; replace HO202 := uRd HO202 hb; replace HO207 := uRd HO207 hb; replace HO212 := uRd HO212 hb; replace HO229 := uRd HO229 hb; replace BK203 := uD BK203 hb; replace BK208 := uD BK208 hb; replace BK213 := uD BK213 hb; replace BK218 := uD BK218 hb; replace HB := Aside0.mk (below_step (uB4 HB GE203 GE208 GE213 GE218) hb); (try clear hb); (try clear hb2); (try clear hk); (try clear hi); have hcz71_0 : w70.cell? ⟨gb213, 0, none⟩ = some (.int .i64 t209) := uF BK213 0; have hcz71_1 : w70.cell? ⟨gb213, 1, none⟩ = some (.slice Ao48 t210.length co48) := uF BK213 1; have hfz71_0 := blk_frozen BK213.out 0; have hfz71_1 := blk_frozen BK213.out 1) | (have tTK73 := TK73; go_at_call 19; (with_reducible refine (mon_Join.calls k t209 _ _ t210 20 t231 t232 _ ?side1 ?side2 A16.out).mono ?_); (case side1 => exact uS (Kd.R_reads' HO212.out).2.2); (case side2 => exact (Kd.R_reads' HO212.out).2.1); rintro e w72 ⟨v233, rfl, ho0, hb⟩; replace HO202 := uRd HO202 hb; have HO234 := Aside0.mk (Kd.R_lower (Kd.R_new' (Kd.R_new' ho0 (Kd.R_lt (uR HO207))) (Kd.R_lt (uR HO212))) (below_size (uB4 HB GE203 GE208 GE213 GE218))); replace HO207 := Aside0.mk (Kd.R_elder' (uR HO207) (Kd.R_base ho0) hb); replace HO212 := Aside0.mk (Kd.R_elder' (uR HO212) (Kd.R_base ho0) hb); replace BK203 := uD BK203 hb; replace BK208 := uD BK208 hb; replace BK213 := uD BK213 hb; replace BK218 := uD BK218 hb; replace HB := Aside0.mk (below_step (uB4 HB GE203 GE208 GE213 GE218) hb); (try clear hb); (try clear hb2); (try clear hk); (try clear hi); (try clear ho0); clear tTK73 TK73; obtain ⟨Ao74, co74, eo74⟩ := Kd.R_slice HO234.out; subst eo74) | (go_at_call 19; (with_reducible refine (mon_Join.calls k t231 _ _ t232 9 t235 t236 _ ?side1 ?side2 A17.out).mono ?_); (case side1 => exact uS (Kd.R_reads' HO234.out).2.2); (case side2 => exact (Kd.R_reads' HO234.out).2.1); rintro e w75 ⟨v237, rfl, ho0, hb⟩; replace HO202 := uRd HO202 hb; have HO238 := Aside0.mk (Kd.R_lower (Kd.R_new' (Kd.R_new' (Kd.R_new' ho0 (Kd.R_lt (uR HO207))) (Kd.R_lt (uR HO212))) (Kd.R_lt (uR HO234))) (below_size (uB4 HB GE203 GE208 GE213 GE218))); replace HO207 := Aside0.mk (Kd.R_elder' (uR HO207) (Kd.R_base ho0) hb); replace HO212 := Aside0.mk (Kd.R_elder' (uR HO212) (Kd.R_base ho0) hb); replace HO234 := Aside0.mk (Kd.R_elder' (uR HO234) (Kd.R_base ho0) hb); replace BK203 := uD BK203 hb; replace BK208 := uD BK208 hb; replace BK213 := uD BK213 hb; replace BK218 := uD BK218 hb; replace HB := Aside0.mk (below_step (uB4 HB GE203 GE208 GE213 GE218) hb); (try clear hb); (try clear hb2); (try clear hk); (try clear hi); (try clear ho0); obtain ⟨Ao76, co76, eo76⟩ := Kd.R_slice HO238.out; subst eo76) | (go_at_call 12; (with_reducible refine (mon_Mon_Pc.calls t235 _ _ t236 t239 _ ?side1 ?side2 A18.out).mono ?_); (case side1 => exact uS (Kd.R_reads' HO238.out).2.2); (case side2 => exact (Kd.R_reads' HO238.out).2.1); rintro e w77 ⟨rfl, hb⟩; replace HO202 := uRd HO202 hb; replace HO207 := uRd HO207 hb; replace HO212 := uRd HO212 hb; replace HO238 := uRd HO238 hb; replace BK203 := uD BK203 hb; replace BK208 := uD BK208 hb; replace BK213 := uD BK213 hb; replace BK218 := uD BK218 hb; replace HB := Aside0.mk (below_step (uB4 HB GE203 GE208 GE213 GE218) hb); (try clear hb); (try clear hb2); (try clear hk); (try clear hi); have hcz78_0 : w77.cell? ⟨gb213, 0, none⟩ = some (.int .i64 t209) := uF BK213 0; have hcz78_1 : w77.cell? ⟨gb213, 1, none⟩ = some (.slice Ao48 t210.length co48) := uF BK213 1; have hfz78_0 := blk_frozen BK213.out 0; have hfz78_1 := blk_frozen BK213.out 1) | (go_at_call 21; (with_reducible refine (mon_Take.calls t209 _ _ t210 2 t240 _ ?side1 ?side2 A20.out).mono ?_); (case side1 => exact uS (Kd.R_reads' HO212.out).2.2); (case side2 => exact (Kd.R_reads' HO212.out).2.1); rintro e w79 ⟨rfl, hb⟩; replace HO202 := uRd HO202 hb; replace HO207 := uRd HO207 hb; replace HO212 := uRd HO212 hb; replace BK203 := uD BK203 hb; replace BK208 := uD BK208 hb; replace BK213 := uD BK213 hb; replace BK218 := uD BK218 hb; replace HB := Aside0.mk (below_step (uB4 HB GE203 GE208 GE213 GE218) hb); (try clear hb); (try clear hb2); (try clear hk); (try clear hi); (try simp only [errW_none, errW_some]); have CA21 := fun W hg_ => colloquylaw20_num.calls t240 t241 W hg_ A21.out; try simp only [errW_none, errW_some] at CA21) | (go_at_call 9; (with_reducible refine (CA21 _ ?side1).mono ?_); (case side1 => exact HG.out.below (uB4 HB GE203 GE208 GE213 GE218)); rintro e w80 ⟨rfl, hb⟩; replace HO202 := uRd HO202 hb; replace HO207 := uRd HO207 hb; replace HO212 := uRd HO212 hb; replace BK203 := uD BK203 hb; replace BK208 := uD BK208 hb; replace BK213 := uD BK213 hb; replace BK218 := uD BK218 hb; replace HB := Aside0.mk (below_step (uB4 HB GE203 GE208 GE213 GE218) hb); (try clear hb); (try clear hb2); (try clear hk); (try clear hi); have hcz81_0 : w80.cell? ⟨gb213, 0, none⟩ = some (.int .i64 t209) := uF BK213 0; have hcz81_1 : w80.cell? ⟨gb213, 1, none⟩ = some (.slice Ao48 t210.length co48) := uF BK213 1; have hfz81_0 := blk_frozen BK213.out 0; have hfz81_1 := blk_frozen BK213.out 1) | (go_at_call 21; (with_reducible refine (mon_Take.calls t209 _ _ t210 3 none _ ?side1 ?side2 A23.out).mono ?_); (case side1 => exact uS (Kd.R_reads' HO212.out).2.2); (case side2 => exact (Kd.R_reads' HO212.out).2.1); rintro e w82 ⟨rfl, hb⟩; replace HO202 := uRd HO202 hb; replace HO207 := uRd HO207 hb; replace HO212 := uRd HO212 hb; replace BK203 := uD BK203 hb; replace BK208 := uD BK208 hb; replace BK213 := uD BK213 hb; replace BK218 := uD BK218 hb; replace HB := Aside0.mk (below_step (uB4 HB GE203 GE208 GE213 GE218) hb); (try clear hb); (try clear hb2); (try clear hk); (try clear hi); (try simp only [errW_none, errW_some]); have hcz83_0 : w82.cell? ⟨gb203, 0, none⟩ = some (.slice Ao35 t200.length co35) := uF BK203 0; have hfz83_0 := blk_frozen BK203.out 0; have hcz84_0 : w82.cell? ⟨gb208, 0, none⟩ = some (.int .i64 t204) := uF BK208 0; have hcz84_1 : w82.cell? ⟨gb208, 1, none⟩ = some (.slice Ao41 t205.length co41) := uF BK208 1; have hfz84_0 := blk_frozen BK208.out 0; have hfz84_1 := blk_frozen BK208.out 1) | ((with_reducible refine gate_dst (N := 62) rfl ?_); (try (refine gate_guard (by rfl) ?_; dsimp only)); refine Kd.R_lit (Kd.int .i64) _ 3 ?hg (N := 62) ?hd (xs := ([0, 2] : List Int)) (inner := [.int .i64 0, .int .i64 2]) (ok := fun _ => True) (okp := fun _ => True) ?hr ?hp (fun _ hk => hk) trivial (Below.refl _ _) (Nat.le_refl _) (by simp) ?_; (case hd => rfl); (case hg => rfl); (case hr => first | (go_simp; done) | (go_simp; rfl)); (case hp => exact (Reps.one (show Kd.M (Kd.int .i64) _ _ _ 0 [.int .i64 0] from rfl) (Reps.one (show Kd.M (Kd.int .i64) _ _ _ 2 [.int .i64 2] from rfl) (Reps.none _ _)))); intro v245 w85 ho86 hb hg_ hnew_; clear hg_ hnew_; (first | rw [← Ny244.out] at ho86 | (simp only [Int.reduceToNat] at ho86; rw [← Ny244.out] at ho86)); replace HO202 := uRd HO202 hb; replace HO207 := uRd HO207 hb; replace HO212 := uRd HO212 hb; have HO246 := Aside0.mk (Kd.R_lower ho86 (below_size (uB4 HB GE203 GE208 GE213 GE218))); replace BK203 := uD BK203 hb; replace BK208 := uD BK208 hb; replace BK213 := uD BK213 hb; replace BK218 := uD BK218 hb; replace HB := Aside0.mk (below_step (uB4 HB GE203 GE208 GE213 GE218) hb); clear hb ho86; obtain ⟨Ao87, co87, eo87⟩ := Kd.R_slice HO246.out; subst eo87) | (go_at_call 14; (with_reducible refine (mon_Raise.calls k _ _ t200 t204 _ _ t205 _ _ y244 t247 _ ?side1 ?side2 ?side3 ?side4 ?side5 ?side6 A24.out).mono ?_); (case side1 => exact uS (Kd.R_reads' HO202.out).2.2); (case side2 => exact (Kd.R_reads' HO202.out).2.1); (case side3 => exact uS (Kd.R_reads' HO207.out).2.2); (case side4 => exact (Kd.R_reads' HO207.out).2.1); (case side5 => exact uS (Kd.R_reads' HO246.out).2.2); (case side6 => exact (Kd.R_reads' HO246.out).2.1); rintro e w88 ⟨rfl, hb⟩; replace HO202 := uRd HO202 hb; replace HO207 := uRd HO207 hb; replace HO212 := uRd HO212 hb; replace HO246 := uRd HO246 hb; replace BK203 := uD BK203 hb; replace BK208 := uD BK208 hb; replace BK213 := uD BK213 hb; replace BK218 := uD BK218 hb; replace HB := Aside0.mk (below_step (uB4 HB GE203 GE208 GE213 GE218) hb); (try clear hb); (try clear hb2); (try clear hk); (try clear hi); have hcz89_0 : w88.cell? ⟨gb203, 0, none⟩ = some (.slice Ao35 t200.length co35) := uF BK203 0; have hfz89_0 := blk_frozen BK203.out 0) | (go_at_call 23; (with_reducible refine (mon_May.calls k _ _ t200 1 2 t248 _ ?side1 ?side2 A26.out).mono ?_); (case side1 => exact uS (Kd.R_reads' HO202.out).2.2); (case side2 => exact (Kd.R_reads' HO202.out).2.1); rintro e w90 ⟨rfl, hb⟩; replace HO202 := uRd HO202 hb; replace HO212 := uRd HO212 hb; replace BK203 := uD BK203 hb; replace BK208 := uD BK208 hb; replace BK213 := uD BK213 hb; replace BK218 := uD BK218 hb; replace HB := Aside0.mk (below_step (uB4 HB GE203 GE208 GE213 GE218) hb); (try clear hb); (try clear hb2); (try clear hk); (try clear hi); (try simp only [errW_none, errW_some]); have CA27 := fun W hg_ => colloquylaw20_num.calls t248 t249 W hg_ A27.out; try simp only [errW_none, errW_some] at CA27) | (go_at_call 9; (with_reducible refine (CA27 _ ?side1).mono ?_); (case side1 => exact HG.out.below (uB4 HB GE203 GE208 GE213 GE218)); rintro e w91 ⟨rfl, hb⟩; replace HO202 := uRd HO202 hb; replace HO212 := uRd HO212 hb; replace BK203 := uD BK203 hb; replace BK208 := uD BK208 hb; replace BK213 := uD BK213 hb; replace BK218 := uD BK218 hb; replace HB := Aside0.mk (below_step (uB4 HB GE203 GE208 GE213 GE218) hb); (try clear hb); (try clear hb2); (try clear hk); (try clear hi); have hcz92_0 : w91.cell? ⟨gb203, 0, none⟩ = some (.slice Ao35 t200.length co35) := uF BK203 0; have hfz92_0 := blk_frozen BK203.out 0) | (go_at_call 23; (with_reducible refine (mon_May.calls k _ _ t200 1 3 none _ ?side1 ?side2 A29.out).mono ?_); (case side1 => exact uS (Kd.R_reads' HO202.out).2.2); (case side2 => exact (Kd.R_reads' HO202.out).2.1); rintro e w93 ⟨rfl, hb⟩; replace HO202 := uRd HO202 hb; replace HO212 := uRd HO212 hb; replace BK203 := uD BK203 hb; replace BK208 := uD BK208 hb; replace BK213 := uD BK213 hb; replace BK218 := uD BK218 hb; replace HB := Aside0.mk (below_step (uB4 HB GE203 GE208 GE213 GE218) hb); (try clear hb); (try clear hb2); (try clear hk); (try clear hi); (try simp only [errW_none, errW_some]); have hcz94_0 : w93.cell? ⟨gb203, 0, none⟩ = some (.slice Ao35 t200.length co35) := uF BK203 0; have hfz94_0 := blk_frozen BK203.out 0; have hcz95_0 : w93.cell? ⟨gb213, 0, none⟩ = some (.int .i64 t209) := uF BK213 0; have hcz95_1 : w93.cell? ⟨gb213, 1, none⟩ = some (.slice Ao48 t210.length co48) := uF BK213 1; have hfz95_0 := blk_frozen BK213.out 0; have hfz95_1 := blk_frozen BK213.out 1) | (go_at_call 10; (with_reducible refine (mon_Check.calls k _ _ t200 t209 _ _ t210 none _ ?side1 ?side2 ?side3 ?side4 A30.out).mono ?_); (case side1 => exact uS (Kd.R_reads' HO202.out).2.2); (case side2 => exact (Kd.R_reads' HO202.out).2.1); (case side3 => exact uS (Kd.R_reads' HO212.out).2.2); (case side4 => exact (Kd.R_reads' HO212.out).2.1); rintro e w96 ⟨rfl, hb⟩; replace HO202 := uRd HO202 hb; replace HO212 := uRd HO212 hb; replace BK203 := uD BK203 hb; replace BK208 := uD BK208 hb; replace BK213 := uD BK213 hb; replace BK218 := uD BK218 hb; replace HB := Aside0.mk (below_step (uB4 HB GE203 GE208 GE213 GE218) hb); (try clear hb); (try clear hb2); (try clear hk); (try clear hi); (try simp only [errW_none, errW_some]); have hcz97_0 : w96.cell? ⟨gb203, 0, none⟩ = some (.slice Ao35 t200.length co35) := uF BK203 0; have hfz97_0 := blk_frozen BK203.out 0) | ((with_reducible refine gate_dst (N := 86) rfl ?_); (try (refine gate_guard (by rfl) ?_; dsimp only)); refine Kd.R_lit k58 _ 58 ?hg (N := 86) ?hd (xs := ([(⟨0, 0, 0⟩ : S58)] : List (S58))) (inner := [.int .i64 0, .int .i64 0, .int .i64 0]) (ok := fun _ => True) (okp := fun _ => True) ?hr ?hp (fun _ hk => hk) trivial (Below.refl _ _) (Nat.le_refl _) (by simp) ?_; (case hd => rfl); (case hg => rfl); (case hr => first | (go_simp; done) | (go_simp; rfl)); (case hp => exact (Reps.c3 (show Kd.M k58 _ _ _ (⟨0, 0, 0⟩ : S58) [.int .i64 0, .int .i64 0, .int .i64 0] from (k58_mkM _ _ _ (⟨0, 0, 0⟩ : S58) )) (Reps.none _ _))); intro v255 w98 ho99 hb hg_ hnew_; clear hg_ hnew_; (first | rw [← Ny254.out] at ho99 | (simp only [Int.reduceToNat] at ho99; rw [← Ny254.out] at ho99)); replace HO202 := uRd HO202 hb; have HO256 := Aside0.mk (Kd.R_lower ho99 (below_size (uB4 HB GE203 GE208 GE213 GE218))); replace BK203 := uD BK203 hb; replace BK208 := uD BK208 hb; replace BK213 := uD BK213 hb; replace BK218 := uD BK218 hb; replace HB := Aside0.mk (below_step (uB4 HB GE203 GE208 GE213 GE218) hb); clear hb ho99; obtain ⟨Ao100, co100, eo100⟩ := Kd.R_slice HO256.out; subst eo100) | (go_at_call 10; (with_reducible refine (mon_Check.calls k _ _ t200 0 _ _ y254 t257 _ ?side1 ?side2 ?side3 ?side4 A31.out).mono ?_); (case side1 => exact uS (Kd.R_reads' HO202.out).2.2); (case side2 => exact (Kd.R_reads' HO202.out).2.1); (case side3 => exact uS (Kd.R_reads' HO256.out).2.2); (case side4 => exact (Kd.R_reads' HO256.out).2.1); rintro e w101 ⟨rfl, hb⟩; replace HO202 := uRd HO202 hb; replace HO256 := uRd HO256 hb; replace BK203 := uD BK203 hb; replace BK208 := uD BK208 hb; replace BK213 := uD BK213 hb; replace BK218 := uD BK218 hb; replace HB := Aside0.mk (below_step (uB4 HB GE203 GE208 GE213 GE218) hb); (try clear hb); (try clear hb2); (try clear hk); (try clear hi); (try simp only [errW_none, errW_some]); have CA32 := fun W hg_ => colloquylaw20_num.calls t257 t258 W hg_ A32.out; try simp only [errW_none, errW_some] at CA32) | (go_at_call 9; (with_reducible refine (CA32 _ ?side1).mono ?_); (case side1 => exact HG.out.below (uB4 HB GE203 GE208 GE213 GE218)); rintro e w102 ⟨rfl, hb⟩; replace BK203 := uD BK203 hb; replace BK208 := uD BK208 hb; replace BK213 := uD BK213 hb; replace BK218 := uD BK218 hb; replace HB := Aside0.mk (below_step (uB4 HB GE203 GE208 GE213 GE218) hb); (try clear hb); (try clear hb2); (try clear hk); (try clear hi)))
             go_ret
             exact ⟨by first | rfl | (simp [errW_none, errW_some] <;> rfl) | (simp [*, errW_none, errW_some] <;> rfl), uB4 HB GE203 GE208 GE213 GE218⟩
            have H1 : (none) = some r := by rw [if_neg (show ¬ (some q253).isNone = true by simp)] at H; exact H
            clear H
            have H := H1
            clear H1
            try simp only [errW_none, errW_some]
            exact absurd H (by simp)
           have H1 : (none) = some r := by rw [if_neg (show ¬ (some q251).isNone = true by simp)] at H; exact H
           clear H
           have H := H1
           clear H1
           try simp only [errW_none, errW_some]
           exact absurd H (by simp)
          rw [if_neg c28] at H
          exact absurd H (by simp)
         rw [if_neg c25] at H
         exact absurd H (by simp)
        have H1 : (none) = some r := by rw [if_neg (show ¬ (some q243).isNone = true by simp)] at H; exact H
        clear H
        have H := H1
        clear H1
        try simp only [errW_none, errW_some]
        exact absurd H (by simp)
       rw [if_neg c22] at H
       exact absurd H (by simp)
      rw [if_neg c19] at H
      exact absurd H (by simp)
     rw [if_neg c15] at H
     exact absurd H (by simp)
    rw [if_neg c12] at H
    exact absurd H (by simp)
   rw [if_neg c9] at H
   exact absurd H (by simp)
  rw [if_neg c8] at H
  exact absurd H (by simp)
 rw [if_neg c6] at H
 exact absurd H (by simp)

end Go.Proofs.YtodfomkhhfcnhaaDoor.PMonBack
