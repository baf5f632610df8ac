/- The functions that the law reaches, as plain functions of lists and numbers, and that a call of the Go code comes to just their answers; laid by this repo's own program over the seat's translation. Conditions: each contract's own premises. -/
import Derived.Test.YtodfomkhhfcnhaaDoorPMonTellsx0
import Derived.Test.YtodfomkhhfcnhaaDoorPMonTellsx8
import Derived.Test.YtodfomkhhfcnhaaDoorPMonTellsx9
namespace Go.Proofs.YtodfomkhhfcnhaaDoor.PMonTells
open Go.RowKit Go.Proofs.YtodfomkhhfcnhaaDoorW.PrintWords Go.Proofs.YtodfomkhhfcnhaaDoorW.PrintLast Go.Proofs.YtodfomkhhfcnhaaDoorW.PrintMore
attribute [local go_sem] max2_int min2_int max_two min_two max_three min_three max_four min_four   -- for this text's walks alone
set_option linter.unusedVariables false
set_option linter.unusedSimpArgs false

/-! ### colloquyref20_Check: function 11 -/
mutual
def colloquyref20_Check.j0 : Nat → List Int → Bool → Int → List (S62) → Option (Int)
 | 0, _, _, _, _ => none
 | k + 1, x0, x20, x287000, x287001 => if x20 = true then (some 1) else (colloquyref20_Check.l0 k x0 0 x287000 x287001)
def colloquyref20_Check.l0 : Nat → List Int → Int → Int → List (S62) → Option (Int)
 | 0, _, _, _, _ => none
 | k + 1, x0, x5, x287000, x287001 => if x5 < (x287001.length : Int) then (if 0 ≤ x5 then (if x5 ≤ (x287001.length : Int) then ((colloquyref20_Pc.f k x287000 (x287001.take (x5 : Int).toNat)).bind fun t294 => (if ((rd_T62 x287001 x5).f0) < 0 then (some 1) else (if ((rd_T62 x287001 x5).f0) > 511 then (some 1) else (if ((rd_T62 x287001 x5).f2) < 0 then (some 1) else (if ((rd_T62 x287001 x5).f2) > 32 then (some 1) else (if ((rd_T62 x287001 x5).f1) = t294 then (some 1) else ((colloquyref01_Leq.f x0 t294 ((rd_T62 x287001 x5).f1)).bind fun t295 => (if t295 = true then (colloquyref20_Check.l0 k x0 (wrap64 (x5 + 1)) x287000 x287001) else (some 1))))))))) else (none)) else (none)) else (some 0)
end
def colloquyref20_Check.f (k : Nat) (l0 : List Int) (a1_0 : Int) (l1_1 : List (S62)) : Option (Int) := (colloquyref01_May.f k l0).bind fun t287 => (if t287 = true then (if a1_0 < 0 then (colloquyref20_Check.j0 k l0 true a1_0 l1_1) else (colloquyref20_Check.j0 k l0 (decide (a1_0 ≥ (l0.length : Int))) a1_0 l1_1)) else (some 7))
theorem colloquyref20_Check.mono_l : ∀ k, (∀ y0 y1 y2 y3, LeO (colloquyref20_Check.j0 k y0 y1 y2 y3) (colloquyref20_Check.j0 (k + 1) y0 y1 y2 y3)) ∧ (∀ y0 y1 y2 y3, LeO (colloquyref20_Check.l0 k y0 y1 y2 y3) (colloquyref20_Check.l0 (k + 1) y0 y1 y2 y3))
 | 0 => ⟨fun _ _ _ _ r h => by simp [colloquyref20_Check.j0] at h, fun _ _ _ _ r h => by simp [colloquyref20_Check.l0] at h⟩
 | k + 1 => by
  obtain ⟨ih0, ih1⟩ := colloquyref20_Check.mono_l k
  refine ⟨?_, ?_⟩
  ·intro y0 y1 y2 y3
   unfold colloquyref20_Check.j0
   repeat' first
   | (with_reducible exact ih0 _ _ _ _)
   | (with_reducible exact ih1 _ _ _ _)
   | (with_reducible exact colloquyref01_May.mono _ _)
   | (with_reducible exact colloquyref20_Pc.mono _ _ _)
   | (with_reducible exact LeO.refl _)
   | (with_reducible exact LeO.none _)
   | (with_reducible refine LeO.ite ?_ ?_)
   | (with_reducible refine LeO.bind ?_ (fun _ => ?_))
   | exact ih0 _ _ _ _
   | exact ih1 _ _ _ _
   | exact colloquyref01_May.mono _ _
   | exact colloquyref20_Pc.mono _ _ _
   | exact LeO.none _
   | refine LeO.ite ?_ ?_
   | refine LeO.bind ?_ (fun _ => ?_)
  ·intro y0 y1 y2 y3
   unfold colloquyref20_Check.l0
   repeat' first
   | (with_reducible exact ih0 _ _ _ _)
   | (with_reducible exact ih1 _ _ _ _)
   | (with_reducible exact colloquyref01_May.mono _ _)
   | (with_reducible exact colloquyref20_Pc.mono _ _ _)
   | (with_reducible exact LeO.refl _)
   | (with_reducible exact LeO.none _)
   | (with_reducible refine LeO.ite ?_ ?_)
   | (with_reducible refine LeO.bind ?_ (fun _ => ?_))
   | exact ih0 _ _ _ _
   | exact ih1 _ _ _ _
   | exact colloquyref01_May.mono _ _
   | exact colloquyref20_Pc.mono _ _ _
   | exact LeO.none _
   | refine LeO.ite ?_ ?_
   | refine LeO.bind ?_ (fun _ => ?_)
theorem colloquyref20_Check.mono : ∀ a0 a1 a2 k, LeO (colloquyref20_Check.f k a0 a1 a2) (colloquyref20_Check.f (k + 1) a0 a1 a2) := by
 intro a0 a1 a2 k
 obtain ⟨ih0, ih1⟩ := colloquyref20_Check.mono_l k
 unfold colloquyref20_Check.f
 repeat' first
   | (with_reducible exact ih0 _ _ _ _)
   | (with_reducible exact ih1 _ _ _ _)
   | (with_reducible exact colloquyref01_May.mono _ _)
   | (with_reducible exact colloquyref20_Pc.mono _ _ _)
   | (with_reducible exact LeO.refl _)
   | (with_reducible exact LeO.none _)
   | (with_reducible refine LeO.ite ?_ ?_)
   | (with_reducible refine LeO.bind ?_ (fun _ => ?_))
   | exact ih0 _ _ _ _
   | exact ih1 _ _ _ _
   | exact colloquyref01_May.mono _ _
   | exact colloquyref20_Pc.mono _ _ _
   | exact LeO.none _
   | refine LeO.ite ?_ ?_
   | refine LeO.bind ?_ (fun _ => ?_)
def colloquyref20_Check.T9 : Bool × List (List Nat × List Nat) := (true, [([], []), ([0], [0]), ([], []), ([2], [2]), ([], []), ([3, 4], [3, 4]), ([1, 5], [1, 5]), ([6], [6]), ([7, 7, 0, 1, 2, 3, 4, 5, 6, 7], [7])])
def colloquyref20_Check.B9 : List Nat := [0, 1, 0, 4, 0, 28, 63, 127, 255]
theorem colloquyref20_Check.tab9 : rtab .any (opsOf Tryd.f11 9) = colloquyref20_Check.T9 := by kernel_rfl
theorem colloquyref20_Check.bits9 : waitsOk colloquyref20_Check.T9.2 colloquyref20_Check.B9 = true := by kernel_rfl
set_option maxHeartbeats 8000000 in
set_option maxRecDepth 100000 in
theorem colloquyref20_Check.calls (k : Nat) (A0 : Option Addr) (c0 : Nat) (l0 : List Int) (a1_0 : Int) (A1_1 : Option Addr) (c1_1 : Nat) (l1_1 : List (S62)) (r : Int) (w : World) (hr0 : Kd.C (Kd.int .u8) w A0 l0.length l0) (hc0 : l0.length ≤ c0) (hr1_1 : Kd.C k62 w A1_1 l1_1.length l1_1) (hc1_1 : l1_1.length ≤ c1_1) (h : colloquyref20_Check.f k l0 a1_0 l1_1 = some r) :
  Calls Tryd.prog 11 #[.slice A0 l0.length c0, .agg #[.int .i64 a1_0, .slice A1_1 l1_1.length c1_1]] w fun e w' => e = .returned (.int .i64 r) ∧ Below w.heap.size w w' := by
 have hu25 := Tryd.underlying25
 have hu62 := Tryd.underlying62
 have HR0 := Aside0.mk hr0
 have HC0 := Aside0.mk hc0
 clear hr0 hc0
 have HR1_1 := Aside0.mk hr1_1
 have HC1_1 := Aside0.mk hc1_1
 clear hr1_1 hc1_1
 have HB := Aside0.mk (Below.refl w.heap.size w)
 have H : ((colloquyref01_May.f k l0).bind fun t287 => (if t287 = true then (if a1_0 < 0 then (colloquyref20_Check.j0 k l0 true a1_0 l1_1) else (colloquyref20_Check.j0 k l0 (decide (a1_0 ≥ (l0.length : Int))) a1_0 l1_1)) else (some 7))) = some r := h
 clear h
 replace H := Option.bind_eq_some_iff.mp H
 obtain ⟨t287, A30, H⟩ := H
 replace H : (if t287 = true then (if a1_0 < 0 then (colloquyref20_Check.j0 k l0 true a1_0 l1_1) else (colloquyref20_Check.j0 k l0 (decide (a1_0 ≥ (l0.length : Int))) a1_0 l1_1)) else (some 7)) = some r := H
 have A3 := Aside0.mk A30
 clear A30
 by_cases c4 : t287 = true
 ·subst c4
  have H1 : (if a1_0 < 0 then (colloquyref20_Check.j0 k l0 true a1_0 l1_1) else (colloquyref20_Check.j0 k l0 (decide (a1_0 ≥ (l0.length : Int))) a1_0 l1_1)) = some r := by rw [if_pos rfl] at H; exact H
  clear H
  have H := H1
  clear H1
  have HC5 := Aside0.mk H
  clear H
  go_enter Tryd.func11, Tryd.ntmps11
  try simp only [List.append_eq, List.cons_append, List.nil_append]
  go_upto_region 3 with (first | ((with_reducible refine gate_dst (N := 3) rfl ?_); (try (refine gate_guard (by rfl) ?_; dsimp only)); refine box_event ?hg (N := 3) ?hd (cs := #[.int .i64 a1_0, .slice A1_1 l1_1.length c1_1]) (t := 25) ?hr ?_; (case hd => rfl); (case hg => rfl); (case hr => first | (go_simp; done) | (go_simp; rfl)); intro gb286 hg w6 hbox hb; have n0_ := Aside0.mk (below_step (uB0 HB) hb); have n1_ := Aside0.mk (hbox); have n2_ := Aside0.mk ((by rw [hg]; exact (below_size (uB0 HB)) : w.heap.size ≤ gb286)); have n3_ := Aside0.mk ((by rw [hg]; exact (below_size (uB0 HB)) : w.heap.size ≤ gb286)); clear HB; have HB := n0_; have BK286 := n1_; have GW286 := n2_; have GE286 := n3_; clear n0_ n1_ n2_ n3_; clear hb hbox hg) | ((with_reducible refine gate_callee (f := 30) rfl ?_); refine goesL_ (some 9) rfl rfl Tryd.func30 (by kernel_rfl) rfl #[.slice A0 l0.length c0] rfl uC ?_; (with_reducible refine (colloquyref01_May.calls k _ _ l0 true _ ?side1 ?side2 A3.out).mono ?_); (case side1 => exact uS (Kd.C_below HR0.out HB.out)); (case side2 => exact HC0.out); rintro e w7 ⟨rfl, hd_⟩; refine ⟨_, rfl, ?_⟩; have hb := hd_.below; clear hd_; have n0_ := Aside0.mk (blk_below (g := gb286) (o := .cells #[.int .i64 a1_0, .slice A1_1 l1_1.length c1_1] 25 (0, 0)) (uK BK286) hb); have n1_ := Aside0.mk (below_step (uB1 HB GE286) hb); clear BK286; clear HB; have BK286 := n0_; have HB := n1_; clear n0_ n1_; (try clear hb); (try clear hb2); (try clear hk); (try clear hi)))
  (try simp only [Act.put, List.setIfInBounds_toArray, List.set_cons_zero, List.set_cons_succ])
  go_cut [20] (fun v20 wc => ∃ (kq : Nat) (x20_4 : Bool), v20 = .bool x20_4 ∧ Aside0 (colloquyref20_Check.j0 kq l0 x20_4 a1_0 l1_1 = some r) ∧ Aside0 (kq ≤ k) ∧ Aside0 (wc.heap[gb286]? = some (.cells #[.int .i64 a1_0, (.slice A1_1 l1_1.length c1_1)] 25 (0, 0))) ∧ Aside0 (Below w.heap.size w wc))
  case first =>
   have H := HC5.out
   clear HC5
   by_cases c8 : a1_0 < 0
   ·rw [if_pos c8] at H
    have c8b0 : decide (a1_0 < 0) = true := decide_eq_true c8
    clear c8
    (first | rw [c8b0] | (simp only [i64_w, i32_w]; rw [c8b0]) | skip)
    have H' := Aside0.mk H
    clear H
    have hcz9_0 : w7.cell? ⟨gb286, 0, none⟩ = some (.int .i64 a1_0) := (blk_cell BK286.out 0).trans rfl
    have hcz9_1 : w7.cell? ⟨gb286, 1, none⟩ = some (.slice A1_1 l1_1.length c1_1) := (blk_cell BK286.out 1).trans rfl
    have hfz9_0 := blk_frozen BK286.out 0
    have hfz9_1 := blk_frozen BK286.out 1
    go_wp2
    go_meet
    case rel => exact ⟨_, (true), (by first | rfl | (simp; done) | (simp [*]; done)), H', ⟨by first | omega | exact Nat.le_refl _⟩, ⟨uK BK286⟩, ⟨uB1 HB GE286⟩⟩
   ·rw [if_neg c8] at H
    have c8b0 : decide (a1_0 < 0) = false := decide_eq_false c8
    clear c8
    (first | rw [c8b0] | (simp only [i64_w, i32_w]; rw [c8b0]) | skip)
    have H' := Aside0.mk H
    clear H
    have hcz10_0 : w7.cell? ⟨gb286, 0, none⟩ = some (.int .i64 a1_0) := (blk_cell BK286.out 0).trans rfl
    have hcz10_1 : w7.cell? ⟨gb286, 1, none⟩ = some (.slice A1_1 l1_1.length c1_1) := (blk_cell BK286.out 1).trans rfl
    have hfz10_0 := blk_frozen BK286.out 0
    have hfz10_1 := blk_frozen BK286.out 1
    go_wp2
    go_meet
    case rel => exact ⟨_, (decide (a1_0 ≥ (l0.length : Int))), (by first | rfl | (simp; done) | (simp [*]; done)), H', ⟨by first | omega | exact Nat.le_refl _⟩, ⟨uK BK286⟩, ⟨uB1 HB GE286⟩⟩
  case rest =>
   clear HC5
   try clear c1
   try clear p2
   try clear c3
   try clear c4
   try clear c8
   try clear c8b0
   try clear hcz10_0
   try clear hcz10_1
   try clear hcz9_0
   try clear hcz9_1
   try clear hfz10_0
   try clear hfz10_1
   try clear hfz9_0
   try clear hfz9_1
   obtain ⟨kq, x20_4, rfl, HA, HJ4, BK286, HB⟩ := hcut
   cases kq with
   | zero => exact absurd HA.out (by simp [colloquyref20_Check.j0])
   | succ kj4 =>
    have H := HA.out
    clear HA
    simp only [colloquyref20_Check.j0] at H
    by_cases c11 : x20_4 = true
    ·subst c11
     have H1 : (some 1) = some r := by rw [if_pos rfl] at H; exact H
     clear H
     have H := H1
     clear H1
     obtain rfl := Option.some.inj H
     go_wp2
     go_ret
     exact ⟨by first | rfl | (simp [errW_none, errW_some] <;> rfl) | (simp [*, errW_none, errW_some] <;> rfl), uB1 HB GE286⟩
    ·replace c11 := Bool.eq_false_iff.mpr c11
     subst c11
     have H1 : (colloquyref20_Check.l0 kj4 l0 0 a1_0 l1_1) = some r := by rw [if_neg (show ¬ (false = true) by decide)] at H; exact H
     clear H
     have H := H1
     clear H1
     have H' := Aside0.mk H
     clear H
     go_wp2
     go_loopg [5] kj4 (fun kq v5 w' => ∃ (x5_2 : Int), v5 = .int .i64 x5_2 ∧ Aside0 (colloquyref20_Check.l0 kq l0 x5_2 a1_0 l1_1 = some r) ∧ Aside0 (kq ≤ kj4) ∧ Aside0 (w'.heap[gb286]? = some (.cells #[.int .i64 a1_0, (.slice A1_1 l1_1.length c1_1)] 25 (0, 0))) ∧ Aside0 (Below w.heap.size w w'))
     case atStart => exact ⟨(0), (by first | rfl | (simp; done) | (simp [*]; done)), H', ⟨Nat.le_refl _⟩, ⟨uK BK286⟩, ⟨uB1 HB GE286⟩⟩
     case round =>
      clear H'
      try clear c1
      try clear p2
      try clear c3
      try clear c4
      try clear c8
      try clear c8b0
      try clear c11
      try clear hcz10_0
      try clear hcz10_1
      try clear hcz9_0
      try clear hcz9_1
      try clear hfz10_0
      try clear hfz10_1
      try clear hfz9_0
      try clear hfz9_1
      try clear p2
      obtain ⟨x5_2, rfl, HA, HK2, BK286, HB⟩ := hrel
      cases gk with
      | zero => exact absurd HA.out (by simp [colloquyref20_Check.l0])
      | succ k2 =>
       have H := HA.out
       clear HA
       simp only [colloquyref20_Check.l0] at H
       by_cases c12 : x5_2 < (l1_1.length : Int)
       ·rw [if_pos c12] at H
        have c12b0 : decide (x5_2 < (l1_1.length : Int)) = true := decide_eq_true c12
        clear c12
        by_cases c13 : 0 ≤ x5_2
        ·rw [if_pos c13] at H
         have c13b0 : decide (0 ≤ x5_2) = true := decide_eq_true c13
         clear c13
         have c14b0 := eq_true (of_decide_eq_true (by first | (with_reducible assumption) | assumption) : 0 ≤ x5_2)
         by_cases c15 : x5_2 ≤ (l1_1.length : Int)
         ·rw [if_pos c15] at H
          have c15b0 := eq_true c15
          have c15b1 : decide (x5_2 ≤ (l1_1.length : Int)) = true := decide_eq_true c15
          clear c15
          obtain ⟨y290, hy290⟩ : ∃ y_ : List (S62), y_ = (l1_1.take (x5_2 : Int).toNat) := ⟨_, rfl⟩
          replace H : ((colloquyref20_Pc.f k2 a1_0 y290).bind fun t294 => (if ((rd_T62 l1_1 x5_2).f0) < 0 then (some 1) else (if ((rd_T62 l1_1 x5_2).f0) > 511 then (some 1) else (if ((rd_T62 l1_1 x5_2).f2) < 0 then (some 1) else (if ((rd_T62 l1_1 x5_2).f2) > 32 then (some 1) else (if ((rd_T62 l1_1 x5_2).f1) = t294 then (some 1) else ((colloquyref01_Leq.f l0 t294 ((rd_T62 l1_1 x5_2).f1)).bind fun t295 => (if t295 = true then (colloquyref20_Check.l0 k2 l0 (wrap64 (x5_2 + 1)) a1_0 l1_1) else (some 1))))))))) = some r := by first | (rw [hy290]; with_reducible exact H) | (have H2_ := (Option.bind_some _ _).symm.trans H; rw [hy290]; with_reducible exact H2_) | (have H2_ := (Option.bind_some _ _).symm.trans H; with_reducible exact H2_) | with_reducible exact H | (rw [hy290]; exact H) | exact H
          have Ny290 := Aside0.mk hy290
          clear hy290
          replace H := Option.bind_eq_some_iff.mp H
          obtain ⟨t294, A160, H⟩ := H
          replace H : (if ((rd_T62 l1_1 x5_2).f0) < 0 then (some 1) else (if ((rd_T62 l1_1 x5_2).f0) > 511 then (some 1) else (if ((rd_T62 l1_1 x5_2).f2) < 0 then (some 1) else (if ((rd_T62 l1_1 x5_2).f2) > 32 then (some 1) else (if ((rd_T62 l1_1 x5_2).f1) = t294 then (some 1) else ((colloquyref01_Leq.f l0 t294 ((rd_T62 l1_1 x5_2).f1)).bind fun t295 => (if t295 = true then (colloquyref20_Check.l0 k2 l0 (wrap64 (x5_2 + 1)) a1_0 l1_1) else (some 1)))))))) = some r := H
          have A16 := Aside0.mk A160
          clear A160
          by_cases c17 : ((rd_T62 l1_1 x5_2).f0) < 0
          ·rw [if_pos c17] at H
           have c17b0 : decide (((rd_T62 l1_1 x5_2).f0) < 0) = true := decide_eq_true c17
           clear c17
           obtain rfl := Option.some.inj H
           have hcz18_0 : wr.cell? ⟨gb286, 0, none⟩ = some (.int .i64 a1_0) := (blk_cell BK286.out 0).trans rfl
           have hcz18_1 : wr.cell? ⟨gb286, 1, none⟩ = some (.slice A1_1 l1_1.length c1_1) := (blk_cell BK286.out 1).trans rfl
           have hfz18_0 := blk_frozen BK286.out 0
           have hfz18_1 := blk_frozen BK286.out 1
           have p288 : 0 ≤ (x5_2 : Int) := of_decide_eq_true (by first | (with_reducible assumption) | assumption)
           have q288 : x5_2 < (l1_1.length : Int) := of_decide_eq_true (by first | (with_reducible assumption) | assumption)
           obtain ⟨ad288, e288, hx288_0, hx288_1, hx288_2⟩ := at_T62 HR1_1.out x5_2 p288 q288
           cases e288
           replace hx288_0 := (HB.out.cell (World.block_lt_of_cell? w _ hx288_0)).trans hx288_0
           replace hx288_1 := (HB.out.cell (World.block_lt_of_cell? w _ hx288_1)).trans hx288_1
           replace hx288_2 := (HB.out.cell (World.block_lt_of_cell? w _ hx288_2)).trans hx288_2
           replace p288 := eq_true p288
           replace q288 := eq_true q288
           try go_wp2_with (first | ((with_reducible refine gate_dst (N := 6) rfl ?_); (try (refine gate_guard (by rfl) ?_; dsimp only)); refine box_event ?hg (N := 6) ?hd (cs := #[.int .i64 0, .int .i64 0, .int .i64 0]) (t := 62) ?hr ?_; (case hd => rfl); (case hg => rfl); (case hr => first | (go_simp; done) | (go_simp; rfl)); intro gb289 hg w19 hbox hb; have n0_ := Aside0.mk (blk_below (g := gb286) (o := .cells #[.int .i64 a1_0, .slice (some ad288) l1_1.length c1_1] 25 (0, 0)) (uK BK286) hb); have n1_ := Aside0.mk (below_step (uB1 HB GE286) hb); have n2_ := Aside0.mk (hbox); have n3_ := Aside0.mk ((by rw [hg]; exact (below_size (uB1 HB GE286)) : w.heap.size ≤ gb289)); have n4_ := Aside0.mk ((by rw [hg]; exact (below_size (uB1 HB GE286)) : w.heap.size ≤ gb289)); have n5_ := Aside0.mk ((by rw [hg]; exact Nat.ne_of_lt (blk_lt (g := gb286) (o := .cells #[.int .i64 a1_0, .slice (some ad288) l1_1.length c1_1] 25 (0, 0)) (uK BK286)) : gb286 ≠ gb289)); have n6_ := Aside0.mk ((by rw [hg]; exact Nat.ne_of_gt (blk_lt (g := gb286) (o := .cells #[.int .i64 a1_0, .slice (some ad288) l1_1.length c1_1] 25 (0, 0)) (uK BK286)) : gb289 ≠ gb286)); clear BK286; clear HB; have BK286 := n0_; have HB := n1_; have BK289 := n2_; have GW289 := n3_; have GE289 := n4_; have NB286_289 := n5_; have NB289_286 := n6_; clear n0_ n1_ n2_ n3_ n4_ n5_ n6_; clear hb hbox hg; have hnb20 := NB289_286.out; have hnc20 := NB286_289.out; have hcz21_0 : w19.cell? ⟨gb289, 0, none⟩ = some (.int .i64 0) := (blk_cell BK289.out 0).trans rfl; have hcz21_1 : w19.cell? ⟨gb289, 1, none⟩ = some (.int .i64 0) := (blk_cell BK289.out 1).trans rfl; have hcz21_2 : w19.cell? ⟨gb289, 2, none⟩ = some (.int .i64 0) := (blk_cell BK289.out 2).trans rfl; have hfz21_0 := blk_frozen BK289.out 0; have hfz21_1 := blk_frozen BK289.out 1; have hfz21_2 := blk_frozen BK289.out 2))
           have n0_ : Aside0 ((((w19.setCell ⟨gb289, 0, none⟩ (.int .i64 ((rd_T62 l1_1 x5_2).f0))).setCell ⟨gb289, 1, none⟩ (.int .i64 ((rd_T62 l1_1 x5_2).f1))).setCell ⟨gb289, 2, none⟩ (.int .i64 ((rd_T62 l1_1 x5_2).f2))).heap[gb286]? = some (.cells #[.int .i64 a1_0, .slice (some ad288) l1_1.length c1_1] 25 (0, 0))) := ⟨by (with_reducible repeat (first | refine blk_drewN ?_ _ | refine blk_drew ?_ | refine blk_alloc ?_ _)); refine blk_far ?_ NB286_289.out _; (with_reducible repeat (first | refine blk_drewN ?_ _ | refine blk_drew ?_ | refine blk_alloc ?_ _)); refine blk_far ?_ NB286_289.out _; (with_reducible repeat (first | refine blk_drewN ?_ _ | refine blk_drew ?_ | refine blk_alloc ?_ _)); refine blk_far ?_ NB286_289.out _; (with_reducible repeat (first | refine blk_drewN ?_ _ | refine blk_drew ?_ | refine blk_alloc ?_ _)); exact BK286.out⟩
           have n1_ : Aside0 ((((w19.setCell ⟨gb289, 0, none⟩ (.int .i64 ((rd_T62 l1_1 x5_2).f0))).setCell ⟨gb289, 1, none⟩ (.int .i64 ((rd_T62 l1_1 x5_2).f1))).setCell ⟨gb289, 2, none⟩ (.int .i64 ((rd_T62 l1_1 x5_2).f2))).heap[gb289]? = some (.cells #[.int .i64 ((rd_T62 l1_1 x5_2).f0), .int .i64 ((rd_T62 l1_1 x5_2).f1), .int .i64 ((rd_T62 l1_1 x5_2).f2)] 62 (0, 0))) := ⟨by (with_reducible repeat (first | refine blk_drewN ?_ _ | refine blk_drew ?_ | refine blk_alloc ?_ _)); refine blk_put (cs := #[.int .i64 ((rd_T62 l1_1 x5_2).f0), .int .i64 ((rd_T62 l1_1 x5_2).f1), .int .i64 0]) ?_ 2 _ rfl; (with_reducible repeat (first | refine blk_drewN ?_ _ | refine blk_drew ?_ | refine blk_alloc ?_ _)); refine blk_put (cs := #[.int .i64 ((rd_T62 l1_1 x5_2).f0), .int .i64 0, .int .i64 0]) ?_ 1 _ rfl; (with_reducible repeat (first | refine blk_drewN ?_ _ | refine blk_drew ?_ | refine blk_alloc ?_ _)); refine blk_put (cs := #[.int .i64 0, .int .i64 0, .int .i64 0]) ?_ 0 _ rfl; (with_reducible repeat (first | refine blk_drewN ?_ _ | refine blk_drew ?_ | refine blk_alloc ?_ _)); exact BK289.out⟩
           have n2_ : Aside0 (Below w.heap.size w (((w19.setCell ⟨gb289, 0, none⟩ (.int .i64 ((rd_T62 l1_1 x5_2).f0))).setCell ⟨gb289, 1, none⟩ (.int .i64 ((rd_T62 l1_1 x5_2).f1))).setCell ⟨gb289, 2, none⟩ (.int .i64 ((rd_T62 l1_1 x5_2).f2)))) := ⟨uB2 HB GE286 GE289⟩
           (try clear BK286)
           (try clear BK289)
           (try clear HB)
           generalize (((w19.setCell ⟨gb289, 0, none⟩ (.int .i64 ((rd_T62 l1_1 x5_2).f0))).setCell ⟨gb289, 1, none⟩ (.int .i64 ((rd_T62 l1_1 x5_2).f1))).setCell ⟨gb289, 2, none⟩ (.int .i64 ((rd_T62 l1_1 x5_2).f2))) = w22 at n0_ n1_ n2_ ⊢
           have BK286 := n0_
           have BK289 := n1_
           have HB := n2_
           clear n0_ n1_ n2_
           have n0_ := Aside0.mk (blk_drew BK286.out)
           have n1_ := Aside0.mk (blk_drew BK289.out)
           have n2_ := Aside0.mk (below_drew1 HB.out)
           clear BK286
           clear BK289
           clear HB
           have BK286 := n0_
           have BK289 := n1_
           have HB := n2_
           clear n0_ n1_ n2_
           have q24 : (x5_2 : Int) ≤ ((l1_1.length : Int) : Int) := of_decide_eq_true (by first | (with_reducible assumption) | assumption)
           obtain ⟨i024, hi024, _, hsz24, _⟩ := info_parts info62
           have hroom24 : l1_1.length ≤ c1_1 := HC1_1.out
           have hC24 : Kd.C k62 _ (some ad288) l1_1.length l1_1 := HR1_1.out
           have hcut24 := cut_to (P := Tryd.prog) 23 62 .i64 Tryd.underlying23 hi024 (some ad288) l1_1.length c1_1 x5_2 (of_decide_eq_true (by first | (with_reducible assumption) | assumption)) q24 hroom24
           have hr24 := Kd.C_take (m := (x5_2 : Int).toNat) hC24 (by omega)
           have hy24 : y290.length = (x5_2 : Int).toNat := (by rw [Ny290.out, List.length_take]; omega)
           rw [← Ny290.out] at hr24
           rw [← hy24] at hcut24
           have HR293 := Aside0.mk hr24
           have HC293 := Aside0.mk (show y290.length ≤ c1_1 from by omega)
           clear hr24 hC24 hroom24 hi024 hsz24
           have KY24 := Aside0.mk hy24
           clear hy24
           replace q24 := eq_true q24
           refine start_ (n := 9) (S := fun w' => w'.cell? ⟨gb286, 0, none⟩ = some (.int .i64 a1_0) ∧ w'.cell? ⟨gb286, 1, none⟩ = some (.slice (some ad288) l1_1.length c1_1)) (ds := []) #[false, false, false, false, false, false, false, false, false] (by kernel_rfl) rfl rfl ⟨(blk_cell BK286.out 0).trans rfl, (blk_cell BK286.out 1).trans rfl⟩ (fun hHeld => ?_); refine with_tabW colloquyref20_Check.tab9 colloquyref20_Check.bits9 (fun HT_ HW_ => ?_)
           generalize w22.drew = w23 at BK286 BK289 HB HR293 hHeld ⊢
           refine pure_ (i := 0) (N := some 33) (v := ?_) (a' := ?_) #[true, false, false, false, false, false, false, false, false] rfl rfl (any_of HT_.out (by kernel_rfl)) (fun _ _ _ h => h) (Or.inl ⟨by rfl, ?_⟩) ?_ ?_
           rotate_left
           ·intro w'
            go_simp
            with_reducible rfl
           rotate_left
           ·simp only [Act.put, List.setIfInBounds_toArray, List.set_cons_zero, List.set_cons_succ, i64_w, i32_w]
            rfl
           refine pure_ (i := 2) (N := some 35) (v := ?_) (a' := ?_) #[true, false, true, false, false, false, false, false, false] rfl rfl (any_of HT_.out (by kernel_rfl)) (fun _ _ _ h => h) (Or.inl ⟨by rfl, ?_⟩) ?_ ?_
           rotate_left
           ·intro w'
            go_simp
            with_reducible rfl
           rotate_left
           ·simp only [Act.put, List.setIfInBounds_toArray, List.set_cons_zero, List.set_cons_succ, i64_w, i32_w]
            rfl
           refine pure_ (i := 4) (N := some 37) (v := ?_) (a' := ?_) #[true, false, true, false, true, false, false, false, false] rfl rfl (any_of HT_.out (by kernel_rfl)) (fun _ _ _ h => h) (Or.inl ⟨by rfl, ?_⟩) ?_ ?_
           rotate_left
           ·intro w'
            go_simp
            with_reducible rfl
           rotate_left
           ·simp only [Act.put, List.setIfInBounds_toArray, List.set_cons_zero, List.set_cons_succ, i64_w, i32_w]
            rfl
           refine take_ (i := 1) (N := some 34) (v := ?_) (a' := ?_) #[true, true, true, false, true, false, false, false, false] rfl rfl (take_ofW HT_.out HW_.out (by kernel_rfl)) (fun _ _ _ h => h) (Or.inl ⟨by rfl, ?_⟩) hHeld ?_ ?_
           rotate_left
           ·rintro w' ⟨s0, s1⟩
            go_simp
            with_reducible rfl
           rotate_left
           ·simp only [Act.put, List.setIfInBounds_toArray, List.set_cons_zero, List.set_cons_succ, i64_w, i32_w]
            rfl
           refine take_ (i := 3) (N := some 36) (v := ?_) (a' := ?_) #[true, true, true, true, true, false, false, false, false] rfl rfl (take_ofW HT_.out HW_.out (by kernel_rfl)) (fun _ _ _ h => h) (Or.inl ⟨by rfl, ?_⟩) hHeld ?_ ?_
           rotate_left
           ·rintro w' ⟨s0, s1⟩
            go_simp
            with_reducible rfl
           rotate_left
           ·simp only [Act.put, List.setIfInBounds_toArray, List.set_cons_zero, List.set_cons_succ, i64_w, i32_w]
            rfl
           refine pure_ (i := 5) (N := some 38) (v := ?_) (a' := ?_) #[true, true, true, true, true, true, false, false, false] rfl rfl (any_of HT_.out (by kernel_rfl)) (fun _ _ _ h => h) (Or.inl ⟨by rfl, ?_⟩) ?_ ?_
           rotate_left
           ·intro w'
            go_simp
            with_reducible rfl
           rotate_left
           ·simp only [Act.put, List.setIfInBounds_toArray, List.set_cons_zero, List.set_cons_succ, i64_w, i32_w]
            rfl
           refine pure_ (i := 6) (N := some 39) (v := ?_) (a' := ?_) #[true, true, true, true, true, true, true, false, false] rfl rfl (any_of HT_.out (by kernel_rfl)) (fun _ _ _ h => h) (Or.inl ⟨by rfl, ?_⟩) ?_ ?_
           rotate_left
           ·intro w'
            go_simp
            with_reducible rfl
           rotate_left
           ·simp only [Act.put, List.setIfInBounds_toArray, List.set_cons_zero, List.set_cons_succ, i64_w, i32_w]
            rfl
           refine one_ (i := 7) (N := some 40) #[true, true, true, true, true, true, true, true, false] rfl rfl (one_of HT_.out (by kernel_rfl)) (by decide) (fun K hK => ?_)
           refine goes_ Tryd.func13 (by kernel_rfl) rfl #[.agg #[.int .i64 a1_0, .slice (some ad288) y290.length c1_1]] (by rfl) rfl rfl uC ?_
           with_reducible refine (colloquyref20_Pc.calls k2 a1_0 _ _ y290 t294 _ ?side1 ?side2 A16.out).mono ?_
           (case side1 => exact uS (Kd.C_below HR293.out HB.out))
           (case side2 => exact HC293.out)
           rintro e w25 ⟨rfl, hb⟩
           refine ⟨_, rfl, ?_⟩
           have n0_ := Aside0.mk (blk_below (g := gb286) (o := .cells #[.int .i64 a1_0, .slice (some ad288) l1_1.length c1_1] 25 (0, 0)) (uK BK286) hb)
           have n1_ := Aside0.mk (blk_below (g := gb289) (o := .cells #[.int .i64 ((rd_T62 l1_1 x5_2).f0), .int .i64 ((rd_T62 l1_1 x5_2).f1), .int .i64 ((rd_T62 l1_1 x5_2).f2)] 62 (0, 0)) (uK BK289) hb)
           have n2_ := Aside0.mk (below_step (uB2 HB GE286 GE289) hb)
           clear BK286
           clear BK289
           clear HB
           have BK286 := n0_
           have BK289 := n1_
           have HB := n2_
           clear n0_ n1_ n2_
           (try clear hb)
           (try clear hb2)
           (try clear hk)
           (try clear hi)
           refine hK.out _ _ ⟨(blk_cell BK286.out 0).trans rfl, (blk_cell BK286.out 1).trans rfl⟩ (fun hHeld => ?_)
           clear hK K
           refine norm_ (a' := ?_) ?_ ?_
           rotate_left
           ·show Act.put _ (some 40) _ = _
            exact uP
           refine pure_ (i := 8) (N := some 7) (v := ?_) (a' := ?_) #[true, true, true, true, true, true, true, true, true] rfl rfl (any_of HT_.out (by kernel_rfl)) (fun _ _ _ h => h) (Or.inl ⟨by rfl, ?_⟩) ?_ ?_
           rotate_left
           ·intro w'
            go_simp
            with_reducible rfl
           rotate_left
           ·simp only [Act.put, List.setIfInBounds_toArray, List.set_cons_zero, List.set_cons_succ, i64_w, i32_w]
            rfl
           refine done_ (done_of HT_.out (by kernel_rfl)) ?_
           have hcz26_0 : w25.cell? ⟨gb289, 0, none⟩ = some (.int .i64 ((rd_T62 l1_1 x5_2).f0)) := (blk_cell BK289.out 0).trans rfl
           have hcz26_1 : w25.cell? ⟨gb289, 1, none⟩ = some (.int .i64 ((rd_T62 l1_1 x5_2).f1)) := (blk_cell BK289.out 1).trans rfl
           have hcz26_2 : w25.cell? ⟨gb289, 2, none⟩ = some (.int .i64 ((rd_T62 l1_1 x5_2).f2)) := (blk_cell BK289.out 2).trans rfl
           have hfz26_0 := blk_frozen BK289.out 0
           have hfz26_1 := blk_frozen BK289.out 1
           have hfz26_2 := blk_frozen BK289.out 2
           try go_wp2
           go_ret
           exact ⟨by first | rfl | (simp [errW_none, errW_some] <;> rfl) | (simp [*, errW_none, errW_some] <;> rfl), uB2 HB GE286 GE289⟩
          ·rw [if_neg c17] at H
           have c17b0 : decide (((rd_T62 l1_1 x5_2).f0) < 0) = false := decide_eq_false c17
           clear c17
           by_cases c27 : ((rd_T62 l1_1 x5_2).f0) > 511
           ·rw [if_pos c27] at H
            have c27b0 : decide (511 < ((rd_T62 l1_1 x5_2).f0)) = true := decide_eq_true c27
            clear c27
            obtain rfl := Option.some.inj H
            have hcz28_0 : wr.cell? ⟨gb286, 0, none⟩ = some (.int .i64 a1_0) := (blk_cell BK286.out 0).trans rfl
            have hcz28_1 : wr.cell? ⟨gb286, 1, none⟩ = some (.slice A1_1 l1_1.length c1_1) := (blk_cell BK286.out 1).trans rfl
            have hfz28_0 := blk_frozen BK286.out 0
            have hfz28_1 := blk_frozen BK286.out 1
            have p288 : 0 ≤ (x5_2 : Int) := of_decide_eq_true (by first | (with_reducible assumption) | assumption)
            have q288 : x5_2 < (l1_1.length : Int) := of_decide_eq_true (by first | (with_reducible assumption) | assumption)
            obtain ⟨ad288, e288, hx288_0, hx288_1, hx288_2⟩ := at_T62 HR1_1.out x5_2 p288 q288
            cases e288
            replace hx288_0 := (HB.out.cell (World.block_lt_of_cell? w _ hx288_0)).trans hx288_0
            replace hx288_1 := (HB.out.cell (World.block_lt_of_cell? w _ hx288_1)).trans hx288_1
            replace hx288_2 := (HB.out.cell (World.block_lt_of_cell? w _ hx288_2)).trans hx288_2
            replace p288 := eq_true p288
            replace q288 := eq_true q288
            try go_wp2_with (first | ((with_reducible refine gate_dst (N := 6) rfl ?_); (try (refine gate_guard (by rfl) ?_; dsimp only)); refine box_event ?hg (N := 6) ?hd (cs := #[.int .i64 0, .int .i64 0, .int .i64 0]) (t := 62) ?hr ?_; (case hd => rfl); (case hg => rfl); (case hr => first | (go_simp; done) | (go_simp; rfl)); intro gb289 hg w29 hbox hb; have n0_ := Aside0.mk (blk_below (g := gb286) (o := .cells #[.int .i64 a1_0, .slice (some ad288) l1_1.length c1_1] 25 (0, 0)) (uK BK286) hb); have n1_ := Aside0.mk (below_step (uB1 HB GE286) hb); have n2_ := Aside0.mk (hbox); have n3_ := Aside0.mk ((by rw [hg]; exact (below_size (uB1 HB GE286)) : w.heap.size ≤ gb289)); have n4_ := Aside0.mk ((by rw [hg]; exact (below_size (uB1 HB GE286)) : w.heap.size ≤ gb289)); have n5_ := Aside0.mk ((by rw [hg]; exact Nat.ne_of_lt (blk_lt (g := gb286) (o := .cells #[.int .i64 a1_0, .slice (some ad288) l1_1.length c1_1] 25 (0, 0)) (uK BK286)) : gb286 ≠ gb289)); have n6_ := Aside0.mk ((by rw [hg]; exact Nat.ne_of_gt (blk_lt (g := gb286) (o := .cells #[.int .i64 a1_0, .slice (some ad288) l1_1.length c1_1] 25 (0, 0)) (uK BK286)) : gb289 ≠ gb286)); clear BK286; clear HB; have BK286 := n0_; have HB := n1_; have BK289 := n2_; have GW289 := n3_; have GE289 := n4_; have NB286_289 := n5_; have NB289_286 := n6_; clear n0_ n1_ n2_ n3_ n4_ n5_ n6_; clear hb hbox hg; have hnb30 := NB289_286.out; have hnc30 := NB286_289.out; have hcz31_0 : w29.cell? ⟨gb289, 0, none⟩ = some (.int .i64 0) := (blk_cell BK289.out 0).trans rfl; have hcz31_1 : w29.cell? ⟨gb289, 1, none⟩ = some (.int .i64 0) := (blk_cell BK289.out 1).trans rfl; have hcz31_2 : w29.cell? ⟨gb289, 2, none⟩ = some (.int .i64 0) := (blk_cell BK289.out 2).trans rfl; have hfz31_0 := blk_frozen BK289.out 0; have hfz31_1 := blk_frozen BK289.out 1; have hfz31_2 := blk_frozen BK289.out 2))
            have n0_ : Aside0 ((((w29.setCell ⟨gb289, 0, none⟩ (.int .i64 ((rd_T62 l1_1 x5_2).f0))).setCell ⟨gb289, 1, none⟩ (.int .i64 ((rd_T62 l1_1 x5_2).f1))).setCell ⟨gb289, 2, none⟩ (.int .i64 ((rd_T62 l1_1 x5_2).f2))).heap[gb286]? = some (.cells #[.int .i64 a1_0, .slice (some ad288) l1_1.length c1_1] 25 (0, 0))) := ⟨by (with_reducible repeat (first | refine blk_drewN ?_ _ | refine blk_drew ?_ | refine blk_alloc ?_ _)); refine blk_far ?_ NB286_289.out _; (with_reducible repeat (first | refine blk_drewN ?_ _ | refine blk_drew ?_ | refine blk_alloc ?_ _)); refine blk_far ?_ NB286_289.out _; (with_reducible repeat (first | refine blk_drewN ?_ _ | refine blk_drew ?_ | refine blk_alloc ?_ _)); refine blk_far ?_ NB286_289.out _; (with_reducible repeat (first | refine blk_drewN ?_ _ | refine blk_drew ?_ | refine blk_alloc ?_ _)); exact BK286.out⟩
            have n1_ : Aside0 ((((w29.setCell ⟨gb289, 0, none⟩ (.int .i64 ((rd_T62 l1_1 x5_2).f0))).setCell ⟨gb289, 1, none⟩ (.int .i64 ((rd_T62 l1_1 x5_2).f1))).setCell ⟨gb289, 2, none⟩ (.int .i64 ((rd_T62 l1_1 x5_2).f2))).heap[gb289]? = some (.cells #[.int .i64 ((rd_T62 l1_1 x5_2).f0), .int .i64 ((rd_T62 l1_1 x5_2).f1), .int .i64 ((rd_T62 l1_1 x5_2).f2)] 62 (0, 0))) := ⟨by (with_reducible repeat (first | refine blk_drewN ?_ _ | refine blk_drew ?_ | refine blk_alloc ?_ _)); refine blk_put (cs := #[.int .i64 ((rd_T62 l1_1 x5_2).f0), .int .i64 ((rd_T62 l1_1 x5_2).f1), .int .i64 0]) ?_ 2 _ rfl; (with_reducible repeat (first | refine blk_drewN ?_ _ | refine blk_drew ?_ | refine blk_alloc ?_ _)); refine blk_put (cs := #[.int .i64 ((rd_T62 l1_1 x5_2).f0), .int .i64 0, .int .i64 0]) ?_ 1 _ rfl; (with_reducible repeat (first | refine blk_drewN ?_ _ | refine blk_drew ?_ | refine blk_alloc ?_ _)); refine blk_put (cs := #[.int .i64 0, .int .i64 0, .int .i64 0]) ?_ 0 _ rfl; (with_reducible repeat (first | refine blk_drewN ?_ _ | refine blk_drew ?_ | refine blk_alloc ?_ _)); exact BK289.out⟩
            have n2_ : Aside0 (Below w.heap.size w (((w29.setCell ⟨gb289, 0, none⟩ (.int .i64 ((rd_T62 l1_1 x5_2).f0))).setCell ⟨gb289, 1, none⟩ (.int .i64 ((rd_T62 l1_1 x5_2).f1))).setCell ⟨gb289, 2, none⟩ (.int .i64 ((rd_T62 l1_1 x5_2).f2)))) := ⟨uB2 HB GE286 GE289⟩
            (try clear BK286)
            (try clear BK289)
            (try clear HB)
            generalize (((w29.setCell ⟨gb289, 0, none⟩ (.int .i64 ((rd_T62 l1_1 x5_2).f0))).setCell ⟨gb289, 1, none⟩ (.int .i64 ((rd_T62 l1_1 x5_2).f1))).setCell ⟨gb289, 2, none⟩ (.int .i64 ((rd_T62 l1_1 x5_2).f2))) = w32 at n0_ n1_ n2_ ⊢
            have BK286 := n0_
            have BK289 := n1_
            have HB := n2_
            clear n0_ n1_ n2_
            have n0_ := Aside0.mk (blk_drew BK286.out)
            have n1_ := Aside0.mk (blk_drew BK289.out)
            have n2_ := Aside0.mk (below_drew1 HB.out)
            clear BK286
            clear BK289
            clear HB
            have BK286 := n0_
            have BK289 := n1_
            have HB := n2_
            clear n0_ n1_ n2_
            have q34 : (x5_2 : Int) ≤ ((l1_1.length : Int) : Int) := of_decide_eq_true (by first | (with_reducible assumption) | assumption)
            obtain ⟨i034, hi034, _, hsz34, _⟩ := info_parts info62
            have hroom34 : l1_1.length ≤ c1_1 := HC1_1.out
            have hC34 : Kd.C k62 _ (some ad288) l1_1.length l1_1 := HR1_1.out
            have hcut34 := cut_to (P := Tryd.prog) 23 62 .i64 Tryd.underlying23 hi034 (some ad288) l1_1.length c1_1 x5_2 (of_decide_eq_true (by first | (with_reducible assumption) | assumption)) q34 hroom34
            have hr34 := Kd.C_take (m := (x5_2 : Int).toNat) hC34 (by omega)
            have hy34 : y290.length = (x5_2 : Int).toNat := (by rw [Ny290.out, List.length_take]; omega)
            rw [← Ny290.out] at hr34
            rw [← hy34] at hcut34
            have HR293 := Aside0.mk hr34
            have HC293 := Aside0.mk (show y290.length ≤ c1_1 from by omega)
            clear hr34 hC34 hroom34 hi034 hsz34
            have KY34 := Aside0.mk hy34
            clear hy34
            replace q34 := eq_true q34
            refine start_ (n := 9) (S := fun w' => w'.cell? ⟨gb286, 0, none⟩ = some (.int .i64 a1_0) ∧ w'.cell? ⟨gb286, 1, none⟩ = some (.slice (some ad288) l1_1.length c1_1)) (ds := []) #[false, false, false, false, false, false, false, false, false] (by kernel_rfl) rfl rfl ⟨(blk_cell BK286.out 0).trans rfl, (blk_cell BK286.out 1).trans rfl⟩ (fun hHeld => ?_); refine with_tabW colloquyref20_Check.tab9 colloquyref20_Check.bits9 (fun HT_ HW_ => ?_)
            generalize w32.drew = w33 at BK286 BK289 HB HR293 hHeld ⊢
            refine pure_ (i := 0) (N := some 33) (v := ?_) (a' := ?_) #[true, false, false, false, false, false, false, false, false] rfl rfl (any_of HT_.out (by kernel_rfl)) (fun _ _ _ h => h) (Or.inl ⟨by rfl, ?_⟩) ?_ ?_
            rotate_left
            ·intro w'
             go_simp
             with_reducible rfl
            rotate_left
            ·simp only [Act.put, List.setIfInBounds_toArray, List.set_cons_zero, List.set_cons_succ, i64_w, i32_w]
             rfl
            refine pure_ (i := 2) (N := some 35) (v := ?_) (a' := ?_) #[true, false, true, false, false, false, false, false, false] rfl rfl (any_of HT_.out (by kernel_rfl)) (fun _ _ _ h => h) (Or.inl ⟨by rfl, ?_⟩) ?_ ?_
            rotate_left
            ·intro w'
             go_simp
             with_reducible rfl
            rotate_left
            ·simp only [Act.put, List.setIfInBounds_toArray, List.set_cons_zero, List.set_cons_succ, i64_w, i32_w]
             rfl
            refine pure_ (i := 4) (N := some 37) (v := ?_) (a' := ?_) #[true, false, true, false, true, false, false, false, false] rfl rfl (any_of HT_.out (by kernel_rfl)) (fun _ _ _ h => h) (Or.inl ⟨by rfl, ?_⟩) ?_ ?_
            rotate_left
            ·intro w'
             go_simp
             with_reducible rfl
            rotate_left
            ·simp only [Act.put, List.setIfInBounds_toArray, List.set_cons_zero, List.set_cons_succ, i64_w, i32_w]
             rfl
            refine take_ (i := 1) (N := some 34) (v := ?_) (a' := ?_) #[true, true, true, false, true, false, false, false, false] rfl rfl (take_ofW HT_.out HW_.out (by kernel_rfl)) (fun _ _ _ h => h) (Or.inl ⟨by rfl, ?_⟩) hHeld ?_ ?_
            rotate_left
            ·rintro w' ⟨s0, s1⟩
             go_simp
             with_reducible rfl
            rotate_left
            ·simp only [Act.put, List.setIfInBounds_toArray, List.set_cons_zero, List.set_cons_succ, i64_w, i32_w]
             rfl
            refine take_ (i := 3) (N := some 36) (v := ?_) (a' := ?_) #[true, true, true, true, true, false, false, false, false] rfl rfl (take_ofW HT_.out HW_.out (by kernel_rfl)) (fun _ _ _ h => h) (Or.inl ⟨by rfl, ?_⟩) hHeld ?_ ?_
            rotate_left
            ·rintro w' ⟨s0, s1⟩
             go_simp
             with_reducible rfl
            rotate_left
            ·simp only [Act.put, List.setIfInBounds_toArray, List.set_cons_zero, List.set_cons_succ, i64_w, i32_w]
             rfl
            refine pure_ (i := 5) (N := some 38) (v := ?_) (a' := ?_) #[true, true, true, true, true, true, false, false, false] rfl rfl (any_of HT_.out (by kernel_rfl)) (fun _ _ _ h => h) (Or.inl ⟨by rfl, ?_⟩) ?_ ?_
            rotate_left
            ·intro w'
             go_simp
             with_reducible rfl
            rotate_left
            ·simp only [Act.put, List.setIfInBounds_toArray, List.set_cons_zero, List.set_cons_succ, i64_w, i32_w]
             rfl
            refine pure_ (i := 6) (N := some 39) (v := ?_) (a' := ?_) #[true, true, true, true, true, true, true, false, false] rfl rfl (any_of HT_.out (by kernel_rfl)) (fun _ _ _ h => h) (Or.inl ⟨by rfl, ?_⟩) ?_ ?_
            rotate_left
            ·intro w'
             go_simp
             with_reducible rfl
            rotate_left
            ·simp only [Act.put, List.setIfInBounds_toArray, List.set_cons_zero, List.set_cons_succ, i64_w, i32_w]
             rfl
            refine one_ (i := 7) (N := some 40) #[true, true, true, true, true, true, true, true, false] rfl rfl (one_of HT_.out (by kernel_rfl)) (by decide) (fun K hK => ?_)
            refine goes_ Tryd.func13 (by kernel_rfl) rfl #[.agg #[.int .i64 a1_0, .slice (some ad288) y290.length c1_1]] (by rfl) rfl rfl uC ?_
            with_reducible refine (colloquyref20_Pc.calls k2 a1_0 _ _ y290 t294 _ ?side1 ?side2 A16.out).mono ?_
            (case side1 => exact uS (Kd.C_below HR293.out HB.out))
            (case side2 => exact HC293.out)
            rintro e w35 ⟨rfl, hb⟩
            refine ⟨_, rfl, ?_⟩
            have n0_ := Aside0.mk (blk_below (g := gb286) (o := .cells #[.int .i64 a1_0, .slice (some ad288) l1_1.length c1_1] 25 (0, 0)) (uK BK286) hb)
            have n1_ := Aside0.mk (blk_below (g := gb289) (o := .cells #[.int .i64 ((rd_T62 l1_1 x5_2).f0), .int .i64 ((rd_T62 l1_1 x5_2).f1), .int .i64 ((rd_T62 l1_1 x5_2).f2)] 62 (0, 0)) (uK BK289) hb)
            have n2_ := Aside0.mk (below_step (uB2 HB GE286 GE289) hb)
            clear BK286
            clear BK289
            clear HB
            have BK286 := n0_
            have BK289 := n1_
            have HB := n2_
            clear n0_ n1_ n2_
            (try clear hb)
            (try clear hb2)
            (try clear hk)
            (try clear hi)
            refine hK.out _ _ ⟨(blk_cell BK286.out 0).trans rfl, (blk_cell BK286.out 1).trans rfl⟩ (fun hHeld => ?_)
            clear hK K
            refine norm_ (a' := ?_) ?_ ?_
            rotate_left
            ·show Act.put _ (some 40) _ = _
             exact uP
            refine pure_ (i := 8) (N := some 7) (v := ?_) (a' := ?_) #[true, true, true, true, true, true, true, true, true] rfl rfl (any_of HT_.out (by kernel_rfl)) (fun _ _ _ h => h) (Or.inl ⟨by rfl, ?_⟩) ?_ ?_
            rotate_left
            ·intro w'
             go_simp
             with_reducible rfl
            rotate_left
            ·simp only [Act.put, List.setIfInBounds_toArray, List.set_cons_zero, List.set_cons_succ, i64_w, i32_w]
             rfl
            refine done_ (done_of HT_.out (by kernel_rfl)) ?_
            have hcz36_0 : w35.cell? ⟨gb289, 0, none⟩ = some (.int .i64 ((rd_T62 l1_1 x5_2).f0)) := (blk_cell BK289.out 0).trans rfl
            have hcz36_1 : w35.cell? ⟨gb289, 1, none⟩ = some (.int .i64 ((rd_T62 l1_1 x5_2).f1)) := (blk_cell BK289.out 1).trans rfl
            have hcz36_2 : w35.cell? ⟨gb289, 2, none⟩ = some (.int .i64 ((rd_T62 l1_1 x5_2).f2)) := (blk_cell BK289.out 2).trans rfl
            have hfz36_0 := blk_frozen BK289.out 0
            have hfz36_1 := blk_frozen BK289.out 1
            have hfz36_2 := blk_frozen BK289.out 2
            try go_wp2
            go_ret
            exact ⟨by first | rfl | (simp [errW_none, errW_some] <;> rfl) | (simp [*, errW_none, errW_some] <;> rfl), uB2 HB GE286 GE289⟩
           ·rw [if_neg c27] at H
            have c27b0 : decide (511 < ((rd_T62 l1_1 x5_2).f0)) = false := decide_eq_false c27
            clear c27
            by_cases c37 : ((rd_T62 l1_1 x5_2).f2) < 0
            ·rw [if_pos c37] at H
             have c37b0 : decide (((rd_T62 l1_1 x5_2).f2) < 0) = true := decide_eq_true c37
             clear c37
             obtain rfl := Option.some.inj H
             have hcz38_0 : wr.cell? ⟨gb286, 0, none⟩ = some (.int .i64 a1_0) := (blk_cell BK286.out 0).trans rfl
             have hcz38_1 : wr.cell? ⟨gb286, 1, none⟩ = some (.slice A1_1 l1_1.length c1_1) := (blk_cell BK286.out 1).trans rfl
             have hfz38_0 := blk_frozen BK286.out 0
             have hfz38_1 := blk_frozen BK286.out 1
             have p288 : 0 ≤ (x5_2 : Int) := of_decide_eq_true (by first | (with_reducible assumption) | assumption)
             have q288 : x5_2 < (l1_1.length : Int) := of_decide_eq_true (by first | (with_reducible assumption) | assumption)
             obtain ⟨ad288, e288, hx288_0, hx288_1, hx288_2⟩ := at_T62 HR1_1.out x5_2 p288 q288
             cases e288
             replace hx288_0 := (HB.out.cell (World.block_lt_of_cell? w _ hx288_0)).trans hx288_0
             replace hx288_1 := (HB.out.cell (World.block_lt_of_cell? w _ hx288_1)).trans hx288_1
             replace hx288_2 := (HB.out.cell (World.block_lt_of_cell? w _ hx288_2)).trans hx288_2
             replace p288 := eq_true p288
             replace q288 := eq_true q288
             try go_wp2_with (first | ((with_reducible refine gate_dst (N := 6) rfl ?_); (try (refine gate_guard (by rfl) ?_; dsimp only)); refine box_event ?hg (N := 6) ?hd (cs := #[.int .i64 0, .int .i64 0, .int .i64 0]) (t := 62) ?hr ?_; (case hd => rfl); (case hg => rfl); (case hr => first | (go_simp; done) | (go_simp; rfl)); intro gb289 hg w39 hbox hb; have n0_ := Aside0.mk (blk_below (g := gb286) (o := .cells #[.int .i64 a1_0, .slice (some ad288) l1_1.length c1_1] 25 (0, 0)) (uK BK286) hb); have n1_ := Aside0.mk (below_step (uB1 HB GE286) hb); have n2_ := Aside0.mk (hbox); have n3_ := Aside0.mk ((by rw [hg]; exact (below_size (uB1 HB GE286)) : w.heap.size ≤ gb289)); have n4_ := Aside0.mk ((by rw [hg]; exact (below_size (uB1 HB GE286)) : w.heap.size ≤ gb289)); have n5_ := Aside0.mk ((by rw [hg]; exact Nat.ne_of_lt (blk_lt (g := gb286) (o := .cells #[.int .i64 a1_0, .slice (some ad288) l1_1.length c1_1] 25 (0, 0)) (uK BK286)) : gb286 ≠ gb289)); have n6_ := Aside0.mk ((by rw [hg]; exact Nat.ne_of_gt (blk_lt (g := gb286) (o := .cells #[.int .i64 a1_0, .slice (some ad288) l1_1.length c1_1] 25 (0, 0)) (uK BK286)) : gb289 ≠ gb286)); clear BK286; clear HB; have BK286 := n0_; have HB := n1_; have BK289 := n2_; have GW289 := n3_; have GE289 := n4_; have NB286_289 := n5_; have NB289_286 := n6_; clear n0_ n1_ n2_ n3_ n4_ n5_ n6_; clear hb hbox hg; have hnb40 := NB289_286.out; have hnc40 := NB286_289.out; have hcz41_0 : w39.cell? ⟨gb289, 0, none⟩ = some (.int .i64 0) := (blk_cell BK289.out 0).trans rfl; have hcz41_1 : w39.cell? ⟨gb289, 1, none⟩ = some (.int .i64 0) := (blk_cell BK289.out 1).trans rfl; have hcz41_2 : w39.cell? ⟨gb289, 2, none⟩ = some (.int .i64 0) := (blk_cell BK289.out 2).trans rfl; have hfz41_0 := blk_frozen BK289.out 0; have hfz41_1 := blk_frozen BK289.out 1; have hfz41_2 := blk_frozen BK289.out 2))
             have n0_ : Aside0 ((((w39.setCell ⟨gb289, 0, none⟩ (.int .i64 ((rd_T62 l1_1 x5_2).f0))).setCell ⟨gb289, 1, none⟩ (.int .i64 ((rd_T62 l1_1 x5_2).f1))).setCell ⟨gb289, 2, none⟩ (.int .i64 ((rd_T62 l1_1 x5_2).f2))).heap[gb286]? = some (.cells #[.int .i64 a1_0, .slice (some ad288) l1_1.length c1_1] 25 (0, 0))) := ⟨by (with_reducible repeat (first | refine blk_drewN ?_ _ | refine blk_drew ?_ | refine blk_alloc ?_ _)); refine blk_far ?_ NB286_289.out _; (with_reducible repeat (first | refine blk_drewN ?_ _ | refine blk_drew ?_ | refine blk_alloc ?_ _)); refine blk_far ?_ NB286_289.out _; (with_reducible repeat (first | refine blk_drewN ?_ _ | refine blk_drew ?_ | refine blk_alloc ?_ _)); refine blk_far ?_ NB286_289.out _; (with_reducible repeat (first | refine blk_drewN ?_ _ | refine blk_drew ?_ | refine blk_alloc ?_ _)); exact BK286.out⟩
             have n1_ : Aside0 ((((w39.setCell ⟨gb289, 0, none⟩ (.int .i64 ((rd_T62 l1_1 x5_2).f0))).setCell ⟨gb289, 1, none⟩ (.int .i64 ((rd_T62 l1_1 x5_2).f1))).setCell ⟨gb289, 2, none⟩ (.int .i64 ((rd_T62 l1_1 x5_2).f2))).heap[gb289]? = some (.cells #[.int .i64 ((rd_T62 l1_1 x5_2).f0), .int .i64 ((rd_T62 l1_1 x5_2).f1), .int .i64 ((rd_T62 l1_1 x5_2).f2)] 62 (0, 0))) := ⟨by (with_reducible repeat (first | refine blk_drewN ?_ _ | refine blk_drew ?_ | refine blk_alloc ?_ _)); refine blk_put (cs := #[.int .i64 ((rd_T62 l1_1 x5_2).f0), .int .i64 ((rd_T62 l1_1 x5_2).f1), .int .i64 0]) ?_ 2 _ rfl; (with_reducible repeat (first | refine blk_drewN ?_ _ | refine blk_drew ?_ | refine blk_alloc ?_ _)); refine blk_put (cs := #[.int .i64 ((rd_T62 l1_1 x5_2).f0), .int .i64 0, .int .i64 0]) ?_ 1 _ rfl; (with_reducible repeat (first | refine blk_drewN ?_ _ | refine blk_drew ?_ | refine blk_alloc ?_ _)); refine blk_put (cs := #[.int .i64 0, .int .i64 0, .int .i64 0]) ?_ 0 _ rfl; (with_reducible repeat (first | refine blk_drewN ?_ _ | refine blk_drew ?_ | refine blk_alloc ?_ _)); exact BK289.out⟩
             have n2_ : Aside0 (Below w.heap.size w (((w39.setCell ⟨gb289, 0, none⟩ (.int .i64 ((rd_T62 l1_1 x5_2).f0))).setCell ⟨gb289, 1, none⟩ (.int .i64 ((rd_T62 l1_1 x5_2).f1))).setCell ⟨gb289, 2, none⟩ (.int .i64 ((rd_T62 l1_1 x5_2).f2)))) := ⟨uB2 HB GE286 GE289⟩
             (try clear BK286)
             (try clear BK289)
             (try clear HB)
             generalize (((w39.setCell ⟨gb289, 0, none⟩ (.int .i64 ((rd_T62 l1_1 x5_2).f0))).setCell ⟨gb289, 1, none⟩ (.int .i64 ((rd_T62 l1_1 x5_2).f1))).setCell ⟨gb289, 2, none⟩ (.int .i64 ((rd_T62 l1_1 x5_2).f2))) = w42 at n0_ n1_ n2_ ⊢
             have BK286 := n0_
             have BK289 := n1_
             have HB := n2_
             clear n0_ n1_ n2_
             have n0_ := Aside0.mk (blk_drew BK286.out)
             have n1_ := Aside0.mk (blk_drew BK289.out)
             have n2_ := Aside0.mk (below_drew1 HB.out)
             clear BK286
             clear BK289
             clear HB
             have BK286 := n0_
             have BK289 := n1_
             have HB := n2_
             clear n0_ n1_ n2_
             have q44 : (x5_2 : Int) ≤ ((l1_1.length : Int) : Int) := of_decide_eq_true (by first | (with_reducible assumption) | assumption)
             obtain ⟨i044, hi044, _, hsz44, _⟩ := info_parts info62
             have hroom44 : l1_1.length ≤ c1_1 := HC1_1.out
             have hC44 : Kd.C k62 _ (some ad288) l1_1.length l1_1 := HR1_1.out
             have hcut44 := cut_to (P := Tryd.prog) 23 62 .i64 Tryd.underlying23 hi044 (some ad288) l1_1.length c1_1 x5_2 (of_decide_eq_true (by first | (with_reducible assumption) | assumption)) q44 hroom44
             have hr44 := Kd.C_take (m := (x5_2 : Int).toNat) hC44 (by omega)
             have hy44 : y290.length = (x5_2 : Int).toNat := (by rw [Ny290.out, List.length_take]; omega)
             rw [← Ny290.out] at hr44
             rw [← hy44] at hcut44
             have HR293 := Aside0.mk hr44
             have HC293 := Aside0.mk (show y290.length ≤ c1_1 from by omega)
             clear hr44 hC44 hroom44 hi044 hsz44
             have KY44 := Aside0.mk hy44
             clear hy44
             replace q44 := eq_true q44
             refine start_ (n := 9) (S := fun w' => w'.cell? ⟨gb286, 0, none⟩ = some (.int .i64 a1_0) ∧ w'.cell? ⟨gb286, 1, none⟩ = some (.slice (some ad288) l1_1.length c1_1)) (ds := []) #[false, false, false, false, false, false, false, false, false] (by kernel_rfl) rfl rfl ⟨(blk_cell BK286.out 0).trans rfl, (blk_cell BK286.out 1).trans rfl⟩ (fun hHeld => ?_); refine with_tabW colloquyref20_Check.tab9 colloquyref20_Check.bits9 (fun HT_ HW_ => ?_)
             generalize w42.drew = w43 at BK286 BK289 HB HR293 hHeld ⊢
             refine pure_ (i := 0) (N := some 33) (v := ?_) (a' := ?_) #[true, false, false, false, false, false, false, false, false] rfl rfl (any_of HT_.out (by kernel_rfl)) (fun _ _ _ h => h) (Or.inl ⟨by rfl, ?_⟩) ?_ ?_
             rotate_left
             ·intro w'
              go_simp
              with_reducible rfl
             rotate_left
             ·simp only [Act.put, List.setIfInBounds_toArray, List.set_cons_zero, List.set_cons_succ, i64_w, i32_w]
              rfl
             refine pure_ (i := 2) (N := some 35) (v := ?_) (a' := ?_) #[true, false, true, false, false, false, false, false, false] rfl rfl (any_of HT_.out (by kernel_rfl)) (fun _ _ _ h => h) (Or.inl ⟨by rfl, ?_⟩) ?_ ?_
             rotate_left
             ·intro w'
              go_simp
              with_reducible rfl
             rotate_left
             ·simp only [Act.put, List.setIfInBounds_toArray, List.set_cons_zero, List.set_cons_succ, i64_w, i32_w]
              rfl
             refine pure_ (i := 4) (N := some 37) (v := ?_) (a' := ?_) #[true, false, true, false, true, false, false, false, false] rfl rfl (any_of HT_.out (by kernel_rfl)) (fun _ _ _ h => h) (Or.inl ⟨by rfl, ?_⟩) ?_ ?_
             rotate_left
             ·intro w'
              go_simp
              with_reducible rfl
             rotate_left
             ·simp only [Act.put, List.setIfInBounds_toArray, List.set_cons_zero, List.set_cons_succ, i64_w, i32_w]
              rfl
             refine take_ (i := 1) (N := some 34) (v := ?_) (a' := ?_) #[true, true, true, false, true, false, false, false, false] rfl rfl (take_ofW HT_.out HW_.out (by kernel_rfl)) (fun _ _ _ h => h) (Or.inl ⟨by rfl, ?_⟩) hHeld ?_ ?_
             rotate_left
             ·rintro w' ⟨s0, s1⟩
              go_simp
              with_reducible rfl
             rotate_left
             ·simp only [Act.put, List.setIfInBounds_toArray, List.set_cons_zero, List.set_cons_succ, i64_w, i32_w]
              rfl
             refine take_ (i := 3) (N := some 36) (v := ?_) (a' := ?_) #[true, true, true, true, true, false, false, false, false] rfl rfl (take_ofW HT_.out HW_.out (by kernel_rfl)) (fun _ _ _ h => h) (Or.inl ⟨by rfl, ?_⟩) hHeld ?_ ?_
             rotate_left
             ·rintro w' ⟨s0, s1⟩
              go_simp
              with_reducible rfl
             rotate_left
             ·simp only [Act.put, List.setIfInBounds_toArray, List.set_cons_zero, List.set_cons_succ, i64_w, i32_w]
              rfl
             refine pure_ (i := 5) (N := some 38) (v := ?_) (a' := ?_) #[true, true, true, true, true, true, false, false, false] rfl rfl (any_of HT_.out (by kernel_rfl)) (fun _ _ _ h => h) (Or.inl ⟨by rfl, ?_⟩) ?_ ?_
             rotate_left
             ·intro w'
              go_simp
              with_reducible rfl
             rotate_left
             ·simp only [Act.put, List.setIfInBounds_toArray, List.set_cons_zero, List.set_cons_succ, i64_w, i32_w]
              rfl
             refine pure_ (i := 6) (N := some 39) (v := ?_) (a' := ?_) #[true, true, true, true, true, true, true, false, false] rfl rfl (any_of HT_.out (by kernel_rfl)) (fun _ _ _ h => h) (Or.inl ⟨by rfl, ?_⟩) ?_ ?_
             rotate_left
             ·intro w'
              go_simp
              with_reducible rfl
             rotate_left
             ·simp only [Act.put, List.setIfInBounds_toArray, List.set_cons_zero, List.set_cons_succ, i64_w, i32_w]
              rfl
             refine one_ (i := 7) (N := some 40) #[true, true, true, true, true, true, true, true, false] rfl rfl (one_of HT_.out (by kernel_rfl)) (by decide) (fun K hK => ?_)
             refine goes_ Tryd.func13 (by kernel_rfl) rfl #[.agg #[.int .i64 a1_0, .slice (some ad288) y290.length c1_1]] (by rfl) rfl rfl uC ?_
             with_reducible refine (colloquyref20_Pc.calls k2 a1_0 _ _ y290 t294 _ ?side1 ?side2 A16.out).mono ?_
             (case side1 => exact uS (Kd.C_below HR293.out HB.out))
             (case side2 => exact HC293.out)
             rintro e w45 ⟨rfl, hb⟩
             refine ⟨_, rfl, ?_⟩
             have n0_ := Aside0.mk (blk_below (g := gb286) (o := .cells #[.int .i64 a1_0, .slice (some ad288) l1_1.length c1_1] 25 (0, 0)) (uK BK286) hb)
             have n1_ := Aside0.mk (blk_below (g := gb289) (o := .cells #[.int .i64 ((rd_T62 l1_1 x5_2).f0), .int .i64 ((rd_T62 l1_1 x5_2).f1), .int .i64 ((rd_T62 l1_1 x5_2).f2)] 62 (0, 0)) (uK BK289) hb)
             have n2_ := Aside0.mk (below_step (uB2 HB GE286 GE289) hb)
             clear BK286
             clear BK289
             clear HB
             have BK286 := n0_
             have BK289 := n1_
             have HB := n2_
             clear n0_ n1_ n2_
             (try clear hb)
             (try clear hb2)
             (try clear hk)
             (try clear hi)
             refine hK.out _ _ ⟨(blk_cell BK286.out 0).trans rfl, (blk_cell BK286.out 1).trans rfl⟩ (fun hHeld => ?_)
             clear hK K
             refine norm_ (a' := ?_) ?_ ?_
             rotate_left
             ·show Act.put _ (some 40) _ = _
              exact uP
             refine pure_ (i := 8) (N := some 7) (v := ?_) (a' := ?_) #[true, true, true, true, true, true, true, true, true] rfl rfl (any_of HT_.out (by kernel_rfl)) (fun _ _ _ h => h) (Or.inl ⟨by rfl, ?_⟩) ?_ ?_
             rotate_left
             ·intro w'
              go_simp
              with_reducible rfl
             rotate_left
             ·simp only [Act.put, List.setIfInBounds_toArray, List.set_cons_zero, List.set_cons_succ, i64_w, i32_w]
              rfl
             refine done_ (done_of HT_.out (by kernel_rfl)) ?_
             have hcz46_0 : w45.cell? ⟨gb289, 0, none⟩ = some (.int .i64 ((rd_T62 l1_1 x5_2).f0)) := (blk_cell BK289.out 0).trans rfl
             have hcz46_1 : w45.cell? ⟨gb289, 1, none⟩ = some (.int .i64 ((rd_T62 l1_1 x5_2).f1)) := (blk_cell BK289.out 1).trans rfl
             have hcz46_2 : w45.cell? ⟨gb289, 2, none⟩ = some (.int .i64 ((rd_T62 l1_1 x5_2).f2)) := (blk_cell BK289.out 2).trans rfl
             have hfz46_0 := blk_frozen BK289.out 0
             have hfz46_1 := blk_frozen BK289.out 1
             have hfz46_2 := blk_frozen BK289.out 2
             try go_wp2
             go_ret
             exact ⟨by first | rfl | (simp [errW_none, errW_some] <;> rfl) | (simp [*, errW_none, errW_some] <;> rfl), uB2 HB GE286 GE289⟩
            ·rw [if_neg c37] at H
             have c37b0 : decide (((rd_T62 l1_1 x5_2).f2) < 0) = false := decide_eq_false c37
             clear c37
             by_cases c47 : ((rd_T62 l1_1 x5_2).f2) > 32
             ·rw [if_pos c47] at H
              have c47b0 : decide (32 < ((rd_T62 l1_1 x5_2).f2)) = true := decide_eq_true c47
              clear c47
              obtain rfl := Option.some.inj H
              have hcz48_0 : wr.cell? ⟨gb286, 0, none⟩ = some (.int .i64 a1_0) := (blk_cell BK286.out 0).trans rfl
              have hcz48_1 : wr.cell? ⟨gb286, 1, none⟩ = some (.slice A1_1 l1_1.length c1_1) := (blk_cell BK286.out 1).trans rfl
              have hfz48_0 := blk_frozen BK286.out 0
              have hfz48_1 := blk_frozen BK286.out 1
              have p288 : 0 ≤ (x5_2 : Int) := of_decide_eq_true (by first | (with_reducible assumption) | assumption)
              have q288 : x5_2 < (l1_1.length : Int) := of_decide_eq_true (by first | (with_reducible assumption) | assumption)
              obtain ⟨ad288, e288, hx288_0, hx288_1, hx288_2⟩ := at_T62 HR1_1.out x5_2 p288 q288
              cases e288
              replace hx288_0 := (HB.out.cell (World.block_lt_of_cell? w _ hx288_0)).trans hx288_0
              replace hx288_1 := (HB.out.cell (World.block_lt_of_cell? w _ hx288_1)).trans hx288_1
              replace hx288_2 := (HB.out.cell (World.block_lt_of_cell? w _ hx288_2)).trans hx288_2
              replace p288 := eq_true p288
              replace q288 := eq_true q288
              try go_wp2_with (first | ((with_reducible refine gate_dst (N := 6) rfl ?_); (try (refine gate_guard (by rfl) ?_; dsimp only)); refine box_event ?hg (N := 6) ?hd (cs := #[.int .i64 0, .int .i64 0, .int .i64 0]) (t := 62) ?hr ?_; (case hd => rfl); (case hg => rfl); (case hr => first | (go_simp; done) | (go_simp; rfl)); intro gb289 hg w49 hbox hb; have n0_ := Aside0.mk (blk_below (g := gb286) (o := .cells #[.int .i64 a1_0, .slice (some ad288) l1_1.length c1_1] 25 (0, 0)) (uK BK286) hb); have n1_ := Aside0.mk (below_step (uB1 HB GE286) hb); have n2_ := Aside0.mk (hbox); have n3_ := Aside0.mk ((by rw [hg]; exact (below_size (uB1 HB GE286)) : w.heap.size ≤ gb289)); have n4_ := Aside0.mk ((by rw [hg]; exact (below_size (uB1 HB GE286)) : w.heap.size ≤ gb289)); have n5_ := Aside0.mk ((by rw [hg]; exact Nat.ne_of_lt (blk_lt (g := gb286) (o := .cells #[.int .i64 a1_0, .slice (some ad288) l1_1.length c1_1] 25 (0, 0)) (uK BK286)) : gb286 ≠ gb289)); have n6_ := Aside0.mk ((by rw [hg]; exact Nat.ne_of_gt (blk_lt (g := gb286) (o := .cells #[.int .i64 a1_0, .slice (some ad288) l1_1.length c1_1] 25 (0, 0)) (uK BK286)) : gb289 ≠ gb286)); clear BK286; clear HB; have BK286 := n0_; have HB := n1_; have BK289 := n2_; have GW289 := n3_; have GE289 := n4_; have NB286_289 := n5_; have NB289_286 := n6_; clear n0_ n1_ n2_ n3_ n4_ n5_ n6_; clear hb hbox hg; have hnb50 := NB289_286.out; have hnc50 := NB286_289.out; have hcz51_0 : w49.cell? ⟨gb289, 0, none⟩ = some (.int .i64 0) := (blk_cell BK289.out 0).trans rfl; have hcz51_1 : w49.cell? ⟨gb289, 1, none⟩ = some (.int .i64 0) := (blk_cell BK289.out 1).trans rfl; have hcz51_2 : w49.cell? ⟨gb289, 2, none⟩ = some (.int .i64 0) := (blk_cell BK289.out 2).trans rfl; have hfz51_0 := blk_frozen BK289.out 0; have hfz51_1 := blk_frozen BK289.out 1; have hfz51_2 := blk_frozen BK289.out 2))
              have n0_ : Aside0 ((((w49.setCell ⟨gb289, 0, none⟩ (.int .i64 ((rd_T62 l1_1 x5_2).f0))).setCell ⟨gb289, 1, none⟩ (.int .i64 ((rd_T62 l1_1 x5_2).f1))).setCell ⟨gb289, 2, none⟩ (.int .i64 ((rd_T62 l1_1 x5_2).f2))).heap[gb286]? = some (.cells #[.int .i64 a1_0, .slice (some ad288) l1_1.length c1_1] 25 (0, 0))) := ⟨by (with_reducible repeat (first | refine blk_drewN ?_ _ | refine blk_drew ?_ | refine blk_alloc ?_ _)); refine blk_far ?_ NB286_289.out _; (with_reducible repeat (first | refine blk_drewN ?_ _ | refine blk_drew ?_ | refine blk_alloc ?_ _)); refine blk_far ?_ NB286_289.out _; (with_reducible repeat (first | refine blk_drewN ?_ _ | refine blk_drew ?_ | refine blk_alloc ?_ _)); refine blk_far ?_ NB286_289.out _; (with_reducible repeat (first | refine blk_drewN ?_ _ | refine blk_drew ?_ | refine blk_alloc ?_ _)); exact BK286.out⟩
              have n1_ : Aside0 ((((w49.setCell ⟨gb289, 0, none⟩ (.int .i64 ((rd_T62 l1_1 x5_2).f0))).setCell ⟨gb289, 1, none⟩ (.int .i64 ((rd_T62 l1_1 x5_2).f1))).setCell ⟨gb289, 2, none⟩ (.int .i64 ((rd_T62 l1_1 x5_2).f2))).heap[gb289]? = some (.cells #[.int .i64 ((rd_T62 l1_1 x5_2).f0), .int .i64 ((rd_T62 l1_1 x5_2).f1), .int .i64 ((rd_T62 l1_1 x5_2).f2)] 62 (0, 0))) := ⟨by (with_reducible repeat (first | refine blk_drewN ?_ _ | refine blk_drew ?_ | refine blk_alloc ?_ _)); refine blk_put (cs := #[.int .i64 ((rd_T62 l1_1 x5_2).f0), .int .i64 ((rd_T62 l1_1 x5_2).f1), .int .i64 0]) ?_ 2 _ rfl; (with_reducible repeat (first | refine blk_drewN ?_ _ | refine blk_drew ?_ | refine blk_alloc ?_ _)); refine blk_put (cs := #[.int .i64 ((rd_T62 l1_1 x5_2).f0), .int .i64 0, .int .i64 0]) ?_ 1 _ rfl; (with_reducible repeat (first | refine blk_drewN ?_ _ | refine blk_drew ?_ | refine blk_alloc ?_ _)); refine blk_put (cs := #[.int .i64 0, .int .i64 0, .int .i64 0]) ?_ 0 _ rfl; (with_reducible repeat (first | refine blk_drewN ?_ _ | refine blk_drew ?_ | refine blk_alloc ?_ _)); exact BK289.out⟩
              have n2_ : Aside0 (Below w.heap.size w (((w49.setCell ⟨gb289, 0, none⟩ (.int .i64 ((rd_T62 l1_1 x5_2).f0))).setCell ⟨gb289, 1, none⟩ (.int .i64 ((rd_T62 l1_1 x5_2).f1))).setCell ⟨gb289, 2, none⟩ (.int .i64 ((rd_T62 l1_1 x5_2).f2)))) := ⟨uB2 HB GE286 GE289⟩
              (try clear BK286)
              (try clear BK289)
              (try clear HB)
              generalize (((w49.setCell ⟨gb289, 0, none⟩ (.int .i64 ((rd_T62 l1_1 x5_2).f0))).setCell ⟨gb289, 1, none⟩ (.int .i64 ((rd_T62 l1_1 x5_2).f1))).setCell ⟨gb289, 2, none⟩ (.int .i64 ((rd_T62 l1_1 x5_2).f2))) = w52 at n0_ n1_ n2_ ⊢
              have BK286 := n0_
              have BK289 := n1_
              have HB := n2_
              clear n0_ n1_ n2_
              have n0_ := Aside0.mk (blk_drew BK286.out)
              have n1_ := Aside0.mk (blk_drew BK289.out)
              have n2_ := Aside0.mk (below_drew1 HB.out)
              clear BK286
              clear BK289
              clear HB
              have BK286 := n0_
              have BK289 := n1_
              have HB := n2_
              clear n0_ n1_ n2_
              have q54 : (x5_2 : Int) ≤ ((l1_1.length : Int) : Int) := of_decide_eq_true (by first | (with_reducible assumption) | assumption)
              obtain ⟨i054, hi054, _, hsz54, _⟩ := info_parts info62
              have hroom54 : l1_1.length ≤ c1_1 := HC1_1.out
              have hC54 : Kd.C k62 _ (some ad288) l1_1.length l1_1 := HR1_1.out
              have hcut54 := cut_to (P := Tryd.prog) 23 62 .i64 Tryd.underlying23 hi054 (some ad288) l1_1.length c1_1 x5_2 (of_decide_eq_true (by first | (with_reducible assumption) | assumption)) q54 hroom54
              have hr54 := Kd.C_take (m := (x5_2 : Int).toNat) hC54 (by omega)
              have hy54 : y290.length = (x5_2 : Int).toNat := (by rw [Ny290.out, List.length_take]; omega)
              rw [← Ny290.out] at hr54
              rw [← hy54] at hcut54
              have HR293 := Aside0.mk hr54
              have HC293 := Aside0.mk (show y290.length ≤ c1_1 from by omega)
              clear hr54 hC54 hroom54 hi054 hsz54
              have KY54 := Aside0.mk hy54
              clear hy54
              replace q54 := eq_true q54
              refine start_ (n := 9) (S := fun w' => w'.cell? ⟨gb286, 0, none⟩ = some (.int .i64 a1_0) ∧ w'.cell? ⟨gb286, 1, none⟩ = some (.slice (some ad288) l1_1.length c1_1)) (ds := []) #[false, false, false, false, false, false, false, false, false] (by kernel_rfl) rfl rfl ⟨(blk_cell BK286.out 0).trans rfl, (blk_cell BK286.out 1).trans rfl⟩ (fun hHeld => ?_); refine with_tabW colloquyref20_Check.tab9 colloquyref20_Check.bits9 (fun HT_ HW_ => ?_)
              generalize w52.drew = w53 at BK286 BK289 HB HR293 hHeld ⊢
              refine pure_ (i := 0) (N := some 33) (v := ?_) (a' := ?_) #[true, false, false, false, false, false, false, false, false] rfl rfl (any_of HT_.out (by kernel_rfl)) (fun _ _ _ h => h) (Or.inl ⟨by rfl, ?_⟩) ?_ ?_
              rotate_left
              ·intro w'
               go_simp
               with_reducible rfl
              rotate_left
              ·simp only [Act.put, List.setIfInBounds_toArray, List.set_cons_zero, List.set_cons_succ, i64_w, i32_w]
               rfl
              refine pure_ (i := 2) (N := some 35) (v := ?_) (a' := ?_) #[true, false, true, false, false, false, false, false, false] rfl rfl (any_of HT_.out (by kernel_rfl)) (fun _ _ _ h => h) (Or.inl ⟨by rfl, ?_⟩) ?_ ?_
              rotate_left
              ·intro w'
               go_simp
               with_reducible rfl
              rotate_left
              ·simp only [Act.put, List.setIfInBounds_toArray, List.set_cons_zero, List.set_cons_succ, i64_w, i32_w]
               rfl
              refine pure_ (i := 4) (N := some 37) (v := ?_) (a' := ?_) #[true, false, true, false, true, false, false, false, false] rfl rfl (any_of HT_.out (by kernel_rfl)) (fun _ _ _ h => h) (Or.inl ⟨by rfl, ?_⟩) ?_ ?_
              rotate_left
              ·intro w'
               go_simp
               with_reducible rfl
              rotate_left
              ·simp only [Act.put, List.setIfInBounds_toArray, List.set_cons_zero, List.set_cons_succ, i64_w, i32_w]
               rfl
              refine take_ (i := 1) (N := some 34) (v := ?_) (a' := ?_) #[true, true, true, false, true, false, false, false, false] rfl rfl (take_ofW HT_.out HW_.out (by kernel_rfl)) (fun _ _ _ h => h) (Or.inl ⟨by rfl, ?_⟩) hHeld ?_ ?_
              rotate_left
              ·rintro w' ⟨s0, s1⟩
               go_simp
               with_reducible rfl
              rotate_left
              ·simp only [Act.put, List.setIfInBounds_toArray, List.set_cons_zero, List.set_cons_succ, i64_w, i32_w]
               rfl
              refine take_ (i := 3) (N := some 36) (v := ?_) (a' := ?_) #[true, true, true, true, true, false, false, false, false] rfl rfl (take_ofW HT_.out HW_.out (by kernel_rfl)) (fun _ _ _ h => h) (Or.inl ⟨by rfl, ?_⟩) hHeld ?_ ?_
              rotate_left
              ·rintro w' ⟨s0, s1⟩
               go_simp
               with_reducible rfl
              rotate_left
              ·simp only [Act.put, List.setIfInBounds_toArray, List.set_cons_zero, List.set_cons_succ, i64_w, i32_w]
               rfl
              refine pure_ (i := 5) (N := some 38) (v := ?_) (a' := ?_) #[true, true, true, true, true, true, false, false, false] rfl rfl (any_of HT_.out (by kernel_rfl)) (fun _ _ _ h => h) (Or.inl ⟨by rfl, ?_⟩) ?_ ?_
              rotate_left
              ·intro w'
               go_simp
               with_reducible rfl
              rotate_left
              ·simp only [Act.put, List.setIfInBounds_toArray, List.set_cons_zero, List.set_cons_succ, i64_w, i32_w]
               rfl
              refine pure_ (i := 6) (N := some 39) (v := ?_) (a' := ?_) #[true, true, true, true, true, true, true, false, false] rfl rfl (any_of HT_.out (by kernel_rfl)) (fun _ _ _ h => h) (Or.inl ⟨by rfl, ?_⟩) ?_ ?_
              rotate_left
              ·intro w'
               go_simp
               with_reducible rfl
              rotate_left
              ·simp only [Act.put, List.setIfInBounds_toArray, List.set_cons_zero, List.set_cons_succ, i64_w, i32_w]
               rfl
              refine one_ (i := 7) (N := some 40) #[true, true, true, true, true, true, true, true, false] rfl rfl (one_of HT_.out (by kernel_rfl)) (by decide) (fun K hK => ?_)
              refine goes_ Tryd.func13 (by kernel_rfl) rfl #[.agg #[.int .i64 a1_0, .slice (some ad288) y290.length c1_1]] (by rfl) rfl rfl uC ?_
              with_reducible refine (colloquyref20_Pc.calls k2 a1_0 _ _ y290 t294 _ ?side1 ?side2 A16.out).mono ?_
              (case side1 => exact uS (Kd.C_below HR293.out HB.out))
              (case side2 => exact HC293.out)
              rintro e w55 ⟨rfl, hb⟩
              refine ⟨_, rfl, ?_⟩
              have n0_ := Aside0.mk (blk_below (g := gb286) (o := .cells #[.int .i64 a1_0, .slice (some ad288) l1_1.length c1_1] 25 (0, 0)) (uK BK286) hb)
              have n1_ := Aside0.mk (blk_below (g := gb289) (o := .cells #[.int .i64 ((rd_T62 l1_1 x5_2).f0), .int .i64 ((rd_T62 l1_1 x5_2).f1), .int .i64 ((rd_T62 l1_1 x5_2).f2)] 62 (0, 0)) (uK BK289) hb)
              have n2_ := Aside0.mk (below_step (uB2 HB GE286 GE289) hb)
              clear BK286
              clear BK289
              clear HB
              have BK286 := n0_
              have BK289 := n1_
              have HB := n2_
              clear n0_ n1_ n2_
              (try clear hb)
              (try clear hb2)
              (try clear hk)
              (try clear hi)
              refine hK.out _ _ ⟨(blk_cell BK286.out 0).trans rfl, (blk_cell BK286.out 1).trans rfl⟩ (fun hHeld => ?_)
              clear hK K
              refine norm_ (a' := ?_) ?_ ?_
              rotate_left
              ·show Act.put _ (some 40) _ = _
               exact uP
              refine pure_ (i := 8) (N := some 7) (v := ?_) (a' := ?_) #[true, true, true, true, true, true, true, true, true] rfl rfl (any_of HT_.out (by kernel_rfl)) (fun _ _ _ h => h) (Or.inl ⟨by rfl, ?_⟩) ?_ ?_
              rotate_left
              ·intro w'
               go_simp
               with_reducible rfl
              rotate_left
              ·simp only [Act.put, List.setIfInBounds_toArray, List.set_cons_zero, List.set_cons_succ, i64_w, i32_w]
               rfl
              refine done_ (done_of HT_.out (by kernel_rfl)) ?_
              have hcz56_0 : w55.cell? ⟨gb289, 0, none⟩ = some (.int .i64 ((rd_T62 l1_1 x5_2).f0)) := (blk_cell BK289.out 0).trans rfl
              have hcz56_1 : w55.cell? ⟨gb289, 1, none⟩ = some (.int .i64 ((rd_T62 l1_1 x5_2).f1)) := (blk_cell BK289.out 1).trans rfl
              have hcz56_2 : w55.cell? ⟨gb289, 2, none⟩ = some (.int .i64 ((rd_T62 l1_1 x5_2).f2)) := (blk_cell BK289.out 2).trans rfl
              have hfz56_0 := blk_frozen BK289.out 0
              have hfz56_1 := blk_frozen BK289.out 1
              have hfz56_2 := blk_frozen BK289.out 2
              try go_wp2
              go_ret
              exact ⟨by first | rfl | (simp [errW_none, errW_some] <;> rfl) | (simp [*, errW_none, errW_some] <;> rfl), uB2 HB GE286 GE289⟩
             ·rw [if_neg c47] at H
              have c47b0 : decide (32 < ((rd_T62 l1_1 x5_2).f2)) = false := decide_eq_false c47
              clear c47
              by_cases c57 : ((rd_T62 l1_1 x5_2).f1) = t294
              ·rw [if_pos c57] at H
               have c57b0 : (((rd_T62 l1_1 x5_2).f1) == t294) = true := beq_iff_eq.mpr c57
               have c57b1 : (((rd_T62 l1_1 x5_2).f1) != t294) = false := bne_eq_false_iff_eq.mpr c57
               clear c57
               obtain rfl := Option.some.inj H
               have hcz58_0 : wr.cell? ⟨gb286, 0, none⟩ = some (.int .i64 a1_0) := (blk_cell BK286.out 0).trans rfl
               have hcz58_1 : wr.cell? ⟨gb286, 1, none⟩ = some (.slice A1_1 l1_1.length c1_1) := (blk_cell BK286.out 1).trans rfl
               have hfz58_0 := blk_frozen BK286.out 0
               have hfz58_1 := blk_frozen BK286.out 1
               have p288 : 0 ≤ (x5_2 : Int) := of_decide_eq_true (by first | (with_reducible assumption) | assumption)
               have q288 : x5_2 < (l1_1.length : Int) := of_decide_eq_true (by first | (with_reducible assumption) | assumption)
               obtain ⟨ad288, e288, hx288_0, hx288_1, hx288_2⟩ := at_T62 HR1_1.out x5_2 p288 q288
               cases e288
               replace hx288_0 := (HB.out.cell (World.block_lt_of_cell? w _ hx288_0)).trans hx288_0
               replace hx288_1 := (HB.out.cell (World.block_lt_of_cell? w _ hx288_1)).trans hx288_1
               replace hx288_2 := (HB.out.cell (World.block_lt_of_cell? w _ hx288_2)).trans hx288_2
               replace p288 := eq_true p288
               replace q288 := eq_true q288
               try go_wp2_with (first | ((with_reducible refine gate_dst (N := 6) rfl ?_); (try (refine gate_guard (by rfl) ?_; dsimp only)); refine box_event ?hg (N := 6) ?hd (cs := #[.int .i64 0, .int .i64 0, .int .i64 0]) (t := 62) ?hr ?_; (case hd => rfl); (case hg => rfl); (case hr => first | (go_simp; done) | (go_simp; rfl)); intro gb289 hg w59 hbox hb; have n0_ := Aside0.mk (blk_below (g := gb286) (o := .cells #[.int .i64 a1_0, .slice (some ad288) l1_1.length c1_1] 25 (0, 0)) (uK BK286) hb); have n1_ := Aside0.mk (below_step (uB1 HB GE286) hb); have n2_ := Aside0.mk (hbox); have n3_ := Aside0.mk ((by rw [hg]; exact (below_size (uB1 HB GE286)) : w.heap.size ≤ gb289)); have n4_ := Aside0.mk ((by rw [hg]; exact (below_size (uB1 HB GE286)) : w.heap.size ≤ gb289)); have n5_ := Aside0.mk ((by rw [hg]; exact Nat.ne_of_lt (blk_lt (g := gb286) (o := .cells #[.int .i64 a1_0, .slice (some ad288) l1_1.length c1_1] 25 (0, 0)) (uK BK286)) : gb286 ≠ gb289)); have n6_ := Aside0.mk ((by rw [hg]; exact Nat.ne_of_gt (blk_lt (g := gb286) (o := .cells #[.int .i64 a1_0, .slice (some ad288) l1_1.length c1_1] 25 (0, 0)) (uK BK286)) : gb289 ≠ gb286)); clear BK286; clear HB; have BK286 := n0_; have HB := n1_; have BK289 := n2_; have GW289 := n3_; have GE289 := n4_; have NB286_289 := n5_; have NB289_286 := n6_; clear n0_ n1_ n2_ n3_ n4_ n5_ n6_; clear hb hbox hg; have hnb60 := NB289_286.out; have hnc60 := NB286_289.out; have hcz61_0 : w59.cell? ⟨gb289, 0, none⟩ = some (.int .i64 0) := (blk_cell BK289.out 0).trans rfl; have hcz61_1 : w59.cell? ⟨gb289, 1, none⟩ = some (.int .i64 0) := (blk_cell BK289.out 1).trans rfl; have hcz61_2 : w59.cell? ⟨gb289, 2, none⟩ = some (.int .i64 0) := (blk_cell BK289.out 2).trans rfl; have hfz61_0 := blk_frozen BK289.out 0; have hfz61_1 := blk_frozen BK289.out 1; have hfz61_2 := blk_frozen BK289.out 2))
               have n0_ : Aside0 ((((w59.setCell ⟨gb289, 0, none⟩ (.int .i64 ((rd_T62 l1_1 x5_2).f0))).setCell ⟨gb289, 1, none⟩ (.int .i64 ((rd_T62 l1_1 x5_2).f1))).setCell ⟨gb289, 2, none⟩ (.int .i64 ((rd_T62 l1_1 x5_2).f2))).heap[gb286]? = some (.cells #[.int .i64 a1_0, .slice (some ad288) l1_1.length c1_1] 25 (0, 0))) := ⟨by (with_reducible repeat (first | refine blk_drewN ?_ _ | refine blk_drew ?_ | refine blk_alloc ?_ _)); refine blk_far ?_ NB286_289.out _; (with_reducible repeat (first | refine blk_drewN ?_ _ | refine blk_drew ?_ | refine blk_alloc ?_ _)); refine blk_far ?_ NB286_289.out _; (with_reducible repeat (first | refine blk_drewN ?_ _ | refine blk_drew ?_ | refine blk_alloc ?_ _)); refine blk_far ?_ NB286_289.out _; (with_reducible repeat (first | refine blk_drewN ?_ _ | refine blk_drew ?_ | refine blk_alloc ?_ _)); exact BK286.out⟩
               have n1_ : Aside0 ((((w59.setCell ⟨gb289, 0, none⟩ (.int .i64 ((rd_T62 l1_1 x5_2).f0))).setCell ⟨gb289, 1, none⟩ (.int .i64 ((rd_T62 l1_1 x5_2).f1))).setCell ⟨gb289, 2, none⟩ (.int .i64 ((rd_T62 l1_1 x5_2).f2))).heap[gb289]? = some (.cells #[.int .i64 ((rd_T62 l1_1 x5_2).f0), .int .i64 ((rd_T62 l1_1 x5_2).f1), .int .i64 ((rd_T62 l1_1 x5_2).f2)] 62 (0, 0))) := ⟨by (with_reducible repeat (first | refine blk_drewN ?_ _ | refine blk_drew ?_ | refine blk_alloc ?_ _)); refine blk_put (cs := #[.int .i64 ((rd_T62 l1_1 x5_2).f0), .int .i64 ((rd_T62 l1_1 x5_2).f1), .int .i64 0]) ?_ 2 _ rfl; (with_reducible repeat (first | refine blk_drewN ?_ _ | refine blk_drew ?_ | refine blk_alloc ?_ _)); refine blk_put (cs := #[.int .i64 ((rd_T62 l1_1 x5_2).f0), .int .i64 0, .int .i64 0]) ?_ 1 _ rfl; (with_reducible repeat (first | refine blk_drewN ?_ _ | refine blk_drew ?_ | refine blk_alloc ?_ _)); refine blk_put (cs := #[.int .i64 0, .int .i64 0, .int .i64 0]) ?_ 0 _ rfl; (with_reducible repeat (first | refine blk_drewN ?_ _ | refine blk_drew ?_ | refine blk_alloc ?_ _)); exact BK289.out⟩
               have n2_ : Aside0 (Below w.heap.size w (((w59.setCell ⟨gb289, 0, none⟩ (.int .i64 ((rd_T62 l1_1 x5_2).f0))).setCell ⟨gb289, 1, none⟩ (.int .i64 ((rd_T62 l1_1 x5_2).f1))).setCell ⟨gb289, 2, none⟩ (.int .i64 ((rd_T62 l1_1 x5_2).f2)))) := ⟨uB2 HB GE286 GE289⟩
               (try clear BK286)
               (try clear BK289)
               (try clear HB)
               generalize (((w59.setCell ⟨gb289, 0, none⟩ (.int .i64 ((rd_T62 l1_1 x5_2).f0))).setCell ⟨gb289, 1, none⟩ (.int .i64 ((rd_T62 l1_1 x5_2).f1))).setCell ⟨gb289, 2, none⟩ (.int .i64 ((rd_T62 l1_1 x5_2).f2))) = w62 at n0_ n1_ n2_ ⊢
               have BK286 := n0_
               have BK289 := n1_
               have HB := n2_
               clear n0_ n1_ n2_
               have n0_ := Aside0.mk (blk_drew BK286.out)
               have n1_ := Aside0.mk (blk_drew BK289.out)
               have n2_ := Aside0.mk (below_drew1 HB.out)
               clear BK286
               clear BK289
               clear HB
               have BK286 := n0_
               have BK289 := n1_
               have HB := n2_
               clear n0_ n1_ n2_
               have q64 : (x5_2 : Int) ≤ ((l1_1.length : Int) : Int) := of_decide_eq_true (by first | (with_reducible assumption) | assumption)
               obtain ⟨i064, hi064, _, hsz64, _⟩ := info_parts info62
               have hroom64 : l1_1.length ≤ c1_1 := HC1_1.out
               have hC64 : Kd.C k62 _ (some ad288) l1_1.length l1_1 := HR1_1.out
               have hcut64 := cut_to (P := Tryd.prog) 23 62 .i64 Tryd.underlying23 hi064 (some ad288) l1_1.length c1_1 x5_2 (of_decide_eq_true (by first | (with_reducible assumption) | assumption)) q64 hroom64
               have hr64 := Kd.C_take (m := (x5_2 : Int).toNat) hC64 (by omega)
               have hy64 : y290.length = (x5_2 : Int).toNat := (by rw [Ny290.out, List.length_take]; omega)
               rw [← Ny290.out] at hr64
               rw [← hy64] at hcut64
               have HR293 := Aside0.mk hr64
               have HC293 := Aside0.mk (show y290.length ≤ c1_1 from by omega)
               clear hr64 hC64 hroom64 hi064 hsz64
               have KY64 := Aside0.mk hy64
               clear hy64
               replace q64 := eq_true q64
               refine start_ (n := 9) (S := fun w' => w'.cell? ⟨gb286, 0, none⟩ = some (.int .i64 a1_0) ∧ w'.cell? ⟨gb286, 1, none⟩ = some (.slice (some ad288) l1_1.length c1_1)) (ds := []) #[false, false, false, false, false, false, false, false, false] (by kernel_rfl) rfl rfl ⟨(blk_cell BK286.out 0).trans rfl, (blk_cell BK286.out 1).trans rfl⟩ (fun hHeld => ?_); refine with_tabW colloquyref20_Check.tab9 colloquyref20_Check.bits9 (fun HT_ HW_ => ?_)
               generalize w62.drew = w63 at BK286 BK289 HB HR293 hHeld ⊢
               refine pure_ (i := 0) (N := some 33) (v := ?_) (a' := ?_) #[true, false, false, false, false, false, false, false, false] rfl rfl (any_of HT_.out (by kernel_rfl)) (fun _ _ _ h => h) (Or.inl ⟨by rfl, ?_⟩) ?_ ?_
               rotate_left
               ·intro w'
                go_simp
                with_reducible rfl
               rotate_left
               ·simp only [Act.put, List.setIfInBounds_toArray, List.set_cons_zero, List.set_cons_succ, i64_w, i32_w]
                rfl
               refine pure_ (i := 2) (N := some 35) (v := ?_) (a' := ?_) #[true, false, true, false, false, false, false, false, false] rfl rfl (any_of HT_.out (by kernel_rfl)) (fun _ _ _ h => h) (Or.inl ⟨by rfl, ?_⟩) ?_ ?_
               rotate_left
               ·intro w'
                go_simp
                with_reducible rfl
               rotate_left
               ·simp only [Act.put, List.setIfInBounds_toArray, List.set_cons_zero, List.set_cons_succ, i64_w, i32_w]
                rfl
               refine pure_ (i := 4) (N := some 37) (v := ?_) (a' := ?_) #[true, false, true, false, true, false, false, false, false] rfl rfl (any_of HT_.out (by kernel_rfl)) (fun _ _ _ h => h) (Or.inl ⟨by rfl, ?_⟩) ?_ ?_
               rotate_left
               ·intro w'
                go_simp
                with_reducible rfl
               rotate_left
               ·simp only [Act.put, List.setIfInBounds_toArray, List.set_cons_zero, List.set_cons_succ, i64_w, i32_w]
                rfl
               refine take_ (i := 1) (N := some 34) (v := ?_) (a' := ?_) #[true, true, true, false, true, false, false, false, false] rfl rfl (take_ofW HT_.out HW_.out (by kernel_rfl)) (fun _ _ _ h => h) (Or.inl ⟨by rfl, ?_⟩) hHeld ?_ ?_
               rotate_left
               ·rintro w' ⟨s0, s1⟩
                go_simp
                with_reducible rfl
               rotate_left
               ·simp only [Act.put, List.setIfInBounds_toArray, List.set_cons_zero, List.set_cons_succ, i64_w, i32_w]
                rfl
               refine take_ (i := 3) (N := some 36) (v := ?_) (a' := ?_) #[true, true, true, true, true, false, false, false, false] rfl rfl (take_ofW HT_.out HW_.out (by kernel_rfl)) (fun _ _ _ h => h) (Or.inl ⟨by rfl, ?_⟩) hHeld ?_ ?_
               rotate_left
               ·rintro w' ⟨s0, s1⟩
                go_simp
                with_reducible rfl
               rotate_left
               ·simp only [Act.put, List.setIfInBounds_toArray, List.set_cons_zero, List.set_cons_succ, i64_w, i32_w]
                rfl
               refine pure_ (i := 5) (N := some 38) (v := ?_) (a' := ?_) #[true, true, true, true, true, true, false, false, false] rfl rfl (any_of HT_.out (by kernel_rfl)) (fun _ _ _ h => h) (Or.inl ⟨by rfl, ?_⟩) ?_ ?_
               rotate_left
               ·intro w'
                go_simp
                with_reducible rfl
               rotate_left
               ·simp only [Act.put, List.setIfInBounds_toArray, List.set_cons_zero, List.set_cons_succ, i64_w, i32_w]
                rfl
               refine pure_ (i := 6) (N := some 39) (v := ?_) (a' := ?_) #[true, true, true, true, true, true, true, false, false] rfl rfl (any_of HT_.out (by kernel_rfl)) (fun _ _ _ h => h) (Or.inl ⟨by rfl, ?_⟩) ?_ ?_
               rotate_left
               ·intro w'
                go_simp
                with_reducible rfl
               rotate_left
               ·simp only [Act.put, List.setIfInBounds_toArray, List.set_cons_zero, List.set_cons_succ, i64_w, i32_w]
                rfl
               refine one_ (i := 7) (N := some 40) #[true, true, true, true, true, true, true, true, false] rfl rfl (one_of HT_.out (by kernel_rfl)) (by decide) (fun K hK => ?_)
               refine goes_ Tryd.func13 (by kernel_rfl) rfl #[.agg #[.int .i64 a1_0, .slice (some ad288) y290.length c1_1]] (by rfl) rfl rfl uC ?_
               with_reducible refine (colloquyref20_Pc.calls k2 a1_0 _ _ y290 t294 _ ?side1 ?side2 A16.out).mono ?_
               (case side1 => exact uS (Kd.C_below HR293.out HB.out))
               (case side2 => exact HC293.out)
               rintro e w65 ⟨rfl, hb⟩
               refine ⟨_, rfl, ?_⟩
               have n0_ := Aside0.mk (blk_below (g := gb286) (o := .cells #[.int .i64 a1_0, .slice (some ad288) l1_1.length c1_1] 25 (0, 0)) (uK BK286) hb)
               have n1_ := Aside0.mk (blk_below (g := gb289) (o := .cells #[.int .i64 ((rd_T62 l1_1 x5_2).f0), .int .i64 ((rd_T62 l1_1 x5_2).f1), .int .i64 ((rd_T62 l1_1 x5_2).f2)] 62 (0, 0)) (uK BK289) hb)
               have n2_ := Aside0.mk (below_step (uB2 HB GE286 GE289) hb)
               clear BK286
               clear BK289
               clear HB
               have BK286 := n0_
               have BK289 := n1_
               have HB := n2_
               clear n0_ n1_ n2_
               (try clear hb)
               (try clear hb2)
               (try clear hk)
               (try clear hi)
               refine hK.out _ _ ⟨(blk_cell BK286.out 0).trans rfl, (blk_cell BK286.out 1).trans rfl⟩ (fun hHeld => ?_)
               clear hK K
               refine norm_ (a' := ?_) ?_ ?_
               rotate_left
               ·show Act.put _ (some 40) _ = _
                exact uP
               refine pure_ (i := 8) (N := some 7) (v := ?_) (a' := ?_) #[true, true, true, true, true, true, true, true, true] rfl rfl (any_of HT_.out (by kernel_rfl)) (fun _ _ _ h => h) (Or.inl ⟨by rfl, ?_⟩) ?_ ?_
               rotate_left
               ·intro w'
                go_simp
                with_reducible rfl
               rotate_left
               ·simp only [Act.put, List.setIfInBounds_toArray, List.set_cons_zero, List.set_cons_succ, i64_w, i32_w]
                rfl
               refine done_ (done_of HT_.out (by kernel_rfl)) ?_
               have hcz66_0 : w65.cell? ⟨gb289, 0, none⟩ = some (.int .i64 ((rd_T62 l1_1 x5_2).f0)) := (blk_cell BK289.out 0).trans rfl
               have hcz66_1 : w65.cell? ⟨gb289, 1, none⟩ = some (.int .i64 ((rd_T62 l1_1 x5_2).f1)) := (blk_cell BK289.out 1).trans rfl
               have hcz66_2 : w65.cell? ⟨gb289, 2, none⟩ = some (.int .i64 ((rd_T62 l1_1 x5_2).f2)) := (blk_cell BK289.out 2).trans rfl
               have hfz66_0 := blk_frozen BK289.out 0
               have hfz66_1 := blk_frozen BK289.out 1
               have hfz66_2 := blk_frozen BK289.out 2
               try go_wp2
               go_ret
               exact ⟨by first | rfl | (simp [errW_none, errW_some] <;> rfl) | (simp [*, errW_none, errW_some] <;> rfl), uB2 HB GE286 GE289⟩
              ·rw [if_neg c57] at H
               have c57b0 : (((rd_T62 l1_1 x5_2).f1) == t294) = false := beq_eq_false_iff_ne.mpr c57
               have c57b1 : (((rd_T62 l1_1 x5_2).f1) != t294) = true := bne_iff_ne.mpr c57
               replace H := Option.bind_eq_some_iff.mp H
               obtain ⟨t295, A670, H⟩ := H
               replace H : (if t295 = true then (colloquyref20_Check.l0 k2 l0 (wrap64 (x5_2 + 1)) a1_0 l1_1) else (some 1)) = some r := H
               have A67 := Aside0.mk A670
               clear A670
               by_cases c68 : t295 = true
               ·subst c68
                have H1 : (colloquyref20_Check.l0 k2 l0 (wrap64 (x5_2 + 1)) a1_0 l1_1) = some r := by rw [if_pos rfl] at H; exact H
                clear H
                have H := H1
                clear H1
                have H' := Aside0.mk H
                clear H
                have hcz69_0 : wr.cell? ⟨gb286, 0, none⟩ = some (.int .i64 a1_0) := (blk_cell BK286.out 0).trans rfl
                have hcz69_1 : wr.cell? ⟨gb286, 1, none⟩ = some (.slice A1_1 l1_1.length c1_1) := (blk_cell BK286.out 1).trans rfl
                have hfz69_0 := blk_frozen BK286.out 0
                have hfz69_1 := blk_frozen BK286.out 1
                have p288 : 0 ≤ (x5_2 : Int) := of_decide_eq_true (by first | (with_reducible assumption) | assumption)
                have q288 : x5_2 < (l1_1.length : Int) := of_decide_eq_true (by first | (with_reducible assumption) | assumption)
                obtain ⟨ad288, e288, hx288_0, hx288_1, hx288_2⟩ := at_T62 HR1_1.out x5_2 p288 q288
                cases e288
                replace hx288_0 := (HB.out.cell (World.block_lt_of_cell? w _ hx288_0)).trans hx288_0
                replace hx288_1 := (HB.out.cell (World.block_lt_of_cell? w _ hx288_1)).trans hx288_1
                replace hx288_2 := (HB.out.cell (World.block_lt_of_cell? w _ hx288_2)).trans hx288_2
                replace p288 := eq_true p288
                replace q288 := eq_true q288
                try go_wp2_with (first | ((with_reducible refine gate_dst (N := 6) rfl ?_); (try (refine gate_guard (by rfl) ?_; dsimp only)); refine box_event ?hg (N := 6) ?hd (cs := #[.int .i64 0, .int .i64 0, .int .i64 0]) (t := 62) ?hr ?_; (case hd => rfl); (case hg => rfl); (case hr => first | (go_simp; done) | (go_simp; rfl)); intro gb289 hg w70 hbox hb; have n0_ := Aside0.mk (blk_below (g := gb286) (o := .cells #[.int .i64 a1_0, .slice (some ad288) l1_1.length c1_1] 25 (0, 0)) (uK BK286) hb); have n1_ := Aside0.mk (below_step (uB1 HB GE286) hb); have n2_ := Aside0.mk (hbox); have n3_ := Aside0.mk ((by rw [hg]; exact (below_size (uB1 HB GE286)) : w.heap.size ≤ gb289)); have n4_ := Aside0.mk ((by rw [hg]; exact (below_size (uB1 HB GE286)) : w.heap.size ≤ gb289)); have n5_ := Aside0.mk ((by rw [hg]; exact Nat.ne_of_lt (blk_lt (g := gb286) (o := .cells #[.int .i64 a1_0, .slice (some ad288) l1_1.length c1_1] 25 (0, 0)) (uK BK286)) : gb286 ≠ gb289)); have n6_ := Aside0.mk ((by rw [hg]; exact Nat.ne_of_gt (blk_lt (g := gb286) (o := .cells #[.int .i64 a1_0, .slice (some ad288) l1_1.length c1_1] 25 (0, 0)) (uK BK286)) : gb289 ≠ gb286)); clear BK286; clear HB; have BK286 := n0_; have HB := n1_; have BK289 := n2_; have GW289 := n3_; have GE289 := n4_; have NB286_289 := n5_; have NB289_286 := n6_; clear n0_ n1_ n2_ n3_ n4_ n5_ n6_; clear hb hbox hg; have hnb71 := NB289_286.out; have hnc71 := NB286_289.out; have hcz72_0 : w70.cell? ⟨gb289, 0, none⟩ = some (.int .i64 0) := (blk_cell BK289.out 0).trans rfl; have hcz72_1 : w70.cell? ⟨gb289, 1, none⟩ = some (.int .i64 0) := (blk_cell BK289.out 1).trans rfl; have hcz72_2 : w70.cell? ⟨gb289, 2, none⟩ = some (.int .i64 0) := (blk_cell BK289.out 2).trans rfl; have hfz72_0 := blk_frozen BK289.out 0; have hfz72_1 := blk_frozen BK289.out 1; have hfz72_2 := blk_frozen BK289.out 2))
                have n0_ : Aside0 ((((w70.setCell ⟨gb289, 0, none⟩ (.int .i64 ((rd_T62 l1_1 x5_2).f0))).setCell ⟨gb289, 1, none⟩ (.int .i64 ((rd_T62 l1_1 x5_2).f1))).setCell ⟨gb289, 2, none⟩ (.int .i64 ((rd_T62 l1_1 x5_2).f2))).heap[gb286]? = some (.cells #[.int .i64 a1_0, .slice (some ad288) l1_1.length c1_1] 25 (0, 0))) := ⟨by (with_reducible repeat (first | refine blk_drewN ?_ _ | refine blk_drew ?_ | refine blk_alloc ?_ _)); refine blk_far ?_ NB286_289.out _; (with_reducible repeat (first | refine blk_drewN ?_ _ | refine blk_drew ?_ | refine blk_alloc ?_ _)); refine blk_far ?_ NB286_289.out _; (with_reducible repeat (first | refine blk_drewN ?_ _ | refine blk_drew ?_ | refine blk_alloc ?_ _)); refine blk_far ?_ NB286_289.out _; (with_reducible repeat (first | refine blk_drewN ?_ _ | refine blk_drew ?_ | refine blk_alloc ?_ _)); exact BK286.out⟩
                have n1_ : Aside0 ((((w70.setCell ⟨gb289, 0, none⟩ (.int .i64 ((rd_T62 l1_1 x5_2).f0))).setCell ⟨gb289, 1, none⟩ (.int .i64 ((rd_T62 l1_1 x5_2).f1))).setCell ⟨gb289, 2, none⟩ (.int .i64 ((rd_T62 l1_1 x5_2).f2))).heap[gb289]? = some (.cells #[.int .i64 ((rd_T62 l1_1 x5_2).f0), .int .i64 ((rd_T62 l1_1 x5_2).f1), .int .i64 ((rd_T62 l1_1 x5_2).f2)] 62 (0, 0))) := ⟨by (with_reducible repeat (first | refine blk_drewN ?_ _ | refine blk_drew ?_ | refine blk_alloc ?_ _)); refine blk_put (cs := #[.int .i64 ((rd_T62 l1_1 x5_2).f0), .int .i64 ((rd_T62 l1_1 x5_2).f1), .int .i64 0]) ?_ 2 _ rfl; (with_reducible repeat (first | refine blk_drewN ?_ _ | refine blk_drew ?_ | refine blk_alloc ?_ _)); refine blk_put (cs := #[.int .i64 ((rd_T62 l1_1 x5_2).f0), .int .i64 0, .int .i64 0]) ?_ 1 _ rfl; (with_reducible repeat (first | refine blk_drewN ?_ _ | refine blk_drew ?_ | refine blk_alloc ?_ _)); refine blk_put (cs := #[.int .i64 0, .int .i64 0, .int .i64 0]) ?_ 0 _ rfl; (with_reducible repeat (first | refine blk_drewN ?_ _ | refine blk_drew ?_ | refine blk_alloc ?_ _)); exact BK289.out⟩
                have n2_ : Aside0 (Below w.heap.size w (((w70.setCell ⟨gb289, 0, none⟩ (.int .i64 ((rd_T62 l1_1 x5_2).f0))).setCell ⟨gb289, 1, none⟩ (.int .i64 ((rd_T62 l1_1 x5_2).f1))).setCell ⟨gb289, 2, none⟩ (.int .i64 ((rd_T62 l1_1 x5_2).f2)))) := ⟨uB2 HB GE286 GE289⟩
                (try clear BK286)
                (try clear BK289)
                (try clear HB)
                generalize (((w70.setCell ⟨gb289, 0, none⟩ (.int .i64 ((rd_T62 l1_1 x5_2).f0))).setCell ⟨gb289, 1, none⟩ (.int .i64 ((rd_T62 l1_1 x5_2).f1))).setCell ⟨gb289, 2, none⟩ (.int .i64 ((rd_T62 l1_1 x5_2).f2))) = w73 at n0_ n1_ n2_ ⊢
                have BK286 := n0_
                have BK289 := n1_
                have HB := n2_
                clear n0_ n1_ n2_
                have n0_ := Aside0.mk (blk_drew BK286.out)
                have n1_ := Aside0.mk (blk_drew BK289.out)
                have n2_ := Aside0.mk (below_drew1 HB.out)
                clear BK286
                clear BK289
                clear HB
                have BK286 := n0_
                have BK289 := n1_
                have HB := n2_
                clear n0_ n1_ n2_
                have q75 : (x5_2 : Int) ≤ ((l1_1.length : Int) : Int) := of_decide_eq_true (by first | (with_reducible assumption) | assumption)
                obtain ⟨i075, hi075, _, hsz75, _⟩ := info_parts info62
                have hroom75 : l1_1.length ≤ c1_1 := HC1_1.out
                have hC75 : Kd.C k62 _ (some ad288) l1_1.length l1_1 := HR1_1.out
                have hcut75 := cut_to (P := Tryd.prog) 23 62 .i64 Tryd.underlying23 hi075 (some ad288) l1_1.length c1_1 x5_2 (of_decide_eq_true (by first | (with_reducible assumption) | assumption)) q75 hroom75
                have hr75 := Kd.C_take (m := (x5_2 : Int).toNat) hC75 (by omega)
                have hy75 : y290.length = (x5_2 : Int).toNat := (by rw [Ny290.out, List.length_take]; omega)
                rw [← Ny290.out] at hr75
                rw [← hy75] at hcut75
                have HR293 := Aside0.mk hr75
                have HC293 := Aside0.mk (show y290.length ≤ c1_1 from by omega)
                clear hr75 hC75 hroom75 hi075 hsz75
                have KY75 := Aside0.mk hy75
                clear hy75
                replace q75 := eq_true q75
                refine start_ (n := 9) (S := fun w' => w'.cell? ⟨gb286, 0, none⟩ = some (.int .i64 a1_0) ∧ w'.cell? ⟨gb286, 1, none⟩ = some (.slice (some ad288) l1_1.length c1_1)) (ds := []) #[false, false, false, false, false, false, false, false, false] (by kernel_rfl) rfl rfl ⟨(blk_cell BK286.out 0).trans rfl, (blk_cell BK286.out 1).trans rfl⟩ (fun hHeld => ?_); refine with_tabW colloquyref20_Check.tab9 colloquyref20_Check.bits9 (fun HT_ HW_ => ?_)
                generalize w73.drew = w74 at BK286 BK289 HB HR293 hHeld ⊢
                refine pure_ (i := 0) (N := some 33) (v := ?_) (a' := ?_) #[true, false, false, false, false, false, false, false, false] rfl rfl (any_of HT_.out (by kernel_rfl)) (fun _ _ _ h => h) (Or.inl ⟨by rfl, ?_⟩) ?_ ?_
                rotate_left
                ·intro w'
                 go_simp
                 with_reducible rfl
                rotate_left
                ·simp only [Act.put, List.setIfInBounds_toArray, List.set_cons_zero, List.set_cons_succ, i64_w, i32_w]
                 rfl
                refine pure_ (i := 2) (N := some 35) (v := ?_) (a' := ?_) #[true, false, true, false, false, false, false, false, false] rfl rfl (any_of HT_.out (by kernel_rfl)) (fun _ _ _ h => h) (Or.inl ⟨by rfl, ?_⟩) ?_ ?_
                rotate_left
                ·intro w'
                 go_simp
                 with_reducible rfl
                rotate_left
                ·simp only [Act.put, List.setIfInBounds_toArray, List.set_cons_zero, List.set_cons_succ, i64_w, i32_w]
                 rfl
                refine pure_ (i := 4) (N := some 37) (v := ?_) (a' := ?_) #[true, false, true, false, true, false, false, false, false] rfl rfl (any_of HT_.out (by kernel_rfl)) (fun _ _ _ h => h) (Or.inl ⟨by rfl, ?_⟩) ?_ ?_
                rotate_left
                ·intro w'
                 go_simp
                 with_reducible rfl
                rotate_left
                ·simp only [Act.put, List.setIfInBounds_toArray, List.set_cons_zero, List.set_cons_succ, i64_w, i32_w]
                 rfl
                refine take_ (i := 1) (N := some 34) (v := ?_) (a' := ?_) #[true, true, true, false, true, false, false, false, false] rfl rfl (take_ofW HT_.out HW_.out (by kernel_rfl)) (fun _ _ _ h => h) (Or.inl ⟨by rfl, ?_⟩) hHeld ?_ ?_
                rotate_left
                ·rintro w' ⟨s0, s1⟩
                 go_simp
                 with_reducible rfl
                rotate_left
                ·simp only [Act.put, List.setIfInBounds_toArray, List.set_cons_zero, List.set_cons_succ, i64_w, i32_w]
                 rfl
                refine take_ (i := 3) (N := some 36) (v := ?_) (a' := ?_) #[true, true, true, true, true, false, false, false, false] rfl rfl (take_ofW HT_.out HW_.out (by kernel_rfl)) (fun _ _ _ h => h) (Or.inl ⟨by rfl, ?_⟩) hHeld ?_ ?_
                rotate_left
                ·rintro w' ⟨s0, s1⟩
                 go_simp
                 with_reducible rfl
                rotate_left
                ·simp only [Act.put, List.setIfInBounds_toArray, List.set_cons_zero, List.set_cons_succ, i64_w, i32_w]
                 rfl
                refine pure_ (i := 5) (N := some 38) (v := ?_) (a' := ?_) #[true, true, true, true, true, true, false, false, false] rfl rfl (any_of HT_.out (by kernel_rfl)) (fun _ _ _ h => h) (Or.inl ⟨by rfl, ?_⟩) ?_ ?_
                rotate_left
                ·intro w'
                 go_simp
                 with_reducible rfl
                rotate_left
                ·simp only [Act.put, List.setIfInBounds_toArray, List.set_cons_zero, List.set_cons_succ, i64_w, i32_w]
                 rfl
                refine pure_ (i := 6) (N := some 39) (v := ?_) (a' := ?_) #[true, true, true, true, true, true, true, false, false] rfl rfl (any_of HT_.out (by kernel_rfl)) (fun _ _ _ h => h) (Or.inl ⟨by rfl, ?_⟩) ?_ ?_
                rotate_left
                ·intro w'
                 go_simp
                 with_reducible rfl
                rotate_left
                ·simp only [Act.put, List.setIfInBounds_toArray, List.set_cons_zero, List.set_cons_succ, i64_w, i32_w]
                 rfl
                refine one_ (i := 7) (N := some 40) #[true, true, true, true, true, true, true, true, false] rfl rfl (one_of HT_.out (by kernel_rfl)) (by decide) (fun K hK => ?_)
                refine goes_ Tryd.func13 (by kernel_rfl) rfl #[.agg #[.int .i64 a1_0, .slice (some ad288) y290.length c1_1]] (by rfl) rfl rfl uC ?_
                with_reducible refine (colloquyref20_Pc.calls k2 a1_0 _ _ y290 t294 _ ?side1 ?side2 A16.out).mono ?_
                (case side1 => exact uS (Kd.C_below HR293.out HB.out))
                (case side2 => exact HC293.out)
                rintro e w76 ⟨rfl, hb⟩
                refine ⟨_, rfl, ?_⟩
                have n0_ := Aside0.mk (blk_below (g := gb286) (o := .cells #[.int .i64 a1_0, .slice (some ad288) l1_1.length c1_1] 25 (0, 0)) (uK BK286) hb)
                have n1_ := Aside0.mk (blk_below (g := gb289) (o := .cells #[.int .i64 ((rd_T62 l1_1 x5_2).f0), .int .i64 ((rd_T62 l1_1 x5_2).f1), .int .i64 ((rd_T62 l1_1 x5_2).f2)] 62 (0, 0)) (uK BK289) hb)
                have n2_ := Aside0.mk (below_step (uB2 HB GE286 GE289) hb)
                clear BK286
                clear BK289
                clear HB
                have BK286 := n0_
                have BK289 := n1_
                have HB := n2_
                clear n0_ n1_ n2_
                (try clear hb)
                (try clear hb2)
                (try clear hk)
                (try clear hi)
                refine hK.out _ _ ⟨(blk_cell BK286.out 0).trans rfl, (blk_cell BK286.out 1).trans rfl⟩ (fun hHeld => ?_)
                clear hK K
                refine norm_ (a' := ?_) ?_ ?_
                rotate_left
                ·show Act.put _ (some 40) _ = _
                 exact uP
                refine pure_ (i := 8) (N := some 7) (v := ?_) (a' := ?_) #[true, true, true, true, true, true, true, true, true] rfl rfl (any_of HT_.out (by kernel_rfl)) (fun _ _ _ h => h) (Or.inl ⟨by rfl, ?_⟩) ?_ ?_
                rotate_left
                ·intro w'
                 go_simp
                 with_reducible rfl
                rotate_left
                ·simp only [Act.put, List.setIfInBounds_toArray, List.set_cons_zero, List.set_cons_succ, i64_w, i32_w]
                 rfl
                refine done_ (done_of HT_.out (by kernel_rfl)) ?_
                have hcz77_0 : w76.cell? ⟨gb289, 0, none⟩ = some (.int .i64 ((rd_T62 l1_1 x5_2).f0)) := (blk_cell BK289.out 0).trans rfl
                have hcz77_1 : w76.cell? ⟨gb289, 1, none⟩ = some (.int .i64 ((rd_T62 l1_1 x5_2).f1)) := (blk_cell BK289.out 1).trans rfl
                have hcz77_2 : w76.cell? ⟨gb289, 2, none⟩ = some (.int .i64 ((rd_T62 l1_1 x5_2).f2)) := (blk_cell BK289.out 2).trans rfl
                have hfz77_0 := blk_frozen BK289.out 0
                have hfz77_1 := blk_frozen BK289.out 1
                have hfz77_2 := blk_frozen BK289.out 2
                try go_wp2_with (first | (go_at_call 31; (with_reducible refine (colloquyref01_Leq.calls _ _ l0 t294 ((rd_T62 l1_1 x5_2).f1) true _ ?side1 ?side2 A67.out).mono ?_); (case side1 => exact uS (Kd.C_below HR0.out HB.out)); (case side2 => exact HC0.out); rintro e w78 ⟨rfl, hd_⟩; have hb := hd_.below; clear hd_; have n0_ := Aside0.mk (blk_below (g := gb286) (o := .cells #[.int .i64 a1_0, .slice (some ad288) l1_1.length c1_1] 25 (0, 0)) (uK BK286) hb); have n1_ := Aside0.mk (blk_below (g := gb289) (o := .cells #[.int .i64 ((rd_T62 l1_1 x5_2).f0), .int .i64 ((rd_T62 l1_1 x5_2).f1), .int .i64 ((rd_T62 l1_1 x5_2).f2)] 62 (0, 0)) (uK BK289) hb); have n2_ := Aside0.mk (below_step (uB2 HB GE286 GE289) hb); clear BK286; clear BK289; clear HB; have BK286 := n0_; have BK289 := n1_; have HB := n2_; clear n0_ n1_ n2_; (try clear hb); (try clear hb2); (try clear hk); (try clear hi)))
                go_roundg k2
                case measure => have := HJ4.out; have := HK2.out; omega
                case rel => exact ⟨(wrap64 (x5_2 + 1)), (by first | rfl | (simp; done) | (simp [*]; done)), H', ⟨by have := HJ4.out; have := HK2.out; omega⟩, ⟨uK BK286⟩, ⟨uB2 HB GE286 GE289⟩⟩
               ·replace c68 := Bool.eq_false_iff.mpr c68
                subst c68
                have H1 : (some 1) = some r := by rw [if_neg (show ¬ (false = true) by decide)] at H; exact H
                clear H
                have H := H1
                clear H1
                obtain rfl := Option.some.inj H
                have hcz79_0 : wr.cell? ⟨gb286, 0, none⟩ = some (.int .i64 a1_0) := (blk_cell BK286.out 0).trans rfl
                have hcz79_1 : wr.cell? ⟨gb286, 1, none⟩ = some (.slice A1_1 l1_1.length c1_1) := (blk_cell BK286.out 1).trans rfl
                have hfz79_0 := blk_frozen BK286.out 0
                have hfz79_1 := blk_frozen BK286.out 1
                have p288 : 0 ≤ (x5_2 : Int) := of_decide_eq_true (by first | (with_reducible assumption) | assumption)
                have q288 : x5_2 < (l1_1.length : Int) := of_decide_eq_true (by first | (with_reducible assumption) | assumption)
                obtain ⟨ad288, e288, hx288_0, hx288_1, hx288_2⟩ := at_T62 HR1_1.out x5_2 p288 q288
                cases e288
                replace hx288_0 := (HB.out.cell (World.block_lt_of_cell? w _ hx288_0)).trans hx288_0
                replace hx288_1 := (HB.out.cell (World.block_lt_of_cell? w _ hx288_1)).trans hx288_1
                replace hx288_2 := (HB.out.cell (World.block_lt_of_cell? w _ hx288_2)).trans hx288_2
                replace p288 := eq_true p288
                replace q288 := eq_true q288
                try go_wp2_with (first | ((with_reducible refine gate_dst (N := 6) rfl ?_); (try (refine gate_guard (by rfl) ?_; dsimp only)); refine box_event ?hg (N := 6) ?hd (cs := #[.int .i64 0, .int .i64 0, .int .i64 0]) (t := 62) ?hr ?_; (case hd => rfl); (case hg => rfl); (case hr => first | (go_simp; done) | (go_simp; rfl)); intro gb289 hg w80 hbox hb; have n0_ := Aside0.mk (blk_below (g := gb286) (o := .cells #[.int .i64 a1_0, .slice (some ad288) l1_1.length c1_1] 25 (0, 0)) (uK BK286) hb); have n1_ := Aside0.mk (below_step (uB1 HB GE286) hb); have n2_ := Aside0.mk (hbox); have n3_ := Aside0.mk ((by rw [hg]; exact (below_size (uB1 HB GE286)) : w.heap.size ≤ gb289)); have n4_ := Aside0.mk ((by rw [hg]; exact (below_size (uB1 HB GE286)) : w.heap.size ≤ gb289)); have n5_ := Aside0.mk ((by rw [hg]; exact Nat.ne_of_lt (blk_lt (g := gb286) (o := .cells #[.int .i64 a1_0, .slice (some ad288) l1_1.length c1_1] 25 (0, 0)) (uK BK286)) : gb286 ≠ gb289)); have n6_ := Aside0.mk ((by rw [hg]; exact Nat.ne_of_gt (blk_lt (g := gb286) (o := .cells #[.int .i64 a1_0, .slice (some ad288) l1_1.length c1_1] 25 (0, 0)) (uK BK286)) : gb289 ≠ gb286)); clear BK286; clear HB; have BK286 := n0_; have HB := n1_; have BK289 := n2_; have GW289 := n3_; have GE289 := n4_; have NB286_289 := n5_; have NB289_286 := n6_; clear n0_ n1_ n2_ n3_ n4_ n5_ n6_; clear hb hbox hg; have hnb81 := NB289_286.out; have hnc81 := NB286_289.out; have hcz82_0 : w80.cell? ⟨gb289, 0, none⟩ = some (.int .i64 0) := (blk_cell BK289.out 0).trans rfl; have hcz82_1 : w80.cell? ⟨gb289, 1, none⟩ = some (.int .i64 0) := (blk_cell BK289.out 1).trans rfl; have hcz82_2 : w80.cell? ⟨gb289, 2, none⟩ = some (.int .i64 0) := (blk_cell BK289.out 2).trans rfl; have hfz82_0 := blk_frozen BK289.out 0; have hfz82_1 := blk_frozen BK289.out 1; have hfz82_2 := blk_frozen BK289.out 2))
                have n0_ : Aside0 ((((w80.setCell ⟨gb289, 0, none⟩ (.int .i64 ((rd_T62 l1_1 x5_2).f0))).setCell ⟨gb289, 1, none⟩ (.int .i64 ((rd_T62 l1_1 x5_2).f1))).setCell ⟨gb289, 2, none⟩ (.int .i64 ((rd_T62 l1_1 x5_2).f2))).heap[gb286]? = some (.cells #[.int .i64 a1_0, .slice (some ad288) l1_1.length c1_1] 25 (0, 0))) := ⟨by (with_reducible repeat (first | refine blk_drewN ?_ _ | refine blk_drew ?_ | refine blk_alloc ?_ _)); refine blk_far ?_ NB286_289.out _; (with_reducible repeat (first | refine blk_drewN ?_ _ | refine blk_drew ?_ | refine blk_alloc ?_ _)); refine blk_far ?_ NB286_289.out _; (with_reducible repeat (first | refine blk_drewN ?_ _ | refine blk_drew ?_ | refine blk_alloc ?_ _)); refine blk_far ?_ NB286_289.out _; (with_reducible repeat (first | refine blk_drewN ?_ _ | refine blk_drew ?_ | refine blk_alloc ?_ _)); exact BK286.out⟩
                have n1_ : Aside0 ((((w80.setCell ⟨gb289, 0, none⟩ (.int .i64 ((rd_T62 l1_1 x5_2).f0))).setCell ⟨gb289, 1, none⟩ (.int .i64 ((rd_T62 l1_1 x5_2).f1))).setCell ⟨gb289, 2, none⟩ (.int .i64 ((rd_T62 l1_1 x5_2).f2))).heap[gb289]? = some (.cells #[.int .i64 ((rd_T62 l1_1 x5_2).f0), .int .i64 ((rd_T62 l1_1 x5_2).f1), .int .i64 ((rd_T62 l1_1 x5_2).f2)] 62 (0, 0))) := ⟨by (with_reducible repeat (first | refine blk_drewN ?_ _ | refine blk_drew ?_ | refine blk_alloc ?_ _)); refine blk_put (cs := #[.int .i64 ((rd_T62 l1_1 x5_2).f0), .int .i64 ((rd_T62 l1_1 x5_2).f1), .int .i64 0]) ?_ 2 _ rfl; (with_reducible repeat (first | refine blk_drewN ?_ _ | refine blk_drew ?_ | refine blk_alloc ?_ _)); refine blk_put (cs := #[.int .i64 ((rd_T62 l1_1 x5_2).f0), .int .i64 0, .int .i64 0]) ?_ 1 _ rfl; (with_reducible repeat (first | refine blk_drewN ?_ _ | refine blk_drew ?_ | refine blk_alloc ?_ _)); refine blk_put (cs := #[.int .i64 0, .int .i64 0, .int .i64 0]) ?_ 0 _ rfl; (with_reducible repeat (first | refine blk_drewN ?_ _ | refine blk_drew ?_ | refine blk_alloc ?_ _)); exact BK289.out⟩
                have n2_ : Aside0 (Below w.heap.size w (((w80.setCell ⟨gb289, 0, none⟩ (.int .i64 ((rd_T62 l1_1 x5_2).f0))).setCell ⟨gb289, 1, none⟩ (.int .i64 ((rd_T62 l1_1 x5_2).f1))).setCell ⟨gb289, 2, none⟩ (.int .i64 ((rd_T62 l1_1 x5_2).f2)))) := ⟨uB2 HB GE286 GE289⟩
                (try clear BK286)
                (try clear BK289)
                (try clear HB)
                generalize (((w80.setCell ⟨gb289, 0, none⟩ (.int .i64 ((rd_T62 l1_1 x5_2).f0))).setCell ⟨gb289, 1, none⟩ (.int .i64 ((rd_T62 l1_1 x5_2).f1))).setCell ⟨gb289, 2, none⟩ (.int .i64 ((rd_T62 l1_1 x5_2).f2))) = w83 at n0_ n1_ n2_ ⊢
                have BK286 := n0_
                have BK289 := n1_
                have HB := n2_
                clear n0_ n1_ n2_
                have n0_ := Aside0.mk (blk_drew BK286.out)
                have n1_ := Aside0.mk (blk_drew BK289.out)
                have n2_ := Aside0.mk (below_drew1 HB.out)
                clear BK286
                clear BK289
                clear HB
                have BK286 := n0_
                have BK289 := n1_
                have HB := n2_
                clear n0_ n1_ n2_
                have q85 : (x5_2 : Int) ≤ ((l1_1.length : Int) : Int) := of_decide_eq_true (by first | (with_reducible assumption) | assumption)
                obtain ⟨i085, hi085, _, hsz85, _⟩ := info_parts info62
                have hroom85 : l1_1.length ≤ c1_1 := HC1_1.out
                have hC85 : Kd.C k62 _ (some ad288) l1_1.length l1_1 := HR1_1.out
                have hcut85 := cut_to (P := Tryd.prog) 23 62 .i64 Tryd.underlying23 hi085 (some ad288) l1_1.length c1_1 x5_2 (of_decide_eq_true (by first | (with_reducible assumption) | assumption)) q85 hroom85
                have hr85 := Kd.C_take (m := (x5_2 : Int).toNat) hC85 (by omega)
                have hy85 : y290.length = (x5_2 : Int).toNat := (by rw [Ny290.out, List.length_take]; omega)
                rw [← Ny290.out] at hr85
                rw [← hy85] at hcut85
                have HR293 := Aside0.mk hr85
                have HC293 := Aside0.mk (show y290.length ≤ c1_1 from by omega)
                clear hr85 hC85 hroom85 hi085 hsz85
                have KY85 := Aside0.mk hy85
                clear hy85
                replace q85 := eq_true q85
                refine start_ (n := 9) (S := fun w' => w'.cell? ⟨gb286, 0, none⟩ = some (.int .i64 a1_0) ∧ w'.cell? ⟨gb286, 1, none⟩ = some (.slice (some ad288) l1_1.length c1_1)) (ds := []) #[false, false, false, false, false, false, false, false, false] (by kernel_rfl) rfl rfl ⟨(blk_cell BK286.out 0).trans rfl, (blk_cell BK286.out 1).trans rfl⟩ (fun hHeld => ?_); refine with_tabW colloquyref20_Check.tab9 colloquyref20_Check.bits9 (fun HT_ HW_ => ?_)
                generalize w83.drew = w84 at BK286 BK289 HB HR293 hHeld ⊢
                refine pure_ (i := 0) (N := some 33) (v := ?_) (a' := ?_) #[true, false, false, false, false, false, false, false, false] rfl rfl (any_of HT_.out (by kernel_rfl)) (fun _ _ _ h => h) (Or.inl ⟨by rfl, ?_⟩) ?_ ?_
                rotate_left
                ·intro w'
                 go_simp
                 with_reducible rfl
                rotate_left
                ·simp only [Act.put, List.setIfInBounds_toArray, List.set_cons_zero, List.set_cons_succ, i64_w, i32_w]
                 rfl
                refine pure_ (i := 2) (N := some 35) (v := ?_) (a' := ?_) #[true, false, true, false, false, false, false, false, false] rfl rfl (any_of HT_.out (by kernel_rfl)) (fun _ _ _ h => h) (Or.inl ⟨by rfl, ?_⟩) ?_ ?_
                rotate_left
                ·intro w'
                 go_simp
                 with_reducible rfl
                rotate_left
                ·simp only [Act.put, List.setIfInBounds_toArray, List.set_cons_zero, List.set_cons_succ, i64_w, i32_w]
                 rfl
                refine pure_ (i := 4) (N := some 37) (v := ?_) (a' := ?_) #[true, false, true, false, true, false, false, false, false] rfl rfl (any_of HT_.out (by kernel_rfl)) (fun _ _ _ h => h) (Or.inl ⟨by rfl, ?_⟩) ?_ ?_
                rotate_left
                ·intro w'
                 go_simp
                 with_reducible rfl
                rotate_left
                ·simp only [Act.put, List.setIfInBounds_toArray, List.set_cons_zero, List.set_cons_succ, i64_w, i32_w]
                 rfl
                refine take_ (i := 1) (N := some 34) (v := ?_) (a' := ?_) #[true, true, true, false, true, false, false, false, false] rfl rfl (take_ofW HT_.out HW_.out (by kernel_rfl)) (fun _ _ _ h => h) (Or.inl ⟨by rfl, ?_⟩) hHeld ?_ ?_
                rotate_left
                ·rintro w' ⟨s0, s1⟩
                 go_simp
                 with_reducible rfl
                rotate_left
                ·simp only [Act.put, List.setIfInBounds_toArray, List.set_cons_zero, List.set_cons_succ, i64_w, i32_w]
                 rfl
                refine take_ (i := 3) (N := some 36) (v := ?_) (a' := ?_) #[true, true, true, true, true, false, false, false, false] rfl rfl (take_ofW HT_.out HW_.out (by kernel_rfl)) (fun _ _ _ h => h) (Or.inl ⟨by rfl, ?_⟩) hHeld ?_ ?_
                rotate_left
                ·rintro w' ⟨s0, s1⟩
                 go_simp
                 with_reducible rfl
                rotate_left
                ·simp only [Act.put, List.setIfInBounds_toArray, List.set_cons_zero, List.set_cons_succ, i64_w, i32_w]
                 rfl
                refine pure_ (i := 5) (N := some 38) (v := ?_) (a' := ?_) #[true, true, true, true, true, true, false, false, false] rfl rfl (any_of HT_.out (by kernel_rfl)) (fun _ _ _ h => h) (Or.inl ⟨by rfl, ?_⟩) ?_ ?_
                rotate_left
                ·intro w'
                 go_simp
                 with_reducible rfl
                rotate_left
                ·simp only [Act.put, List.setIfInBounds_toArray, List.set_cons_zero, List.set_cons_succ, i64_w, i32_w]
                 rfl
                refine pure_ (i := 6) (N := some 39) (v := ?_) (a' := ?_) #[true, true, true, true, true, true, true, false, false] rfl rfl (any_of HT_.out (by kernel_rfl)) (fun _ _ _ h => h) (Or.inl ⟨by rfl, ?_⟩) ?_ ?_
                rotate_left
                ·intro w'
                 go_simp
                 with_reducible rfl
                rotate_left
                ·simp only [Act.put, List.setIfInBounds_toArray, List.set_cons_zero, List.set_cons_succ, i64_w, i32_w]
                 rfl
                refine one_ (i := 7) (N := some 40) #[true, true, true, true, true, true, true, true, false] rfl rfl (one_of HT_.out (by kernel_rfl)) (by decide) (fun K hK => ?_)
                refine goes_ Tryd.func13 (by kernel_rfl) rfl #[.agg #[.int .i64 a1_0, .slice (some ad288) y290.length c1_1]] (by rfl) rfl rfl uC ?_
                with_reducible refine (colloquyref20_Pc.calls k2 a1_0 _ _ y290 t294 _ ?side1 ?side2 A16.out).mono ?_
                (case side1 => exact uS (Kd.C_below HR293.out HB.out))
                (case side2 => exact HC293.out)
                rintro e w86 ⟨rfl, hb⟩
                refine ⟨_, rfl, ?_⟩
                have n0_ := Aside0.mk (blk_below (g := gb286) (o := .cells #[.int .i64 a1_0, .slice (some ad288) l1_1.length c1_1] 25 (0, 0)) (uK BK286) hb)
                have n1_ := Aside0.mk (blk_below (g := gb289) (o := .cells #[.int .i64 ((rd_T62 l1_1 x5_2).f0), .int .i64 ((rd_T62 l1_1 x5_2).f1), .int .i64 ((rd_T62 l1_1 x5_2).f2)] 62 (0, 0)) (uK BK289) hb)
                have n2_ := Aside0.mk (below_step (uB2 HB GE286 GE289) hb)
                clear BK286
                clear BK289
                clear HB
                have BK286 := n0_
                have BK289 := n1_
                have HB := n2_
                clear n0_ n1_ n2_
                (try clear hb)
                (try clear hb2)
                (try clear hk)
                (try clear hi)
                refine hK.out _ _ ⟨(blk_cell BK286.out 0).trans rfl, (blk_cell BK286.out 1).trans rfl⟩ (fun hHeld => ?_)
                clear hK K
                refine norm_ (a' := ?_) ?_ ?_
                rotate_left
                ·show Act.put _ (some 40) _ = _
                 exact uP
                refine pure_ (i := 8) (N := some 7) (v := ?_) (a' := ?_) #[true, true, true, true, true, true, true, true, true] rfl rfl (any_of HT_.out (by kernel_rfl)) (fun _ _ _ h => h) (Or.inl ⟨by rfl, ?_⟩) ?_ ?_
                rotate_left
                ·intro w'
                 go_simp
                 with_reducible rfl
                rotate_left
                ·simp only [Act.put, List.setIfInBounds_toArray, List.set_cons_zero, List.set_cons_succ, i64_w, i32_w]
                 rfl
                refine done_ (done_of HT_.out (by kernel_rfl)) ?_
                have hcz87_0 : w86.cell? ⟨gb289, 0, none⟩ = some (.int .i64 ((rd_T62 l1_1 x5_2).f0)) := (blk_cell BK289.out 0).trans rfl
                have hcz87_1 : w86.cell? ⟨gb289, 1, none⟩ = some (.int .i64 ((rd_T62 l1_1 x5_2).f1)) := (blk_cell BK289.out 1).trans rfl
                have hcz87_2 : w86.cell? ⟨gb289, 2, none⟩ = some (.int .i64 ((rd_T62 l1_1 x5_2).f2)) := (blk_cell BK289.out 2).trans rfl
                have hfz87_0 := blk_frozen BK289.out 0
                have hfz87_1 := blk_frozen BK289.out 1
                have hfz87_2 := blk_frozen BK289.out 2
                try go_wp2_with (first | (go_at_call 31; (with_reducible refine (colloquyref01_Leq.calls _ _ l0 t294 ((rd_T62 l1_1 x5_2).f1) false _ ?side1 ?side2 A67.out).mono ?_); (case side1 => exact uS (Kd.C_below HR0.out HB.out)); (case side2 => exact HC0.out); rintro e w88 ⟨rfl, hd_⟩; have hb := hd_.below; clear hd_; have n0_ := Aside0.mk (blk_below (g := gb286) (o := .cells #[.int .i64 a1_0, .slice (some ad288) l1_1.length c1_1] 25 (0, 0)) (uK BK286) hb); have n1_ := Aside0.mk (blk_below (g := gb289) (o := .cells #[.int .i64 ((rd_T62 l1_1 x5_2).f0), .int .i64 ((rd_T62 l1_1 x5_2).f1), .int .i64 ((rd_T62 l1_1 x5_2).f2)] 62 (0, 0)) (uK BK289) hb); have n2_ := Aside0.mk (below_step (uB2 HB GE286 GE289) hb); clear BK286; clear BK289; clear HB; have BK286 := n0_; have BK289 := n1_; have HB := n2_; clear n0_ n1_ n2_; (try clear hb); (try clear hb2); (try clear hk); (try clear hi)))
                go_ret
                exact ⟨by first | rfl | (simp [errW_none, errW_some] <;> rfl) | (simp [*, errW_none, errW_some] <;> rfl), uB2 HB GE286 GE289⟩
         ·rw [if_neg c15] at H
          exact absurd H (by simp)
        ·rw [if_neg c13] at H
         exact absurd H (by simp)
       ·rw [if_neg c12] at H
        have c12b0 : decide (x5_2 < (l1_1.length : Int)) = false := decide_eq_false c12
        clear c12
        obtain rfl := Option.some.inj H
        have hcz89_0 : wr.cell? ⟨gb286, 0, none⟩ = some (.int .i64 a1_0) := (blk_cell BK286.out 0).trans rfl
        have hcz89_1 : wr.cell? ⟨gb286, 1, none⟩ = some (.slice A1_1 l1_1.length c1_1) := (blk_cell BK286.out 1).trans rfl
        have hfz89_0 := blk_frozen BK286.out 0
        have hfz89_1 := blk_frozen BK286.out 1
        go_wp2
        go_ret
        exact ⟨by first | rfl | (simp [errW_none, errW_some] <;> rfl) | (simp [*, errW_none, errW_some] <;> rfl), uB1 HB GE286⟩
 ·replace c4 := Bool.eq_false_iff.mpr c4
  subst c4
  have H1 : (some 7) = some r := by rw [if_neg (show ¬ (false = true) by decide)] at H; exact H
  clear H
  have H := H1
  clear H1
  obtain rfl := Option.some.inj H
  go_enter Tryd.func11, Tryd.ntmps11
  try simp only [List.append_eq, List.cons_append, List.nil_append]
  go_wp2_with (first | ((with_reducible refine gate_dst (N := 3) rfl ?_); (try (refine gate_guard (by rfl) ?_; dsimp only)); refine box_event ?hg (N := 3) ?hd (cs := #[.int .i64 a1_0, .slice A1_1 l1_1.length c1_1]) (t := 25) ?hr ?_; (case hd => rfl); (case hg => rfl); (case hr => first | (go_simp; done) | (go_simp; rfl)); intro gb286 hg w90 hbox hb; have n0_ := Aside0.mk (below_step (uB0 HB) hb); have n1_ := Aside0.mk (hbox); have n2_ := Aside0.mk ((by rw [hg]; exact (below_size (uB0 HB)) : w.heap.size ≤ gb286)); have n3_ := Aside0.mk ((by rw [hg]; exact (below_size (uB0 HB)) : w.heap.size ≤ gb286)); clear HB; have HB := n0_; have BK286 := n1_; have GW286 := n2_; have GE286 := n3_; clear n0_ n1_ n2_ n3_; clear hb hbox hg) | ((with_reducible refine gate_callee (f := 30) rfl ?_); refine goesL_ (some 9) rfl rfl Tryd.func30 (by kernel_rfl) rfl #[.slice A0 l0.length c0] rfl uC ?_; (with_reducible refine (colloquyref01_May.calls k _ _ l0 false _ ?side1 ?side2 A3.out).mono ?_); (case side1 => exact uS (Kd.C_below HR0.out HB.out)); (case side2 => exact HC0.out); rintro e w91 ⟨rfl, hd_⟩; refine ⟨_, rfl, ?_⟩; have hb := hd_.below; clear hd_; have n0_ := Aside0.mk (blk_below (g := gb286) (o := .cells #[.int .i64 a1_0, .slice A1_1 l1_1.length c1_1] 25 (0, 0)) (uK BK286) hb); have n1_ := Aside0.mk (below_step (uB1 HB GE286) hb); clear BK286; clear HB; have BK286 := n0_; have HB := n1_; clear n0_ n1_; (try clear hb); (try clear hb2); (try clear hk); (try clear hi)))
  go_ret
  exact ⟨by first | rfl | (simp [errW_none, errW_some] <;> rfl) | (simp [*, errW_none, errW_some] <;> rfl), uB1 HB GE286⟩

end Go.Proofs.YtodfomkhhfcnhaaDoor.PMonTells
