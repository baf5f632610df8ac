/- The functions that the law reaches, as plain functions of lists and numbers, and that a call of the Go code comes to just their answers; laid by this repo's own program over the seat's translation. Conditions: each contract's own premises. -/
import Derived.Test.YtachjpkpgbofaaaDoorPSumTellsx0
import Derived.Test.YtachjpkpgbofaaaDoorPSumTellsx1
namespace Go.Proofs.YtachjpkpgbofaaaDoor.PSumTells
open Go.RowKit Go.Proofs.YtachjpkpgbofaaaDoorW.PrintWords Go.Proofs.YtachjpkpgbofaaaDoorW.PrintLast Go.Proofs.YtachjpkpgbofaaaDoorW.PrintMore
attribute [local go_sem] max2_int min2_int max_two min_two max_three min_three max_four min_four   -- for this text's walks alone
set_option linter.unusedVariables false
set_option linter.unusedSimpArgs false

/-! ### colloquyref05_Open: function 8 -/
def colloquyref05_Open.f (k : Nat) (l0 : List Int) : Option (List Int × Int) := if (l0.length : Int) < 4 then (some (([] : List Int), 2)) else (if 0 ≤ (wrap64 ((l0.length : Int) - 4)) then (if (wrap64 ((l0.length : Int) - 4)) ≤ (l0.length : Int) then ((colloquyref05_Seal.f k (l0.take ((wrap64 ((l0.length : Int) - 4)) : Int).toNat)).bind fun t146 => (if (strOfNums t146).toList = (strOfNums l0).toList then (some ((l0.take ((wrap64 ((l0.length : Int) - 4)) : Int).toNat), 0)) else (some (([] : List Int), 5)))) else (none)) else (none))
theorem colloquyref05_Open.mono : ∀ a0 k, LeO (colloquyref05_Open.f k a0) (colloquyref05_Open.f (k + 1) a0) := by
 intro a0 k
 unfold colloquyref05_Open.f
 repeat' first
   | (with_reducible exact colloquyref05_Seal.mono _ _)
   | (with_reducible exact LeO.refl _)
   | (with_reducible exact LeO.none _)
   | (with_reducible refine LeO.ite ?_ ?_)
   | (with_reducible refine LeO.bind ?_ (fun _ => ?_))
   | exact colloquyref05_Seal.mono _ _
   | exact LeO.none _
   | refine LeO.ite ?_ ?_
   | refine LeO.bind ?_ (fun _ => ?_)
def colloquyref05_Open.T3 : Bool × List (List Nat × List Nat) := (true, [([], []), ([], []), ([1], [1]), ([2], [2]), ([0, 3], [0, 3]), ([4], [4]), ([5], [5]), ([], []), ([7], [7]), ([6, 8], [6, 8])])
def colloquyref05_Open.B3 : List Nat := [0, 0, 2, 6, 15, 31, 63, 0, 128, 511]
theorem colloquyref05_Open.tab3 : rtab .any (opsOf Tryd.f8 3) = colloquyref05_Open.T3 := by kernel_rfl
theorem colloquyref05_Open.bits3 : waitsOk colloquyref05_Open.T3.2 colloquyref05_Open.B3 = true := by kernel_rfl
set_option maxHeartbeats 8000000 in
set_option maxRecDepth 100000 in
theorem colloquyref05_Open.calls (k : Nat) (P0_ : Nat → Prop) (A0 : Option Addr) (c0 : Nat) (l0 : List Int) (r1 : List Int) (r2 : Int) (w : World) (hs0 : Kd.V (Kd.int .u8) 5 w w.heap.size (fun k_ => P0_ k_) (.slice A0 l0.length c0) l0) (h : colloquyref05_Open.f k l0 = some (r1, r2)) :
  Calls Tryd.prog 8 #[.slice A0 l0.length c0] w fun e w' => ∃ v0_ : Value, e = .returned (.tuple #[v0_, .int .i64 r2]) ∧ Kd.V (Kd.int .u8) 5 w' w.heap.size (fun k_ => (P0_ k_ ∨ w.heap.size ≤ k_)) v0_ r1 ∧ Below w.heap.size w w' := by
 have HO0 := Aside0.mk (show Kd.V (Kd.int .u8) 5 w w.heap.size (fun k_ => (P0_ k_ ∨ w.heap.size ≤ k_)) (.slice A0 l0.length c0) l0 from Kd.V_mono hs0 (fun k_ hk => .inl hk))
 have HB := Aside0.mk (Below.refl w.heap.size w)
 have H : (if (l0.length : Int) < 4 then (some (([] : List Int), 2)) else (if 0 ≤ (wrap64 ((l0.length : Int) - 4)) then (if (wrap64 ((l0.length : Int) - 4)) ≤ (l0.length : Int) then ((colloquyref05_Seal.f k (l0.take ((wrap64 ((l0.length : Int) - 4)) : Int).toNat)).bind fun t146 => (if (strOfNums t146).toList = (strOfNums l0).toList then (some ((l0.take ((wrap64 ((l0.length : Int) - 4)) : Int).toNat), 0)) else (some (([] : List Int), 5)))) else (none)) else (none))) = some (r1, r2) := h
 clear h
 by_cases c2 : (l0.length : Int) < 4
 ·rw [if_pos c2] at H
  have c2b0 : decide ((l0.length : Int) < 4) = true := decide_eq_true c2
  have c2b1 : decide (l0.length < 4) = true := decide_eq_true (by omega)
  clear c2
  simp only [Option.some.injEq, Prod.mk.injEq] at H
  obtain ⟨rfl, rfl⟩ := H
  go_enter Tryd.func8, Tryd.ntmps8
  go_wp2
  go_ret2
  exact ⟨_, by first | rfl | (simp [errW_none, errW_some] <;> rfl) | (simp [*, errW_none, errW_some] <;> rfl), Kd.V_nil _ _ _ _ _, uB0 HB⟩
 rw [if_neg c2] at H
 have c2b0 : decide ((l0.length : Int) < 4) = false := decide_eq_false c2
 have c2b1 : decide (l0.length < 4) = false := decide_eq_false (by omega)
 clear c2
 obtain ⟨ji3, hji3⟩ : ∃ j_ : Int, (wrap64 ((l0.length : Int) - 4)) = j_ := ⟨_, rfl⟩
 replace H : (if 0 ≤ (ji3) then (if (ji3) ≤ (l0.length : Int) then ((colloquyref05_Seal.f k (l0.take ((ji3) : Int).toNat)).bind fun t146 => (if (strOfNums t146).toList = (strOfNums l0).toList then (some ((l0.take ((ji3) : Int).toNat), 0)) else (some (([] : List Int), 5)))) else (none)) else (none)) = some (r1, r2) := by first | (rw [hji3] at H; exact H) | (simp only [hji3] at H ⊢; exact H)
 have hji3w : (IntKind.i64.wrap ((l0.length : Int) - 4)) = ji3 := (i64_w _).trans hji3
 by_cases c4 : 0 ≤ (ji3)
 ·rw [if_pos c4] at H
  have c4b0 := eq_true c4
  have c4b1 : decide (0 ≤ (ji3)) = true := decide_eq_true c4
  clear c4
  by_cases c5 : (ji3) ≤ (l0.length : Int)
  ·rw [if_pos c5] at H
   have c5b0 := eq_true c5
   have c5b1 : decide ((ji3) ≤ (l0.length : Int)) = true := decide_eq_true c5
   clear c5
   obtain ⟨y141, hy141⟩ : ∃ y_ : List Int, y_ = (l0.take ((ji3) : Int).toNat) := ⟨_, rfl⟩
   replace H : ((colloquyref05_Seal.f k y141).bind fun t146 => (if (strOfNums t146).toList = (strOfNums l0).toList then (some ((l0.take ((ji3) : Int).toNat), 0)) else (some (([] : List Int), 5)))) = some (r1, r2) := by first | (rw [hy141]; with_reducible exact H) | (have H2_ := (Option.bind_some _ _).symm.trans H; rw [hy141]; with_reducible exact H2_) | (have H2_ := (Option.bind_some _ _).symm.trans H; with_reducible exact H2_) | with_reducible exact H | (rw [hy141]; exact H) | exact H
   have Ny141 := Aside0.mk hy141
   clear hy141
   replace H := Option.bind_eq_some_iff.mp H
   obtain ⟨t146, A60, H⟩ := H
   replace H : (if (strOfNums t146).toList = (strOfNums l0).toList then (some ((l0.take ((ji3) : Int).toNat), 0)) else (some (([] : List Int), 5))) = some (r1, r2) := H
   have A6 := Aside0.mk A60
   clear A60
   by_cases c7 : (strOfNums t146).toList = (strOfNums l0).toList
   ·rw [if_pos c7] at H
    have c7b0 : ((strOfNums t146).toList == (strOfNums l0).toList) = true := beq_iff_eq.mpr c7
    have c7b1 : ((strOfNums t146).toList != (strOfNums l0).toList) = false := bne_eq_false_iff_eq.mpr c7
    clear c7
    have c8b0 := eq_true (of_decide_eq_true (by first | (with_reducible assumption) | assumption) : 0 ≤ (ji3))
    have c9b0 := eq_true (of_decide_eq_true (by first | (with_reducible assumption) | assumption) : (ji3) ≤ (l0.length : Int))
    obtain ⟨y149, hy149⟩ : ∃ y_ : List Int, y_ = (l0.take ((ji3) : Int).toNat) := ⟨_, rfl⟩
    replace H : (some (y149, 0)) = some (r1, r2) := by first | (rw [hy149]; with_reducible exact H) | (have H2_ := (Option.bind_some _ _).symm.trans H; rw [hy149]; with_reducible exact H2_) | (have H2_ := (Option.bind_some _ _).symm.trans H; with_reducible exact H2_) | with_reducible exact H | (rw [hy149]; exact H) | exact H
    have Ny149 := Aside0.mk hy149
    clear hy149
    simp only [Option.some.injEq, Prod.mk.injEq] at H
    obtain ⟨rfl, rfl⟩ := H
    go_enter Tryd.func8, Tryd.ntmps8
    try go_wp2
    replace HO0 := Aside0.mk (Kd.V_drew HO0.out)
    replace HB := Aside0.mk (below_drew1 HB.out)
    have q11 : ((ji3) : Int) ≤ ((l0.length : Int) : Int) := of_decide_eq_true (by first | (with_reducible assumption) | assumption)
    obtain ⟨i011, hi011, _, hsz11, _⟩ := info_parts info5
    have hroom11 : l0.length ≤ c0 := (Kd.V_reads' HO0.out).2.1
    have hC11 : Kd.F (Kd.int .u8) _ _ A0 l0.length l0 := (Kd.V_at (base := w.heap.size) HO0.out).2.2
    (try clear hcut11)
    (try clear hcut11)
    (try clear hcut11)
    have hcut11 := cut_to (P := Tryd.prog) 22 5 .i64 Tryd.underlying22 hi011 A0 l0.length c0 (ji3) (of_decide_eq_true (by first | (with_reducible assumption) | assumption)) q11 hroom11
    have hr11 := Kd.F_take (m := ((ji3) : Int).toNat) hC11 (by omega)
    have hy11 : y141.length = ((ji3) : Int).toNat := (by rw [Ny141.out, List.length_take]; omega)
    rw [← Ny141.out] at hr11
    rw [← hy11] at hcut11
    have HO145 := Aside0.mk (show Kd.V (Kd.int .u8) 5 _ w.heap.size _ (.slice A0 y141.length c0) y141 from Kd.V_mk (by omega) hr11)
    have HC145 := Aside0.mk (show y141.length ≤ c0 from by omega)
    clear hr11 hC11 hroom11 hi011 hsz11
    have KY11 := Aside0.mk hy11
    clear hy11
    replace q11 := eq_true q11
    refine start_ (n := 10) (S := fun w' => True) (ds := []) u_f10 (by kernel_rfl) rfl rfl trivial (fun hHeld => ?_); refine with_tabW colloquyref05_Open.tab3 colloquyref05_Open.bits3 (fun HT_ HW_ => ?_)
    generalize w.drew = w10 at HO0 HB HO145 hHeld ⊢
    refine pure_ (i := 0) (N := some 7) (v := ?_) (a' := ?_) u_t1f9 rfl rfl (any_of HT_.out (by kernel_rfl)) (fun _ _ _ h => h) (Or.inl ⟨by rfl, ?_⟩) ?_ ?_
    rotate_left
    ·intro w'
     go_simp
     with_reducible rfl
    rotate_left
    ·exact uP
    refine pure_ (i := 1) (N := some 8) (v := ?_) (a' := ?_) u_t2f8 rfl rfl (any_of HT_.out (by kernel_rfl)) (fun _ _ _ h => h) (Or.inl ⟨by rfl, ?_⟩) ?_ ?_
    rotate_left
    ·intro w'
     go_simp
     with_reducible rfl
    rotate_left
    ·exact uP
    refine pure_ (i := 2) (N := some 9) (v := ?_) (a' := ?_) u_t3f7 rfl rfl (any_of HT_.out (by kernel_rfl)) (fun _ _ _ h => h) (Or.inl ⟨by rfl, ?_⟩) ?_ ?_
    rotate_left
    ·intro w'
     go_simp
     with_reducible rfl
    rotate_left
    ·exact uP
    refine pure_ (i := 3) (N := some 10) (v := ?_) (a' := ?_) u_t4f6 rfl rfl (any_of HT_.out (by kernel_rfl)) (fun _ _ _ h => h) (Or.inl ⟨by rfl, ?_⟩) ?_ ?_
    rotate_left
    ·intro w'
     go_simp
     with_reducible rfl
    rotate_left
    ·exact uP
    refine pure_ (i := 4) (N := some 11) (v := ?_) (a' := ?_) u_t5f5 rfl rfl (any_of HT_.out (by kernel_rfl)) (fun _ _ _ h => h) (Or.inl ⟨by rfl, ?_⟩) ?_ ?_
    rotate_left
    ·intro w'
     go_simp
     with_reducible rfl
    rotate_left
    ·exact uP
    refine pure_ (i := 7) (N := some 14) (v := ?_) (a' := ?_) u_t5f2t1f2 rfl rfl (any_of HT_.out (by kernel_rfl)) (fun _ _ _ h => h) (Or.inl ⟨by rfl, ?_⟩) ?_ ?_
    rotate_left
    ·intro w'
     go_simp
     with_reducible rfl
    rotate_left
    ·exact uP
    refine join_ (σ := Value) 1 u_t9f1 (fun s_ => [(12, s_), (13, .string (strOfNums t146)), (15, .string (strOfNums l0))]) (fun s_ w' => (Kd.V (Kd.int .u8) 5 w' w.heap.size (fun k_ => (P0_ k_ ∨ w.heap.size ≤ k_) ∧ some k_ ≠ (s_ : Value).ownBlock) (.slice A0 l0.length c0) l0) ∧ (Kd.V (Kd.int .u8) 5 w' w.heap.size (fun k_ => (P0_ k_ ∨ w.heap.size ≤ k_) ∧ some k_ ≠ (s_ : Value).ownBlock) (.slice A0 y141.length c0) y141) ∧ (Kd.R (Kd.int .u8) 5 w' w.heap.size (fun k_ => (w.heap.size ≤ k_)) s_ t146) ∧ (Below w.heap.size w w')) ?_ ?_
    rotate_left
    ·intro hCont
     refine two_ (i := 5) (j := 8) (Ni := some 12) (Nj := some 15) u_t6f1t1f2 u_t5f2t2f1 rfl rfl rfl rfl (two_of HT_.out (by kernel_rfl)) (by decide) (by decide) (fun K hK => ?_) (fun K hK => ?_)
     ·skip
      refine goes_ Tryd.func12 (by kernel_rfl) rfl #[.slice A0 y141.length c0] (by rfl) rfl rfl uC ?_
      with_reducible refine (colloquyref05_Seal.calls k _ _ y141 t146 _ ?side1 ?side2 A6.out).mono ?_
      (case side1 => exact uS (Kd.V_reads' HO145.out).2.2)
      (case side2 => exact (Kd.V_reads' HO145.out).2.1)
      rintro e w12 ⟨v147, rfl, ho0, hb⟩
      refine ⟨_, rfl, ?_⟩
      replace HO0 := Aside0.mk (Kd.V_elder' (uV HO0) (Kd.R_base ho0) hb)
      replace HO145 := Aside0.mk (Kd.V_elder' (uV HO145) (Kd.R_base ho0) hb)
      have HO148 := Aside0.mk (Kd.R_lower (Kd.R_newM (M := fun k_ => (w.heap.size ≤ k_)) ho0 (below_size (uB0 HB)) (fun k_ h_ => h_)) (below_size (uB0 HB)))
      replace HB := Aside0.mk (below_step (uB0 HB) hb)
      (try clear hb)
      (try clear hb2)
      (try clear hk)
      (try clear hi)
      (try clear ho0)
      refine hK.out _ _ trivial (fun hHeld => ?_)
      clear hK K
      refine norm_ (a' := ?_) ?_ ?_
      rotate_left
      ·show Act.put _ (some 12) _ = _
       exact uP
      refine two_ (i := 6) (j := 8) (Ni := some 13) (Nj := some 15) u_t8f2 u_t6f1t2f1 rfl rfl rfl rfl (two_of HT_.out (by kernel_rfl)) (by decide) (by decide) (fun K hK => ?_) (fun K hK => ?_)
      ·skip
       have hcv13 := own_string (P := Tryd.prog) Tryd.underlying22 Tryd.underlying5 Tryd.underlying9 (Kd.own_of_R HO148.out)
       refine value_ (w1 := ?_) (v := ?_) (by rfl) rfl ?_ ?_
       rotate_left 2
       ·go_simp
        constructor
        ·rfl
        rfl
       clear hcv13
       refine hK.out _ _ trivial (fun hHeld => ?_)
       clear hK K
       refine norm_ (a' := ?_) ?_ ?_
       rotate_left
       ·show Act.put _ (some 13) _ = _
        exact uP
       refine one_ (i := 8) (N := some 15) u_t9f1 rfl rfl (one_of HT_.out (by kernel_rfl)) (by decide) (fun K hK => ?_)
       have hcv14 := uVS (P := Tryd.prog) Tryd.underlying22 Tryd.underlying5 Tryd.underlying9 HO0.out
       refine value_ (w1 := ?_) (v := ?_) (by rfl) rfl ?_ ?_
       rotate_left 2
       ·go_simp
        constructor
        ·rfl
        rfl
       clear hcv14
       refine hK.out _ _ trivial (fun hHeld => ?_)
       clear hK K
       refine norm_ (a' := ?_) ?_ ?_
       rotate_left
       ·show Act.put _ (some 15) _ = _
        exact uP
       exact norm_ (by simp only [putAll, Act.put, List.setIfInBounds_toArray, List.set_cons_zero, List.set_cons_succ]) (hCont (v147) _ ⟨(uV HO0), (uV HO145), (by (with_reducible repeat (first | apply Kd.R_alloc | apply Kd.R_drewN | apply Kd.R_drew)); exact Kd.R_mono HO148.out (fun _ hk => hk.1)), (uB0 HB)⟩)
      skip
      have hcv13 := uVS (P := Tryd.prog) Tryd.underlying22 Tryd.underlying5 Tryd.underlying9 HO0.out
      refine value_ (w1 := ?_) (v := ?_) (by rfl) rfl ?_ ?_
      rotate_left 2
      ·go_simp
       constructor
       ·rfl
       rfl
      clear hcv13
      refine hK.out _ _ trivial (fun hHeld => ?_)
      clear hK K
      refine norm_ (a' := ?_) ?_ ?_
      rotate_left
      ·show Act.put _ (some 15) _ = _
       exact uP
      refine one_ (i := 6) (N := some 13) u_t9f1 rfl rfl (one_of HT_.out (by kernel_rfl)) (by decide) (fun K hK => ?_)
      have hcv14 := own_string (P := Tryd.prog) Tryd.underlying22 Tryd.underlying5 Tryd.underlying9 (Kd.own_of_R HO148.out)
      refine value_ (w1 := ?_) (v := ?_) (by rfl) rfl ?_ ?_
      rotate_left 2
      ·go_simp
       constructor
       ·rfl
       rfl
      clear hcv14
      refine hK.out _ _ trivial (fun hHeld => ?_)
      clear hK K
      refine norm_ (a' := ?_) ?_ ?_
      rotate_left
      ·show Act.put _ (some 13) _ = _
       exact uP
      exact norm_ (by simp only [putAll, Act.put, List.setIfInBounds_toArray, List.set_cons_zero, List.set_cons_succ]) (hCont (v147) _ ⟨(uV HO0), (uV HO145), (by (with_reducible repeat (first | apply Kd.R_alloc | apply Kd.R_drewN | apply Kd.R_drew)); exact Kd.R_mono HO148.out (fun _ hk => hk.1)), (uB0 HB)⟩)
     skip
     have hcv12 := uVS (P := Tryd.prog) Tryd.underlying22 Tryd.underlying5 Tryd.underlying9 HO0.out
     refine value_ (w1 := ?_) (v := ?_) (by rfl) rfl ?_ ?_
     rotate_left 2
     ·go_simp
      constructor
      ·rfl
      rfl
     clear hcv12
     refine hK.out _ _ trivial (fun hHeld => ?_)
     clear hK K
     refine norm_ (a' := ?_) ?_ ?_
     rotate_left
     ·show Act.put _ (some 15) _ = _
      exact uP
     refine one_ (i := 5) (N := some 12) u_t6f1t2f1 rfl rfl (one_of HT_.out (by kernel_rfl)) (by decide) (fun K hK => ?_)
     refine goes_ Tryd.func12 (by kernel_rfl) rfl #[.slice A0 y141.length c0] (by rfl) rfl rfl uC ?_
     with_reducible refine (colloquyref05_Seal.calls k _ _ y141 t146 _ ?side1 ?side2 A6.out).mono ?_
     (case side1 => exact uS (Kd.V_reads' HO145.out).2.2)
     (case side2 => exact (Kd.V_reads' HO145.out).2.1)
     rintro e w13 ⟨v147, rfl, ho0, hb⟩
     refine ⟨_, rfl, ?_⟩
     replace HO0 := Aside0.mk (Kd.V_elder' (uV HO0) (Kd.R_base ho0) hb)
     replace HO145 := Aside0.mk (Kd.V_elder' (uV HO145) (Kd.R_base ho0) hb)
     have HO148 := Aside0.mk (Kd.R_lower (Kd.R_newM (M := fun k_ => (w.heap.size ≤ k_)) ho0 (below_size (uB0 HB)) (fun k_ h_ => h_)) (below_size (uB0 HB)))
     replace HB := Aside0.mk (below_step (uB0 HB) hb)
     (try clear hb)
     (try clear hb2)
     (try clear hk)
     (try clear hi)
     (try clear ho0)
     refine hK.out _ _ trivial (fun hHeld => ?_)
     clear hK K
     refine norm_ (a' := ?_) ?_ ?_
     rotate_left
     ·show Act.put _ (some 12) _ = _
      exact uP
     refine one_ (i := 6) (N := some 13) u_t9f1 rfl rfl (one_of HT_.out (by kernel_rfl)) (by decide) (fun K hK => ?_)
     have hcv14 := own_string (P := Tryd.prog) Tryd.underlying22 Tryd.underlying5 Tryd.underlying9 (Kd.own_of_R HO148.out)
     refine value_ (w1 := ?_) (v := ?_) (by rfl) rfl ?_ ?_
     rotate_left 2
     ·go_simp
      constructor
      ·rfl
      rfl
     clear hcv14
     refine hK.out _ _ trivial (fun hHeld => ?_)
     clear hK K
     refine norm_ (a' := ?_) ?_ ?_
     rotate_left
     ·show Act.put _ (some 13) _ = _
      exact uP
     exact norm_ (by simp only [putAll, Act.put, List.setIfInBounds_toArray, List.set_cons_zero, List.set_cons_succ]) (hCont (v147) _ ⟨(uV HO0), (uV HO145), (by (with_reducible repeat (first | apply Kd.R_alloc | apply Kd.R_drewN | apply Kd.R_drew)); exact Kd.R_mono HO148.out (fun _ hk => hk.1)), (uB0 HB)⟩)
    rintro v147 w15 ⟨h0_, h1_, h2_, h3_⟩
    replace HO0 : Aside0 (Kd.V (Kd.int .u8) 5 w15 w.heap.size (fun k_ => (P0_ k_ ∨ w.heap.size ≤ k_) ∧ some k_ ≠ (v147 : Value).ownBlock) (.slice A0 l0.length c0) l0) := ⟨h0_⟩
    have HO145 : Aside0 (Kd.V (Kd.int .u8) 5 w15 w.heap.size (fun k_ => (P0_ k_ ∨ w.heap.size ≤ k_) ∧ some k_ ≠ (v147 : Value).ownBlock) (.slice A0 y141.length c0) y141) := ⟨h1_⟩
    have HO148 : Aside0 (Kd.R (Kd.int .u8) 5 w15 w.heap.size (fun k_ => (w.heap.size ≤ k_)) v147 t146) := ⟨h2_⟩
    replace HB : Aside0 (Below w.heap.size w w15) := ⟨h3_⟩
    clear h0_ h1_ h2_ h3_
    have hHeld := trivial
    refine norm_ (a' := ?_) ?_ ?_
    rotate_left
    ·simp only [putAll, Act.put, List.setIfInBounds_toArray, List.set_cons_zero, List.set_cons_succ]
     rfl
    refine pure_ (i := 9) (N := some 16) (v := ?_) (a' := ?_) u_t10 rfl rfl (any_of HT_.out (by kernel_rfl)) (fun _ _ _ h => h) (Or.inl ⟨by rfl, ?_⟩) ?_ ?_
    rotate_left
    ·intro w'
     go_simp
     with_reducible rfl
    rotate_left
    ·exact uP
    refine done_ (done_of HT_.out (by kernel_rfl)) ?_
    have q16 : ((ji3) : Int) ≤ ((l0.length : Int) : Int) := of_decide_eq_true (by first | (with_reducible assumption) | assumption)
    obtain ⟨i016, hi016, _, hsz16, _⟩ := info_parts info5
    have hroom16 : l0.length ≤ c0 := (Kd.V_reads' HO0.out).2.1
    have hC16 : Kd.F (Kd.int .u8) _ _ A0 l0.length l0 := (Kd.V_at (base := w.heap.size) HO0.out).2.2
    (try clear hcut11)
    (try clear hcut11)
    (try clear hcut11)
    (try clear hcut11)
    have hcut16 := cut_to (P := Tryd.prog) 22 5 .i64 Tryd.underlying22 hi016 A0 l0.length c0 (ji3) (of_decide_eq_true (by first | (with_reducible assumption) | assumption)) q16 hroom16
    have hr16 := Kd.F_take (m := ((ji3) : Int).toNat) hC16 (by omega)
    have hy16 : y149.length = ((ji3) : Int).toNat := (by rw [Ny149.out, List.length_take]; omega)
    rw [← Ny149.out] at hr16
    rw [← hy16] at hcut16
    have HO153 := Aside0.mk (show Kd.V (Kd.int .u8) 5 _ w.heap.size _ (.slice A0 y149.length c0) y149 from Kd.V_mk (by omega) hr16)
    have HC153 := Aside0.mk (show y149.length ≤ c0 from by omega)
    clear hr16 hC16 hroom16 hi016 hsz16
    have KY16 := Aside0.mk hy16
    clear hy16
    replace q16 := eq_true q16
    try go_wp2
    go_ret2
    exact ⟨_, by first | rfl | (simp [errW_none, errW_some] <;> rfl) | (simp only [← hji3]; first | rfl | (simp [errW_none, errW_some] <;> rfl)) | (simp [*, errW_none, errW_some] <;> rfl), by (with_reducible repeat (first | apply Kd.V_alloc | apply Kd.V_drewN | apply Kd.V_drew)); exact Kd.V_mono HO153.out (fun _ hk => hk.1), uB0 HB⟩
   rw [if_neg c7] at H
   have c7b0 : ((strOfNums t146).toList == (strOfNums l0).toList) = false := beq_eq_false_iff_ne.mpr c7
   have c7b1 : ((strOfNums t146).toList != (strOfNums l0).toList) = true := bne_iff_ne.mpr c7
   simp only [Option.some.injEq, Prod.mk.injEq] at H
   obtain ⟨rfl, rfl⟩ := H
   go_enter Tryd.func8, Tryd.ntmps8
   try go_wp2
   replace HO0 := Aside0.mk (Kd.V_drew HO0.out)
   replace HB := Aside0.mk (below_drew1 HB.out)
   have q18 : ((ji3) : Int) ≤ ((l0.length : Int) : Int) := of_decide_eq_true (by first | (with_reducible assumption) | assumption)
   obtain ⟨i018, hi018, _, hsz18, _⟩ := info_parts info5
   have hroom18 : l0.length ≤ c0 := (Kd.V_reads' HO0.out).2.1
   have hC18 : Kd.F (Kd.int .u8) _ _ A0 l0.length l0 := (Kd.V_at (base := w.heap.size) HO0.out).2.2
   (try clear hcut11)
   (try clear hcut11)
   (try clear hcut16)
   (try clear hcut18)
   (try clear hcut18)
   (try clear hcut18)
   have hcut18 := cut_to (P := Tryd.prog) 22 5 .i64 Tryd.underlying22 hi018 A0 l0.length c0 (ji3) (of_decide_eq_true (by first | (with_reducible assumption) | assumption)) q18 hroom18
   have hr18 := Kd.F_take (m := ((ji3) : Int).toNat) hC18 (by omega)
   have hy18 : y141.length = ((ji3) : Int).toNat := (by rw [Ny141.out, List.length_take]; omega)
   rw [← Ny141.out] at hr18
   rw [← hy18] at hcut18
   have HO145 := Aside0.mk (show Kd.V (Kd.int .u8) 5 _ w.heap.size _ (.slice A0 y141.length c0) y141 from Kd.V_mk (by omega) hr18)
   have HC145 := Aside0.mk (show y141.length ≤ c0 from by omega)
   clear hr18 hC18 hroom18 hi018 hsz18
   have KY18 := Aside0.mk hy18
   clear hy18
   replace q18 := eq_true q18
   refine start_ (n := 10) (S := fun w' => True) (ds := []) u_f10 (by kernel_rfl) rfl rfl trivial (fun hHeld => ?_); refine with_tabW colloquyref05_Open.tab3 colloquyref05_Open.bits3 (fun HT_ HW_ => ?_)
   generalize w.drew = w17 at HO0 HB HO145 hHeld ⊢
   refine pure_ (i := 0) (N := some 7) (v := ?_) (a' := ?_) u_t1f9 rfl rfl (any_of HT_.out (by kernel_rfl)) (fun _ _ _ h => h) (Or.inl ⟨by rfl, ?_⟩) ?_ ?_
   rotate_left
   ·intro w'
    go_simp
    with_reducible rfl
   rotate_left
   ·exact uP
   refine pure_ (i := 1) (N := some 8) (v := ?_) (a' := ?_) u_t2f8 rfl rfl (any_of HT_.out (by kernel_rfl)) (fun _ _ _ h => h) (Or.inl ⟨by rfl, ?_⟩) ?_ ?_
   rotate_left
   ·intro w'
    go_simp
    with_reducible rfl
   rotate_left
   ·exact uP
   refine pure_ (i := 2) (N := some 9) (v := ?_) (a' := ?_) u_t3f7 rfl rfl (any_of HT_.out (by kernel_rfl)) (fun _ _ _ h => h) (Or.inl ⟨by rfl, ?_⟩) ?_ ?_
   rotate_left
   ·intro w'
    go_simp
    with_reducible rfl
   rotate_left
   ·exact uP
   refine pure_ (i := 3) (N := some 10) (v := ?_) (a' := ?_) u_t4f6 rfl rfl (any_of HT_.out (by kernel_rfl)) (fun _ _ _ h => h) (Or.inl ⟨by rfl, ?_⟩) ?_ ?_
   rotate_left
   ·intro w'
    go_simp
    with_reducible rfl
   rotate_left
   ·exact uP
   refine pure_ (i := 4) (N := some 11) (v := ?_) (a' := ?_) u_t5f5 rfl rfl (any_of HT_.out (by kernel_rfl)) (fun _ _ _ h => h) (Or.inl ⟨by rfl, ?_⟩) ?_ ?_
   rotate_left
   ·intro w'
    go_simp
    with_reducible rfl
   rotate_left
   ·exact uP
   refine pure_ (i := 7) (N := some 14) (v := ?_) (a' := ?_) u_t5f2t1f2 rfl rfl (any_of HT_.out (by kernel_rfl)) (fun _ _ _ h => h) (Or.inl ⟨by rfl, ?_⟩) ?_ ?_
   rotate_left
   ·intro w'
    go_simp
    with_reducible rfl
   rotate_left
   ·exact uP
   refine join_ (σ := Value) 1 u_t9f1 (fun s_ => [(12, s_), (13, .string (strOfNums t146)), (15, .string (strOfNums l0))]) (fun s_ w' => (Kd.V (Kd.int .u8) 5 w' w.heap.size (fun k_ => (P0_ k_ ∨ w.heap.size ≤ k_) ∧ some k_ ≠ (s_ : Value).ownBlock) (.slice A0 l0.length c0) l0) ∧ (Kd.V (Kd.int .u8) 5 w' w.heap.size (fun k_ => (P0_ k_ ∨ w.heap.size ≤ k_) ∧ some k_ ≠ (s_ : Value).ownBlock) (.slice A0 y141.length c0) y141) ∧ (Kd.R (Kd.int .u8) 5 w' w.heap.size (fun k_ => (w.heap.size ≤ k_)) s_ t146) ∧ (Below w.heap.size w w')) ?_ ?_
   rotate_left
   ·intro hCont
    refine two_ (i := 5) (j := 8) (Ni := some 12) (Nj := some 15) u_t6f1t1f2 u_t5f2t2f1 rfl rfl rfl rfl (two_of HT_.out (by kernel_rfl)) (by decide) (by decide) (fun K hK => ?_) (fun K hK => ?_)
    ·skip
     refine goes_ Tryd.func12 (by kernel_rfl) rfl #[.slice A0 y141.length c0] (by rfl) rfl rfl uC ?_
     with_reducible refine (colloquyref05_Seal.calls k _ _ y141 t146 _ ?side1 ?side2 A6.out).mono ?_
     (case side1 => exact uS (Kd.V_reads' HO145.out).2.2)
     (case side2 => exact (Kd.V_reads' HO145.out).2.1)
     rintro e w19 ⟨v147, rfl, ho0, hb⟩
     refine ⟨_, rfl, ?_⟩
     replace HO0 := Aside0.mk (Kd.V_elder' (uV HO0) (Kd.R_base ho0) hb)
     replace HO145 := Aside0.mk (Kd.V_elder' (uV HO145) (Kd.R_base ho0) hb)
     have HO148 := Aside0.mk (Kd.R_lower (Kd.R_newM (M := fun k_ => (w.heap.size ≤ k_)) ho0 (below_size (uB0 HB)) (fun k_ h_ => h_)) (below_size (uB0 HB)))
     replace HB := Aside0.mk (below_step (uB0 HB) hb)
     (try clear hb)
     (try clear hb2)
     (try clear hk)
     (try clear hi)
     (try clear ho0)
     refine hK.out _ _ trivial (fun hHeld => ?_)
     clear hK K
     refine norm_ (a' := ?_) ?_ ?_
     rotate_left
     ·show Act.put _ (some 12) _ = _
      exact uP
     refine two_ (i := 6) (j := 8) (Ni := some 13) (Nj := some 15) u_t8f2 u_t6f1t2f1 rfl rfl rfl rfl (two_of HT_.out (by kernel_rfl)) (by decide) (by decide) (fun K hK => ?_) (fun K hK => ?_)
     ·skip
      have hcv20 := own_string (P := Tryd.prog) Tryd.underlying22 Tryd.underlying5 Tryd.underlying9 (Kd.own_of_R HO148.out)
      refine value_ (w1 := ?_) (v := ?_) (by rfl) rfl ?_ ?_
      rotate_left 2
      ·go_simp
       constructor
       ·rfl
       rfl
      clear hcv20
      refine hK.out _ _ trivial (fun hHeld => ?_)
      clear hK K
      refine norm_ (a' := ?_) ?_ ?_
      rotate_left
      ·show Act.put _ (some 13) _ = _
       exact uP
      refine one_ (i := 8) (N := some 15) u_t9f1 rfl rfl (one_of HT_.out (by kernel_rfl)) (by decide) (fun K hK => ?_)
      have hcv21 := uVS (P := Tryd.prog) Tryd.underlying22 Tryd.underlying5 Tryd.underlying9 HO0.out
      refine value_ (w1 := ?_) (v := ?_) (by rfl) rfl ?_ ?_
      rotate_left 2
      ·go_simp
       constructor
       ·rfl
       rfl
      clear hcv21
      refine hK.out _ _ trivial (fun hHeld => ?_)
      clear hK K
      refine norm_ (a' := ?_) ?_ ?_
      rotate_left
      ·show Act.put _ (some 15) _ = _
       exact uP
      exact norm_ (by simp only [putAll, Act.put, List.setIfInBounds_toArray, List.set_cons_zero, List.set_cons_succ]) (hCont (v147) _ ⟨(uV HO0), (uV HO145), (by (with_reducible repeat (first | apply Kd.R_alloc | apply Kd.R_drewN | apply Kd.R_drew)); exact Kd.R_mono HO148.out (fun _ hk => hk.1)), (uB0 HB)⟩)
     skip
     have hcv20 := uVS (P := Tryd.prog) Tryd.underlying22 Tryd.underlying5 Tryd.underlying9 HO0.out
     refine value_ (w1 := ?_) (v := ?_) (by rfl) rfl ?_ ?_
     rotate_left 2
     ·go_simp
      constructor
      ·rfl
      rfl
     clear hcv20
     refine hK.out _ _ trivial (fun hHeld => ?_)
     clear hK K
     refine norm_ (a' := ?_) ?_ ?_
     rotate_left
     ·show Act.put _ (some 15) _ = _
      exact uP
     refine one_ (i := 6) (N := some 13) u_t9f1 rfl rfl (one_of HT_.out (by kernel_rfl)) (by decide) (fun K hK => ?_)
     have hcv21 := own_string (P := Tryd.prog) Tryd.underlying22 Tryd.underlying5 Tryd.underlying9 (Kd.own_of_R HO148.out)
     refine value_ (w1 := ?_) (v := ?_) (by rfl) rfl ?_ ?_
     rotate_left 2
     ·go_simp
      constructor
      ·rfl
      rfl
     clear hcv21
     refine hK.out _ _ trivial (fun hHeld => ?_)
     clear hK K
     refine norm_ (a' := ?_) ?_ ?_
     rotate_left
     ·show Act.put _ (some 13) _ = _
      exact uP
     exact norm_ (by simp only [putAll, Act.put, List.setIfInBounds_toArray, List.set_cons_zero, List.set_cons_succ]) (hCont (v147) _ ⟨(uV HO0), (uV HO145), (by (with_reducible repeat (first | apply Kd.R_alloc | apply Kd.R_drewN | apply Kd.R_drew)); exact Kd.R_mono HO148.out (fun _ hk => hk.1)), (uB0 HB)⟩)
    skip
    have hcv19 := uVS (P := Tryd.prog) Tryd.underlying22 Tryd.underlying5 Tryd.underlying9 HO0.out
    refine value_ (w1 := ?_) (v := ?_) (by rfl) rfl ?_ ?_
    rotate_left 2
    ·go_simp
     constructor
     ·rfl
     rfl
    clear hcv19
    refine hK.out _ _ trivial (fun hHeld => ?_)
    clear hK K
    refine norm_ (a' := ?_) ?_ ?_
    rotate_left
    ·show Act.put _ (some 15) _ = _
     exact uP
    refine one_ (i := 5) (N := some 12) u_t6f1t2f1 rfl rfl (one_of HT_.out (by kernel_rfl)) (by decide) (fun K hK => ?_)
    refine goes_ Tryd.func12 (by kernel_rfl) rfl #[.slice A0 y141.length c0] (by rfl) rfl rfl uC ?_
    with_reducible refine (colloquyref05_Seal.calls k _ _ y141 t146 _ ?side1 ?side2 A6.out).mono ?_
    (case side1 => exact uS (Kd.V_reads' HO145.out).2.2)
    (case side2 => exact (Kd.V_reads' HO145.out).2.1)
    rintro e w20 ⟨v147, rfl, ho0, hb⟩
    refine ⟨_, rfl, ?_⟩
    replace HO0 := Aside0.mk (Kd.V_elder' (uV HO0) (Kd.R_base ho0) hb)
    replace HO145 := Aside0.mk (Kd.V_elder' (uV HO145) (Kd.R_base ho0) hb)
    have HO148 := Aside0.mk (Kd.R_lower (Kd.R_newM (M := fun k_ => (w.heap.size ≤ k_)) ho0 (below_size (uB0 HB)) (fun k_ h_ => h_)) (below_size (uB0 HB)))
    replace HB := Aside0.mk (below_step (uB0 HB) hb)
    (try clear hb)
    (try clear hb2)
    (try clear hk)
    (try clear hi)
    (try clear ho0)
    refine hK.out _ _ trivial (fun hHeld => ?_)
    clear hK K
    refine norm_ (a' := ?_) ?_ ?_
    rotate_left
    ·show Act.put _ (some 12) _ = _
     exact uP
    refine one_ (i := 6) (N := some 13) u_t9f1 rfl rfl (one_of HT_.out (by kernel_rfl)) (by decide) (fun K hK => ?_)
    have hcv21 := own_string (P := Tryd.prog) Tryd.underlying22 Tryd.underlying5 Tryd.underlying9 (Kd.own_of_R HO148.out)
    refine value_ (w1 := ?_) (v := ?_) (by rfl) rfl ?_ ?_
    rotate_left 2
    ·go_simp
     constructor
     ·rfl
     rfl
    clear hcv21
    refine hK.out _ _ trivial (fun hHeld => ?_)
    clear hK K
    refine norm_ (a' := ?_) ?_ ?_
    rotate_left
    ·show Act.put _ (some 13) _ = _
     exact uP
    exact norm_ (by simp only [putAll, Act.put, List.setIfInBounds_toArray, List.set_cons_zero, List.set_cons_succ]) (hCont (v147) _ ⟨(uV HO0), (uV HO145), (by (with_reducible repeat (first | apply Kd.R_alloc | apply Kd.R_drewN | apply Kd.R_drew)); exact Kd.R_mono HO148.out (fun _ hk => hk.1)), (uB0 HB)⟩)
   rintro v147 w22 ⟨h0_, h1_, h2_, h3_⟩
   replace HO0 : Aside0 (Kd.V (Kd.int .u8) 5 w22 w.heap.size (fun k_ => (P0_ k_ ∨ w.heap.size ≤ k_) ∧ some k_ ≠ (v147 : Value).ownBlock) (.slice A0 l0.length c0) l0) := ⟨h0_⟩
   have HO145 : Aside0 (Kd.V (Kd.int .u8) 5 w22 w.heap.size (fun k_ => (P0_ k_ ∨ w.heap.size ≤ k_) ∧ some k_ ≠ (v147 : Value).ownBlock) (.slice A0 y141.length c0) y141) := ⟨h1_⟩
   have HO148 : Aside0 (Kd.R (Kd.int .u8) 5 w22 w.heap.size (fun k_ => (w.heap.size ≤ k_)) v147 t146) := ⟨h2_⟩
   replace HB : Aside0 (Below w.heap.size w w22) := ⟨h3_⟩
   clear h0_ h1_ h2_ h3_
   have hHeld := trivial
   refine norm_ (a' := ?_) ?_ ?_
   rotate_left
   ·simp only [putAll, Act.put, List.setIfInBounds_toArray, List.set_cons_zero, List.set_cons_succ]
    rfl
   refine pure_ (i := 9) (N := some 16) (v := ?_) (a' := ?_) u_t10 rfl rfl (any_of HT_.out (by kernel_rfl)) (fun _ _ _ h => h) (Or.inl ⟨by rfl, ?_⟩) ?_ ?_
   rotate_left
   ·intro w'
    go_simp
    with_reducible rfl
   rotate_left
   ·exact uP
   refine done_ (done_of HT_.out (by kernel_rfl)) ?_
   try go_wp2
   go_ret2
   exact ⟨_, by first | rfl | (simp [errW_none, errW_some] <;> rfl) | (simp only [← hji3]; first | rfl | (simp [errW_none, errW_some] <;> rfl)) | (simp [*, errW_none, errW_some] <;> rfl), Kd.V_nil _ _ _ _ _, uB0 HB⟩
  rw [if_neg c5] at H
  exact absurd H (by simp)
 rw [if_neg c4] at H
 exact absurd H (by simp)

end Go.Proofs.YtachjpkpgbofaaaDoor.PSumTells
