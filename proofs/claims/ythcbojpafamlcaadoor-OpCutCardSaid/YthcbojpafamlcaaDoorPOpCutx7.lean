/- The functions that the law reaches, as plain functions of lists and numbers, and that a call of the Go code comes to just their answers; laid by this repo's own program over the seat's translation. Conditions: each contract's own premises. -/
import Derived.Test.YthcbojpafamlcaaDoorPOpCutx0
import Derived.Test.YthcbojpafamlcaaDoorPOpCutx3
import Derived.Test.YthcbojpafamlcaaDoorPOpCutx5
import Derived.Test.YthcbojpafamlcaaDoorPOpCutx6
namespace Go.Proofs.YthcbojpafamlcaaDoor.POpCut
open Go.RowKit Go.Proofs.YthcbojpafamlcaaDoorW.PrintWords Go.Proofs.YthcbojpafamlcaaDoorW.PrintLast Go.Proofs.YthcbojpafamlcaaDoorW.PrintMore
attribute [local go_sem] max2_int min2_int max_two min_two max_three min_three max_four min_four   -- for this text's walks alone
set_option linter.unusedVariables false
set_option linter.unusedSimpArgs false

/-! ### colloquylaw07_OpCut: function 5 -/
mutual
def colloquylaw07_OpCut.j0 : Nat → List (S47) → List Int → Int → Option (Bool)
  | 0, _, _, _ => none
  | k + 1, x0, x5, x7 => (op_Decode.f k x5).bind fun bt221 => (if bt221.2.2.isNone = true then (colloquylaw07_OpCut.j1 k x0 x5 x7 bt221.2.1 ((bt221.2.1.length : Int) != (x0.length : Int))) else (colloquylaw07_OpCut.j1 k x0 x5 x7 bt221.2.1 true))
def colloquylaw07_OpCut.j1 : Nat → List (S47) → List Int → Int → List Int → Bool → Option (Bool)
  | 0, _, _, _, _, _ => none
  | k + 1, x0, x5, x7, x9, x56 => if x56 = true then (none) else (colloquylaw07_OpCut.l0 k x0 x5 x7 x9 0 (x7 == (x5.length : Int)) 0)
def colloquylaw07_OpCut.l0 : Nat → List (S47) → List Int → Int → List Int → Int → Bool → Int → Option (Bool)
  | 0, _, _, _, _, _, _, _ => none
  | k + 1, x0, x5, x7, x9, x11, x12, x13 => if x13 < (x9.length : Int) then (if 0 ≤ x13 then (if (rd x9 x13) < x7 then (if x12 = true then (colloquylaw07_OpCut.l0 k x0 x5 x7 x9 (wrap64 (x11 + 1)) true (wrap64 (x13 + 1))) else (colloquylaw07_OpCut.l0 k x0 x5 x7 x9 (wrap64 (x11 + 1)) ((rd x9 x13) == x7) (wrap64 (x13 + 1)))) else (if x12 = true then (colloquylaw07_OpCut.l0 k x0 x5 x7 x9 x11 true (wrap64 (x13 + 1))) else (colloquylaw07_OpCut.l0 k x0 x5 x7 x9 x11 ((rd x9 x13) == x7) (wrap64 (x13 + 1))))) else (none)) else (if 0 ≤ x7 then (if x7 ≤ (x5.length : Int) then ((op_Decode.f k (x5.take (x7 : Int).toNat)).bind fun bt236 => (if x12 = true then (if bt236.2.2.isNone = true then (if 0 ≤ x11 then (if x11 ≤ (x0.length : Int) then ((colloquylaw07_areOps.f k bt236.1 (x0.take (x11 : Int).toNat)).bind fun t248 => (if t248 = true then ((colloquylaw07_sure.f k).bind fun t249 => (some t249)) else (none))) else (none)) else (none)) else (none)) else ((colloquylaw07_num.f bt236.2.2).bind fun t250 => (if t250 = 8 then (if (bt236.1.length : Int) = 0 then ((colloquylaw07_sure.f k).bind fun t251 => (some t251)) else (none)) else (none))))) else (none)) else (none))
end
def colloquylaw07_OpCut.f (k : Nat) (l0 : List (S47)) (a1 : Int) : Option (Bool) := if (l0.length : Int) > 600 then ((colloquylaw07_sure.f k).bind fun t212 => (some t212)) else ((colloquylaw07_giveOps.f k l0).bind fun t213 => ((op_Encode.f k t213).bind fun bt216 => (if bt216.2.isNone = true then (if (wrap64 ((bt216.1.length : Int) + 1)) = 0 then (none) else (if (Int.tmod a1 (wrap64 ((bt216.1.length : Int) + 1))) < 0 then (colloquylaw07_OpCut.j0 k l0 bt216.1 (wrap64 ((Int.tmod a1 (wrap64 ((bt216.1.length : Int) + 1))) + (wrap64 ((bt216.1.length : Int) + 1))))) else (colloquylaw07_OpCut.j0 k l0 bt216.1 (Int.tmod a1 (wrap64 ((bt216.1.length : Int) + 1)))))) else ((colloquylaw07_sure.f k).bind fun t252 => (some t252)))))
theorem colloquylaw07_OpCut.mono_l : ∀ k, (∀ y0 y1 y2, LeO (colloquylaw07_OpCut.j0 k y0 y1 y2) (colloquylaw07_OpCut.j0 (k + 1) y0 y1 y2)) ∧ (∀ y0 y1 y2 y3 y4, LeO (colloquylaw07_OpCut.j1 k y0 y1 y2 y3 y4) (colloquylaw07_OpCut.j1 (k + 1) y0 y1 y2 y3 y4)) ∧ (∀ y0 y1 y2 y3 y4 y5 y6, LeO (colloquylaw07_OpCut.l0 k y0 y1 y2 y3 y4 y5 y6) (colloquylaw07_OpCut.l0 (k + 1) y0 y1 y2 y3 y4 y5 y6))
  | 0 => ⟨fun _ _ _ r h => by simp [colloquylaw07_OpCut.j0] at h, fun _ _ _ _ _ r h => by simp [colloquylaw07_OpCut.j1] at h, fun _ _ _ _ _ _ _ r h => by simp [colloquylaw07_OpCut.l0] at h⟩
  | k + 1 => by
    obtain ⟨ih0, ih1, ih2⟩ := colloquylaw07_OpCut.mono_l k
    refine ⟨?_, ?_, ?_⟩
    · intro y0 y1 y2
      unfold colloquylaw07_OpCut.j0
      repeat' first
      | (with_reducible exact ih0 _ _ _)
      | (with_reducible exact ih1 _ _ _ _ _)
      | (with_reducible exact ih2 _ _ _ _ _ _ _)
      | (with_reducible exact colloquylaw07_areOps.mono _ _ _)
      | (with_reducible exact colloquylaw07_giveOps.mono _ _)
      | (with_reducible exact colloquylaw07_sure.mono _)
      | (with_reducible exact op_Decode.mono _ _)
      | (with_reducible exact op_Encode.mono _ _)
      | (with_reducible exact LeO.refl _)
      | (with_reducible exact LeO.none _)
      | (with_reducible refine LeO.ite ?_ ?_)
      | (with_reducible refine LeO.bind ?_ (fun _ => ?_))
      | exact ih0 _ _ _
      | exact ih1 _ _ _ _ _
      | exact ih2 _ _ _ _ _ _ _
      | exact colloquylaw07_areOps.mono _ _ _
      | exact colloquylaw07_giveOps.mono _ _
      | exact colloquylaw07_sure.mono _
      | exact op_Decode.mono _ _
      | exact op_Encode.mono _ _
      | exact LeO.none _
      | refine LeO.ite ?_ ?_
      | refine LeO.bind ?_ (fun _ => ?_)
    · intro y0 y1 y2 y3 y4
      unfold colloquylaw07_OpCut.j1
      repeat' first
      | (with_reducible exact ih0 _ _ _)
      | (with_reducible exact ih1 _ _ _ _ _)
      | (with_reducible exact ih2 _ _ _ _ _ _ _)
      | (with_reducible exact colloquylaw07_areOps.mono _ _ _)
      | (with_reducible exact colloquylaw07_giveOps.mono _ _)
      | (with_reducible exact colloquylaw07_sure.mono _)
      | (with_reducible exact op_Decode.mono _ _)
      | (with_reducible exact op_Encode.mono _ _)
      | (with_reducible exact LeO.refl _)
      | (with_reducible exact LeO.none _)
      | (with_reducible refine LeO.ite ?_ ?_)
      | (with_reducible refine LeO.bind ?_ (fun _ => ?_))
      | exact ih0 _ _ _
      | exact ih1 _ _ _ _ _
      | exact ih2 _ _ _ _ _ _ _
      | exact colloquylaw07_areOps.mono _ _ _
      | exact colloquylaw07_giveOps.mono _ _
      | exact colloquylaw07_sure.mono _
      | exact op_Decode.mono _ _
      | exact op_Encode.mono _ _
      | exact LeO.none _
      | refine LeO.ite ?_ ?_
      | refine LeO.bind ?_ (fun _ => ?_)
    · intro y0 y1 y2 y3 y4 y5 y6
      unfold colloquylaw07_OpCut.l0
      repeat' first
      | (with_reducible exact ih0 _ _ _)
      | (with_reducible exact ih1 _ _ _ _ _)
      | (with_reducible exact ih2 _ _ _ _ _ _ _)
      | (with_reducible exact colloquylaw07_areOps.mono _ _ _)
      | (with_reducible exact colloquylaw07_giveOps.mono _ _)
      | (with_reducible exact colloquylaw07_sure.mono _)
      | (with_reducible exact op_Decode.mono _ _)
      | (with_reducible exact op_Encode.mono _ _)
      | (with_reducible exact LeO.refl _)
      | (with_reducible exact LeO.none _)
      | (with_reducible refine LeO.ite ?_ ?_)
      | (with_reducible refine LeO.bind ?_ (fun _ => ?_))
      | exact ih0 _ _ _
      | exact ih1 _ _ _ _ _
      | exact ih2 _ _ _ _ _ _ _
      | exact colloquylaw07_areOps.mono _ _ _
      | exact colloquylaw07_giveOps.mono _ _
      | exact colloquylaw07_sure.mono _
      | exact op_Decode.mono _ _
      | exact op_Encode.mono _ _
      | exact LeO.none _
      | refine LeO.ite ?_ ?_
      | refine LeO.bind ?_ (fun _ => ?_)
theorem colloquylaw07_OpCut.mono : ∀ a0 a1 k, LeO (colloquylaw07_OpCut.f k a0 a1) (colloquylaw07_OpCut.f (k + 1) a0 a1) := by
  intro a0 a1 k
  obtain ⟨ih0, ih1, ih2⟩ := colloquylaw07_OpCut.mono_l k
  unfold colloquylaw07_OpCut.f
  repeat' first
      | (with_reducible exact ih0 _ _ _)
      | (with_reducible exact ih1 _ _ _ _ _)
      | (with_reducible exact ih2 _ _ _ _ _ _ _)
      | (with_reducible exact colloquylaw07_areOps.mono _ _ _)
      | (with_reducible exact colloquylaw07_giveOps.mono _ _)
      | (with_reducible exact colloquylaw07_sure.mono _)
      | (with_reducible exact op_Decode.mono _ _)
      | (with_reducible exact op_Encode.mono _ _)
      | (with_reducible exact LeO.refl _)
      | (with_reducible exact LeO.none _)
      | (with_reducible refine LeO.ite ?_ ?_)
      | (with_reducible refine LeO.bind ?_ (fun _ => ?_))
      | exact ih0 _ _ _
      | exact ih1 _ _ _ _ _
      | exact ih2 _ _ _ _ _ _ _
      | exact colloquylaw07_areOps.mono _ _ _
      | exact colloquylaw07_giveOps.mono _ _
      | exact colloquylaw07_sure.mono _
      | exact op_Decode.mono _ _
      | exact op_Encode.mono _ _
      | exact LeO.none _
      | refine LeO.ite ?_ ?_
      | refine LeO.bind ?_ (fun _ => ?_)
set_option maxHeartbeats 8000000 in
set_option maxRecDepth 100000 in
theorem colloquylaw07_OpCut.calls (k : Nat) (A0 : Option Addr) (c0 : Nat) (l0 : List (S47)) (a1 : Int) (r : Bool) (w : World) (hr0 : Kd.C k47 w A0 l0.length l0) (hc0 : l0.length ≤ c0) (hg : Go.Proofs.YthcbojpafamlcaaDoor.AsNum.GP w) (h : colloquylaw07_OpCut.f k l0 a1 = some r) :
    Calls Tryd.prog 5 #[.slice A0 l0.length c0, .int .i64 a1] w fun e w' => e = .returned (.bool r) ∧ Below w.heap.size w w' := by
  have hu26 := Tryd.underlying26
  have hu54 := Tryd.underlying54
  have HG := Aside0.mk hg
  clear hg
  have HR0 := Aside0.mk hr0
  have HC0 := Aside0.mk hc0
  clear hr0 hc0
  have HB := Aside0.mk (Below.refl w.heap.size w)
  have H : (if (l0.length : Int) > 600 then ((colloquylaw07_sure.f k).bind fun t212 => (some t212)) else ((colloquylaw07_giveOps.f k l0).bind fun t213 => ((op_Encode.f k t213).bind fun bt216 => (if bt216.2.isNone = true then (if (wrap64 ((bt216.1.length : Int) + 1)) = 0 then (none) else (if (Int.tmod a1 (wrap64 ((bt216.1.length : Int) + 1))) < 0 then (colloquylaw07_OpCut.j0 k l0 bt216.1 (wrap64 ((Int.tmod a1 (wrap64 ((bt216.1.length : Int) + 1))) + (wrap64 ((bt216.1.length : Int) + 1))))) else (colloquylaw07_OpCut.j0 k l0 bt216.1 (Int.tmod a1 (wrap64 ((bt216.1.length : Int) + 1)))))) else ((colloquylaw07_sure.f k).bind fun t252 => (some t252)))))) = some r := h
  clear h
  by_cases c3 : (l0.length : Int) > 600
  · rw [if_pos c3] at H
    have c3b0 : decide (600 < (l0.length : Int)) = true := decide_eq_true c3
    have c3b1 : decide (600 < l0.length) = true := decide_eq_true (by omega)
    clear c3
    replace H := Option.bind_eq_some_iff.mp H
    obtain ⟨t212, A40, H⟩ := H
    replace H : (some t212) = some r := H
    have A4 := Aside0.mk A40
    clear A40
    obtain rfl := Option.some.inj H
    go_enter Tryd.func5, Tryd.ntmps5
    try simp only [List.append_eq, List.cons_append, List.nil_append]
    go_wp2_with (first | ((with_reducible refine gate_callee (f := 7) rfl ?_); refine goesL_ (some 20) rfl rfl Tryd.func7 (by kernel_rfl) rfl #[] rfl (by (try simp only [List.map_toArray, List.map_cons, List.map_nil]); first | done | rfl | (simp only [List.length_drop, List.length_take]; rfl)) ?_; (with_reducible refine (colloquylaw07_sure.calls k  t212 _ ?side1 A4.out).mono ?_); (case side1 => exact HG.out.below (by repeat (first | (with_reducible first | exact HB.out | apply below_alloc | apply pw_below_drewN | apply below_drew1) | exact HB.out))); rintro e w5 ⟨rfl, hb⟩; refine ⟨_, rfl, ?_⟩; have n0_ := Aside0.mk (below_step (by repeat (first | (with_reducible first | exact HB.out | apply below_alloc | apply pw_below_drewN | apply below_drew1) | exact HB.out)) hb); clear HB; have HB := n0_; clear n0_; (try clear hb); (try clear hb2); (try clear hk); (try clear hi)))
    go_ret
    exact ⟨by first | rfl | (simp [errW_none, errW_some] <;> rfl) | (simp [*, errW_none, errW_some] <;> rfl), by repeat (first | (with_reducible first | exact HB.out | apply below_alloc | apply pw_below_drewN | apply below_drew1) | exact HB.out)⟩
  · rw [if_neg c3] at H
    have c3b0 : decide (600 < (l0.length : Int)) = false := decide_eq_false c3
    have c3b1 : decide (600 < l0.length) = false := decide_eq_false (by omega)
    clear c3
    replace H := Option.bind_eq_some_iff.mp H
    obtain ⟨t213, A60, H⟩ := H
    replace H : ((op_Encode.f k t213).bind fun bt216 => (if bt216.2.isNone = true then (if (wrap64 ((bt216.1.length : Int) + 1)) = 0 then (none) else (if (Int.tmod a1 (wrap64 ((bt216.1.length : Int) + 1))) < 0 then (colloquylaw07_OpCut.j0 k l0 bt216.1 (wrap64 ((Int.tmod a1 (wrap64 ((bt216.1.length : Int) + 1))) + (wrap64 ((bt216.1.length : Int) + 1))))) else (colloquylaw07_OpCut.j0 k l0 bt216.1 (Int.tmod a1 (wrap64 ((bt216.1.length : Int) + 1)))))) else ((colloquylaw07_sure.f k).bind fun t252 => (some t252)))) = some r := H
    have A6 := Aside0.mk A60
    clear A60
    replace H := Option.bind_eq_some_iff.mp H
    obtain ⟨⟨t216, t217⟩, A70, H⟩ := H
    replace H : (if t217.isNone = true then (if (wrap64 ((t216.length : Int) + 1)) = 0 then (none) else (if (Int.tmod a1 (wrap64 ((t216.length : Int) + 1))) < 0 then (colloquylaw07_OpCut.j0 k l0 t216 (wrap64 ((Int.tmod a1 (wrap64 ((t216.length : Int) + 1))) + (wrap64 ((t216.length : Int) + 1))))) else (colloquylaw07_OpCut.j0 k l0 t216 (Int.tmod a1 (wrap64 ((t216.length : Int) + 1)))))) else ((colloquylaw07_sure.f k).bind fun t252 => (some t252))) = some r := H
    have A7 := Aside0.mk A70
    clear A70
    rcases t217 with _ | q220
    · have H1 : (if (wrap64 ((t216.length : Int) + 1)) = 0 then (none) else (if (Int.tmod a1 (wrap64 ((t216.length : Int) + 1))) < 0 then (colloquylaw07_OpCut.j0 k l0 t216 (wrap64 ((Int.tmod a1 (wrap64 ((t216.length : Int) + 1))) + (wrap64 ((t216.length : Int) + 1))))) else (colloquylaw07_OpCut.j0 k l0 t216 (Int.tmod a1 (wrap64 ((t216.length : Int) + 1)))))) = some r := by rw [if_pos (show (none : Option Int).isNone = true by rfl)] at H; exact H
      clear H
      have H := H1
      clear H1
      try simp only [errW_none, errW_some]
      by_cases c8 : (wrap64 ((t216.length : Int) + 1)) = 0
      · rw [if_pos c8] at H
        exact absurd H (by simp)
      · rw [if_neg c8] at H
        have c8b0 : ((wrap64 ((t216.length : Int) + 1)) == 0) = false := beq_eq_false_iff_ne.mpr c8
        have c8b1 : ((wrap64 ((t216.length : Int) + 1)) != 0) = true := bne_iff_ne.mpr c8
        have HC9 := Aside0.mk H
        clear H
        go_enter Tryd.func5, Tryd.ntmps5
        try simp only [List.append_eq, List.cons_append, List.nil_append]
        go_upto_if 36 with (first | ((with_reducible refine gate_callee (f := 9) rfl ?_); refine goesL_ (some 23) rfl rfl Tryd.func9 (by kernel_rfl) rfl #[.slice A0 l0.length c0] rfl (by (try simp only [List.map_toArray, List.map_cons, List.map_nil]); first | done | rfl | (simp only [List.length_drop, List.length_take]; rfl)) ?_; (with_reducible refine (colloquylaw07_giveOps.calls k _ _ l0 t213 _ ?side1 ?side2 A6.out).mono ?_); (case side1 => repeat (first | exact HR0.out | (with_reducible refine Kd.C_alloc ?_ _) | (with_reducible refine Kd.C_drewN ?_ _) | (with_reducible refine Kd.C_drew ?_))); (case side2 => exact HC0.out); rintro e w10 ⟨v214, rfl, ho0, hb⟩; refine ⟨_, rfl, ?_⟩; have n0_ := Aside0.mk (Kd.R_lower ho0 (below_size (by repeat (first | (with_reducible first | exact HB.out | apply below_alloc | apply pw_below_drewN | apply below_drew1) | exact HB.out)))); have n1_ := Aside0.mk (below_step (by repeat (first | (with_reducible first | exact HB.out | apply below_alloc | apply pw_below_drewN | apply below_drew1) | exact HB.out)) hb); clear HB; have HO215 := n0_; have HB := n1_; clear n0_ n1_; (try clear hb); (try clear hb2); (try clear hk); (try clear hi); (try clear ho0); obtain ⟨Ao11, co11, eo11⟩ := Kd.R_slice HO215.out; subst eo11) | ((with_reducible refine gate_callee (f := 8) rfl ?_); refine goesL_ (some 24) rfl rfl Tryd.func8 (by kernel_rfl) rfl #[.slice Ao11 t213.length co11] rfl (by (try simp only [List.map_toArray, List.map_cons, List.map_nil]); first | done | rfl | (simp only [List.length_drop, List.length_take]; rfl)) ?_; (with_reducible refine (op_Encode.calls k _ _ t213 t216 none _ ?side1 ?side2 A7.out).mono ?_); (case side1 => repeat (first | exact (Kd.R_reads' HO215.out).2.2 | (with_reducible refine Kd.C_alloc ?_ _) | (with_reducible refine Kd.C_drewN ?_ _) | (with_reducible refine Kd.C_drew ?_))); (case side2 => exact (Kd.R_reads' HO215.out).2.1); rintro e w12 ⟨v218, rfl, ho0, hb⟩; refine ⟨_, rfl, ?_⟩; have n0_ := Aside0.mk (Kd.R_below (by (with_reducible repeat (first | apply Kd.R_alloc | apply Kd.R_drewN | apply Kd.R_drew)); exact HO215.out) hb); have n1_ := Aside0.mk (Kd.R_lower ho0 (below_size (by repeat (first | (with_reducible first | exact HB.out | apply below_alloc | apply pw_below_drewN | apply below_drew1) | exact HB.out)))); have n2_ := Aside0.mk (below_step (by repeat (first | (with_reducible first | exact HB.out | apply below_alloc | apply pw_below_drewN | apply below_drew1) | exact HB.out)) hb); clear HO215; clear HB; have HO215 := n0_; have HO219 := n1_; have HB := n2_; clear n0_ n1_ n2_; (try clear hb); (try clear hb2); (try clear hk); (try clear hi); (try clear ho0); (try simp only [errW_none, errW_some]); obtain ⟨Ao13, co13, eo13⟩ := Kd.R_slice HO219.out; subst eo13))
        (try simp only [Act.put, List.setIfInBounds_toArray, List.set_cons_zero, List.set_cons_succ])
        go_cut [7] (fun v7 wc => ∃ (kq : Nat) (x7_8 : Int), v7 = .int .i64 x7_8 ∧ Aside0 (colloquylaw07_OpCut.j0 kq l0 t216 x7_8 = some r) ∧ Aside0 (kq ≤ k) ∧ Aside0 (Kd.R (Kd.int .u8) 5 wc w.heap.size (fun _ => True) (.slice Ao13 t216.length co13) t216) ∧ Aside0 (Below w.heap.size w wc))
        case first =>
          have H := HC9.out
          clear HC9
          by_cases c14 : (Int.tmod a1 (wrap64 ((t216.length : Int) + 1))) < 0
          · rw [if_pos c14] at H
            have c14b0 : decide ((Int.tmod a1 (wrap64 ((t216.length : Int) + 1))) < 0) = true := decide_eq_true c14
            clear c14
            (first | rw [c14b0] | (simp only [i64_w, i32_w]; rw [c14b0]) | skip)
            have H' := Aside0.mk H
            clear H
            go_wp2
            go_meet
            case rel => exact ⟨_, (wrap64 ((Int.tmod a1 (wrap64 ((t216.length : Int) + 1))) + (wrap64 ((t216.length : Int) + 1)))), (by first | rfl | (simp; done) | (simp [*]; done)), H', ⟨by first | omega | exact Nat.le_refl _⟩, ⟨by (with_reducible repeat (first | apply Kd.R_alloc | apply Kd.R_drewN | apply Kd.R_drew)); exact HO219.out⟩, ⟨by repeat (first | (with_reducible first | exact HB.out | apply below_alloc | apply pw_below_drewN | apply below_drew1) | exact HB.out)⟩⟩
          · rw [if_neg c14] at H
            have c14b0 : decide ((Int.tmod a1 (wrap64 ((t216.length : Int) + 1))) < 0) = false := decide_eq_false c14
            clear c14
            (first | rw [c14b0] | (simp only [i64_w, i32_w]; rw [c14b0]) | skip)
            have H' := Aside0.mk H
            clear H
            go_wp2
            go_meet
            case rel => exact ⟨_, (Int.tmod a1 (wrap64 ((t216.length : Int) + 1))), (by first | rfl | (simp; done) | (simp [*]; done)), H', ⟨by first | omega | exact Nat.le_refl _⟩, ⟨by (with_reducible repeat (first | apply Kd.R_alloc | apply Kd.R_drewN | apply Kd.R_drew)); exact HO219.out⟩, ⟨by repeat (first | (with_reducible first | exact HB.out | apply below_alloc | apply pw_below_drewN | apply below_drew1) | exact HB.out)⟩⟩
        case rest =>
          clear HC9
          try clear c1
          try clear p2
          try clear q2
          try clear c3
          try clear c3b0
          try clear c3b1
          try clear c5
          try clear p6
          try clear c7
          try clear c8
          try clear c8b0
          try clear c8b1
          try clear c9
          try clear c14
          try clear c14b0
          try clear q220
          obtain ⟨kq, x7_8, rfl, HA, HJ8, HO_5, HB⟩ := hcut
          cases kq with
          | zero => exact absurd HA.out (by simp [colloquylaw07_OpCut.j0])
          | succ kj8 =>
            have H := HA.out
            clear HA
            simp only [colloquylaw07_OpCut.j0] at H
            replace H := Option.bind_eq_some_iff.mp H
            obtain ⟨⟨t221, t222, t223⟩, A150, H⟩ := H
            replace H : (if t223.isNone = true then (colloquylaw07_OpCut.j1 kj8 l0 t216 x7_8 t222 ((t222.length : Int) != (l0.length : Int))) else (colloquylaw07_OpCut.j1 kj8 l0 t216 x7_8 t222 true)) = some r := H
            have A15 := Aside0.mk A150
            clear A150
            have HC16 := Aside0.mk H
            clear H
            go_upto_region 10 with (first | ((with_reducible refine gate_callee (f := 11) rfl ?_); refine goesL_ (some 44) rfl rfl Tryd.func11 (by kernel_rfl) rfl #[.slice Ao13 t216.length co13] rfl (by (try simp only [List.map_toArray, List.map_cons, List.map_nil]); first | done | rfl | (simp only [List.length_drop, List.length_take]; rfl)) ?_; (with_reducible refine (op_Decode.calls kj8 _ _ t216 t221 t222 t223 _ ?side1 ?side2 A15.out).mono ?_); (case side1 => repeat (first | exact (Kd.R_reads' HO_5.out).2.2 | (with_reducible refine Kd.C_alloc ?_ _) | (with_reducible refine Kd.C_drewN ?_ _) | (with_reducible refine Kd.C_drew ?_))); (case side2 => exact (Kd.R_reads' HO_5.out).2.1); rintro e w17 ⟨v224, v226, rfl, ho0, ho1, hb⟩; refine ⟨_, rfl, ?_⟩; have n0_ := Aside0.mk (Kd.R_below (by (with_reducible repeat (first | apply Kd.R_alloc | apply Kd.R_drewN | apply Kd.R_drew)); exact HO_5.out) hb); have n1_ := Aside0.mk (Kd.R_lower ho0 (below_size (by repeat (first | (with_reducible first | exact HB.out | apply below_alloc | apply pw_below_drewN | apply below_drew1) | exact HB.out)))); have n2_ := Aside0.mk (Kd.R_lower ho1 (below_size (by repeat (first | (with_reducible first | exact HB.out | apply below_alloc | apply pw_below_drewN | apply below_drew1) | exact HB.out)))); have n3_ := Aside0.mk (below_step (by repeat (first | (with_reducible first | exact HB.out | apply below_alloc | apply pw_below_drewN | apply below_drew1) | exact HB.out)) hb); clear HO_5; clear HB; have HO_5 := n0_; have HO225 := n1_; have HO227 := n2_; have HB := n3_; clear n0_ n1_ n2_ n3_; (try clear hb); (try clear hb2); (try clear hk); (try clear hi); (try clear ho0); (try clear ho1); (try simp only [errW_none, errW_some])))
            (try simp only [Act.put, List.setIfInBounds_toArray, List.set_cons_zero, List.set_cons_succ])
            go_cut [56] (fun v56 wc => ∃ (kq : Nat) (x56_15 : Bool), v56 = .bool x56_15 ∧ Aside0 (colloquylaw07_OpCut.j1 kq l0 t216 x7_8 t222 x56_15 = some r) ∧ Aside0 (kq ≤ kj8) ∧ Aside0 (Kd.R (Kd.int .u8) 5 wc w.heap.size (fun _ => True) (.slice Ao13 t216.length co13) t216) ∧ Aside0 (Kd.R (Kd.int .i64) 3 wc w.heap.size (fun _ => True) v226 t222) ∧ Aside0 (Below w.heap.size w wc))
            case first =>
              have H := HC16.out
              clear HC16
              rcases t223 with _ | q228
              · have H1 : (colloquylaw07_OpCut.j1 kj8 l0 t216 x7_8 t222 ((t222.length : Int) != (l0.length : Int))) = some r := by rw [if_pos (show (none : Option Int).isNone = true by rfl)] at H; exact H
                clear H
                have H := H1
                clear H1
                try simp only [errW_none, errW_some]
                have H' := Aside0.mk H
                clear H
                obtain ⟨Ao18, co18, eo18⟩ := Kd.R_slice HO227.out
                subst eo18
                go_wp2
                go_meet
                case rel => exact ⟨_, (((t222.length : Int) != (l0.length : Int))), (by first | rfl | (simp; done) | (simp [*]; done)), H', ⟨by have := HJ8.out; first | omega | exact Nat.le_refl _⟩, ⟨by (with_reducible repeat (first | apply Kd.R_alloc | apply Kd.R_drewN | apply Kd.R_drew)); exact HO_5.out⟩, ⟨by (with_reducible repeat (first | apply Kd.R_alloc | apply Kd.R_drewN | apply Kd.R_drew)); exact HO227.out⟩, ⟨by repeat (first | (with_reducible first | exact HB.out | apply below_alloc | apply pw_below_drewN | apply below_drew1) | exact HB.out)⟩⟩
              · have H1 : (colloquylaw07_OpCut.j1 kj8 l0 t216 x7_8 t222 true) = some r := by rw [if_neg (show ¬ (some q228).isNone = true by simp)] at H; exact H
                clear H
                have H := H1
                clear H1
                try simp only [errW_none, errW_some]
                have H' := Aside0.mk H
                clear H
                go_wp2
                go_meet
                case rel => exact ⟨_, (true), (by first | rfl | (simp; done) | (simp [*]; done)), H', ⟨by have := HJ8.out; first | omega | exact Nat.le_refl _⟩, ⟨by (with_reducible repeat (first | apply Kd.R_alloc | apply Kd.R_drewN | apply Kd.R_drew)); exact HO_5.out⟩, ⟨by (with_reducible repeat (first | apply Kd.R_alloc | apply Kd.R_drewN | apply Kd.R_drew)); exact HO227.out⟩, ⟨by repeat (first | (with_reducible first | exact HB.out | apply below_alloc | apply pw_below_drewN | apply below_drew1) | exact HB.out)⟩⟩
            case rest =>
              clear HC16
              try clear c1
              try clear p2
              try clear q2
              try clear c3
              try clear c3b0
              try clear c3b1
              try clear c5
              try clear p6
              try clear c7
              try clear c8
              try clear c8b0
              try clear c8b1
              try clear c9
              try clear c11
              try clear c14
              try clear c14b0
              try clear p2
              try clear p6
              try clear q2
              try clear q220
              try clear q228
              obtain ⟨kq, x56_15, rfl, HA, HJ15, HO_5, HO_9, HB⟩ := hcut
              cases kq with
              | zero => exact absurd HA.out (by simp [colloquylaw07_OpCut.j1])
              | succ kj15 =>
                have H := HA.out
                clear HA
                simp only [colloquylaw07_OpCut.j1] at H
                by_cases c19 : x56_15 = true
                · subst c19
                  have H1 : (none) = some r := by rw [if_pos rfl] at H; exact H
                  clear H
                  have H := H1
                  clear H1
                  exact absurd H (by simp)
                · replace c19 := Bool.eq_false_iff.mpr c19
                  subst c19
                  have H1 : (colloquylaw07_OpCut.l0 kj15 l0 t216 x7_8 t222 0 (x7_8 == (t216.length : Int)) 0) = some r := by rw [if_neg (show ¬ (false = true) by decide)] at H; exact H
                  clear H
                  have H := H1
                  clear H1
                  have H' := Aside0.mk H
                  clear H
                  go_wp2
                  go_loopg [11, 12, 13] kj15 (fun kq v11 v12 v13 w' => ∃ (x11_3 : Int) (x12_3 : Bool) (x13_3 : Int), v11 = .int .i64 x11_3 ∧ v12 = .bool x12_3 ∧ v13 = .int .i64 x13_3 ∧ Aside0 (colloquylaw07_OpCut.l0 kq l0 t216 x7_8 t222 x11_3 x12_3 x13_3 = some r) ∧ Aside0 (kq ≤ kj15) ∧ Aside0 (Kd.R (Kd.int .u8) 5 w' w.heap.size (fun _ => True) (.slice Ao13 t216.length co13) t216) ∧ Aside0 (Kd.R (Kd.int .i64) 3 w' w.heap.size (fun _ => True) v226 t222) ∧ Aside0 (Below w.heap.size w w'))
                  case atStart => exact ⟨(0), ((x7_8 == (t216.length : Int))), (0), (by first | rfl | (simp; done) | (simp [*]; done)), (by first | rfl | (simp; done) | (simp [*]; done)), (by first | rfl | (simp; done) | (simp [*]; done)), H', ⟨Nat.le_refl _⟩, ⟨by (with_reducible repeat (first | apply Kd.R_alloc | apply Kd.R_drewN | apply Kd.R_drew)); exact HO_5.out⟩, ⟨by (with_reducible repeat (first | apply Kd.R_alloc | apply Kd.R_drewN | apply Kd.R_drew)); exact HO_9.out⟩, ⟨by repeat (first | (with_reducible first | exact HB.out | apply below_alloc | apply pw_below_drewN | apply below_drew1) | exact HB.out)⟩⟩
                  case round =>
                    clear H'
                    try clear c1
                    try clear p2
                    try clear q2
                    try clear c3
                    try clear c3b0
                    try clear c3b1
                    try clear c5
                    try clear p6
                    try clear c7
                    try clear c8
                    try clear c8b0
                    try clear c8b1
                    try clear c9
                    try clear c11
                    try clear c14
                    try clear c14b0
                    try clear c19
                    try clear p2
                    try clear p6
                    try clear q2
                    try clear q220
                    try clear q228
                    obtain ⟨x11_3, x12_3, x13_3, rfl, rfl, rfl, HA, HK3, HO_5, HO_9, HB⟩ := hrel
                    cases gk with
                    | zero => exact absurd HA.out (by simp [colloquylaw07_OpCut.l0])
                    | succ k3 =>
                      have H := HA.out
                      clear HA
                      simp only [colloquylaw07_OpCut.l0] at H
                      by_cases c20 : x13_3 < (t222.length : Int)
                      · rw [if_pos c20] at H
                        have c20b0 : decide (x13_3 < (t222.length : Int)) = true := decide_eq_true c20
                        clear c20
                        by_cases c21 : 0 ≤ x13_3
                        · rw [if_pos c21] at H
                          have c21b0 : decide (0 ≤ x13_3) = true := decide_eq_true c21
                          clear c21
                          by_cases c22 : (rd t222 x13_3) < x7_8
                          · rw [if_pos c22] at H
                            have c22b0 : decide ((rd t222 x13_3) < x7_8) = true := decide_eq_true c22
                            clear c22
                            by_cases c23 : x12_3 = true
                            · subst c23
                              have H1 : (colloquylaw07_OpCut.l0 k3 l0 t216 x7_8 t222 (wrap64 (x11_3 + 1)) true (wrap64 (x13_3 + 1))) = some r := by rw [if_pos rfl] at H; exact H
                              clear H
                              have H := H1
                              clear H1
                              have H' := Aside0.mk H
                              clear H
                              obtain ⟨Ao24, co24, eo24⟩ := Kd.R_slice HO_9.out
                              subst eo24
                              have p229 : 0 ≤ (x13_3 : Int) := of_decide_eq_true (by first | (with_reducible assumption) | assumption)
                              have q229 : x13_3 < (t222.length : Int) := of_decide_eq_true (by first | (with_reducible assumption) | assumption)
                              obtain ⟨ad229, e229, hx229_0⟩ := Kd.at_int (Kd.R_reads' HO_9.out).2.2 x13_3 p229 q229
                              cases e229
                              replace p229 := eq_true p229
                              replace q229 := eq_true q229
                              go_wp2
                              go_roundg k3
                              case measure => have := HJ8.out; have := HJ15.out; have := HK3.out; omega
                              case rel => exact ⟨(wrap64 (x11_3 + 1)), (true), (wrap64 (x13_3 + 1)), (by first | rfl | (simp; done) | (simp [*]; done)), (by first | rfl | (simp; done) | (simp [*]; done)), (by first | rfl | (simp; done) | (simp [*]; done)), H', ⟨by have := HJ8.out; have := HJ15.out; have := HK3.out; omega⟩, ⟨by (with_reducible repeat (first | apply Kd.R_alloc | apply Kd.R_drewN | apply Kd.R_drew)); exact HO_5.out⟩, ⟨by (with_reducible repeat (first | apply Kd.R_alloc | apply Kd.R_drewN | apply Kd.R_drew)); exact HO_9.out⟩, ⟨by repeat (first | (with_reducible first | exact HB.out | apply below_alloc | apply pw_below_drewN | apply below_drew1) | exact HB.out)⟩⟩
                            · replace c23 := Bool.eq_false_iff.mpr c23
                              subst c23
                              have H1 : (colloquylaw07_OpCut.l0 k3 l0 t216 x7_8 t222 (wrap64 (x11_3 + 1)) ((rd t222 x13_3) == x7_8) (wrap64 (x13_3 + 1))) = some r := by rw [if_neg (show ¬ (false = true) by decide)] at H; exact H
                              clear H
                              have H := H1
                              clear H1
                              have H' := Aside0.mk H
                              clear H
                              obtain ⟨Ao25, co25, eo25⟩ := Kd.R_slice HO_9.out
                              subst eo25
                              have p229 : 0 ≤ (x13_3 : Int) := of_decide_eq_true (by first | (with_reducible assumption) | assumption)
                              have q229 : x13_3 < (t222.length : Int) := of_decide_eq_true (by first | (with_reducible assumption) | assumption)
                              obtain ⟨ad229, e229, hx229_0⟩ := Kd.at_int (Kd.R_reads' HO_9.out).2.2 x13_3 p229 q229
                              cases e229
                              replace p229 := eq_true p229
                              replace q229 := eq_true q229
                              have p230 : 0 ≤ (x13_3 : Int) := of_decide_eq_true (by first | (with_reducible assumption) | assumption)
                              have q230 : x13_3 < (t222.length : Int) := of_decide_eq_true (by first | (with_reducible assumption) | assumption)
                              obtain ⟨ad230, e230, hx230_0⟩ := Kd.at_int (Kd.R_reads' HO_9.out).2.2 x13_3 p230 q230
                              obtain rfl : ad229 = ad230 := (by injection e230)
                              replace p230 := eq_true p230
                              replace q230 := eq_true q230
                              go_wp2
                              go_roundg k3
                              case measure => have := HJ8.out; have := HJ15.out; have := HK3.out; omega
                              case rel => exact ⟨(wrap64 (x11_3 + 1)), (((rd t222 x13_3) == x7_8)), (wrap64 (x13_3 + 1)), (by first | rfl | (simp; done) | (simp [*]; done)), (by first | rfl | (simp; done) | (simp [*]; done)), (by first | rfl | (simp; done) | (simp [*]; done)), H', ⟨by have := HJ8.out; have := HJ15.out; have := HK3.out; omega⟩, ⟨by (with_reducible repeat (first | apply Kd.R_alloc | apply Kd.R_drewN | apply Kd.R_drew)); exact HO_5.out⟩, ⟨by (with_reducible repeat (first | apply Kd.R_alloc | apply Kd.R_drewN | apply Kd.R_drew)); exact HO_9.out⟩, ⟨by repeat (first | (with_reducible first | exact HB.out | apply below_alloc | apply pw_below_drewN | apply below_drew1) | exact HB.out)⟩⟩
                          · rw [if_neg c22] at H
                            have c22b0 : decide ((rd t222 x13_3) < x7_8) = false := decide_eq_false c22
                            clear c22
                            by_cases c26 : x12_3 = true
                            · subst c26
                              have H1 : (colloquylaw07_OpCut.l0 k3 l0 t216 x7_8 t222 x11_3 true (wrap64 (x13_3 + 1))) = some r := by rw [if_pos rfl] at H; exact H
                              clear H
                              have H := H1
                              clear H1
                              have H' := Aside0.mk H
                              clear H
                              obtain ⟨Ao27, co27, eo27⟩ := Kd.R_slice HO_9.out
                              subst eo27
                              have p229 : 0 ≤ (x13_3 : Int) := of_decide_eq_true (by first | (with_reducible assumption) | assumption)
                              have q229 : x13_3 < (t222.length : Int) := of_decide_eq_true (by first | (with_reducible assumption) | assumption)
                              obtain ⟨ad229, e229, hx229_0⟩ := Kd.at_int (Kd.R_reads' HO_9.out).2.2 x13_3 p229 q229
                              cases e229
                              replace p229 := eq_true p229
                              replace q229 := eq_true q229
                              go_wp2
                              go_roundg k3
                              case measure => have := HJ8.out; have := HJ15.out; have := HK3.out; omega
                              case rel => exact ⟨(x11_3), (true), (wrap64 (x13_3 + 1)), (by first | rfl | (simp; done) | (simp [*]; done)), (by first | rfl | (simp; done) | (simp [*]; done)), (by first | rfl | (simp; done) | (simp [*]; done)), H', ⟨by have := HJ8.out; have := HJ15.out; have := HK3.out; omega⟩, ⟨by (with_reducible repeat (first | apply Kd.R_alloc | apply Kd.R_drewN | apply Kd.R_drew)); exact HO_5.out⟩, ⟨by (with_reducible repeat (first | apply Kd.R_alloc | apply Kd.R_drewN | apply Kd.R_drew)); exact HO_9.out⟩, ⟨by repeat (first | (with_reducible first | exact HB.out | apply below_alloc | apply pw_below_drewN | apply below_drew1) | exact HB.out)⟩⟩
                            · replace c26 := Bool.eq_false_iff.mpr c26
                              subst c26
                              have H1 : (colloquylaw07_OpCut.l0 k3 l0 t216 x7_8 t222 x11_3 ((rd t222 x13_3) == x7_8) (wrap64 (x13_3 + 1))) = some r := by rw [if_neg (show ¬ (false = true) by decide)] at H; exact H
                              clear H
                              have H := H1
                              clear H1
                              have H' := Aside0.mk H
                              clear H
                              obtain ⟨Ao28, co28, eo28⟩ := Kd.R_slice HO_9.out
                              subst eo28
                              have p229 : 0 ≤ (x13_3 : Int) := of_decide_eq_true (by first | (with_reducible assumption) | assumption)
                              have q229 : x13_3 < (t222.length : Int) := of_decide_eq_true (by first | (with_reducible assumption) | assumption)
                              obtain ⟨ad229, e229, hx229_0⟩ := Kd.at_int (Kd.R_reads' HO_9.out).2.2 x13_3 p229 q229
                              cases e229
                              replace p229 := eq_true p229
                              replace q229 := eq_true q229
                              have p231 : 0 ≤ (x13_3 : Int) := of_decide_eq_true (by first | (with_reducible assumption) | assumption)
                              have q231 : x13_3 < (t222.length : Int) := of_decide_eq_true (by first | (with_reducible assumption) | assumption)
                              obtain ⟨ad231, e231, hx231_0⟩ := Kd.at_int (Kd.R_reads' HO_9.out).2.2 x13_3 p231 q231
                              obtain rfl : ad229 = ad231 := (by injection e231)
                              replace p231 := eq_true p231
                              replace q231 := eq_true q231
                              go_wp2
                              go_roundg k3
                              case measure => have := HJ8.out; have := HJ15.out; have := HK3.out; omega
                              case rel => exact ⟨(x11_3), (((rd t222 x13_3) == x7_8)), (wrap64 (x13_3 + 1)), (by first | rfl | (simp; done) | (simp [*]; done)), (by first | rfl | (simp; done) | (simp [*]; done)), (by first | rfl | (simp; done) | (simp [*]; done)), H', ⟨by have := HJ8.out; have := HJ15.out; have := HK3.out; omega⟩, ⟨by (with_reducible repeat (first | apply Kd.R_alloc | apply Kd.R_drewN | apply Kd.R_drew)); exact HO_5.out⟩, ⟨by (with_reducible repeat (first | apply Kd.R_alloc | apply Kd.R_drewN | apply Kd.R_drew)); exact HO_9.out⟩, ⟨by repeat (first | (with_reducible first | exact HB.out | apply below_alloc | apply pw_below_drewN | apply below_drew1) | exact HB.out)⟩⟩
                        · rw [if_neg c21] at H
                          exact absurd H (by simp)
                      · rw [if_neg c20] at H
                        have c20b0 : decide (x13_3 < (t222.length : Int)) = false := decide_eq_false c20
                        clear c20
                        by_cases c29 : 0 ≤ x7_8
                        · rw [if_pos c29] at H
                          have c29b0 := eq_true c29
                          have c29b1 : decide (0 ≤ x7_8) = true := decide_eq_true c29
                          clear c29
                          by_cases c30 : x7_8 ≤ (t216.length : Int)
                          · rw [if_pos c30] at H
                            have c30b0 := eq_true c30
                            have c30b1 : decide (x7_8 ≤ (t216.length : Int)) = true := decide_eq_true c30
                            clear c30
                            obtain ⟨y232, hy232⟩ : ∃ y_ : List Int, y_ = (t216.take (x7_8 : Int).toNat) := ⟨_, rfl⟩
                            replace H : ((op_Decode.f k3 y232).bind fun bt236 => (if x12_3 = true then (if bt236.2.2.isNone = true then (if 0 ≤ x11_3 then (if x11_3 ≤ (l0.length : Int) then ((colloquylaw07_areOps.f k3 bt236.1 (l0.take (x11_3 : Int).toNat)).bind fun t248 => (if t248 = true then ((colloquylaw07_sure.f k3).bind fun t249 => (some t249)) else (none))) else (none)) else (none)) else (none)) else ((colloquylaw07_num.f bt236.2.2).bind fun t250 => (if t250 = 8 then (if (bt236.1.length : Int) = 0 then ((colloquylaw07_sure.f k3).bind fun t251 => (some t251)) else (none)) else (none))))) = some r := by first | (rw [hy232]; with_reducible exact H) | (have H2_ := (Option.bind_some _ _).symm.trans H; rw [hy232]; with_reducible exact H2_) | (have H2_ := (Option.bind_some _ _).symm.trans H; with_reducible exact H2_) | with_reducible exact H | (rw [hy232]; exact H) | exact H
                            have Ny232 := Aside0.mk hy232
                            clear hy232
                            replace H := Option.bind_eq_some_iff.mp H
                            obtain ⟨⟨t236, t237, t238⟩, A310, H⟩ := H
                            replace H : (if x12_3 = true then (if t238.isNone = true then (if 0 ≤ x11_3 then (if x11_3 ≤ (l0.length : Int) then ((colloquylaw07_areOps.f k3 t236 (l0.take (x11_3 : Int).toNat)).bind fun t248 => (if t248 = true then ((colloquylaw07_sure.f k3).bind fun t249 => (some t249)) else (none))) else (none)) else (none)) else (none)) else ((colloquylaw07_num.f t238).bind fun t250 => (if t250 = 8 then (if (t236.length : Int) = 0 then ((colloquylaw07_sure.f k3).bind fun t251 => (some t251)) else (none)) else (none)))) = some r := H
                            have A31 := Aside0.mk A310
                            clear A310
                            by_cases c32 : x12_3 = true
                            · subst c32
                              have H1 : (if t238.isNone = true then (if 0 ≤ x11_3 then (if x11_3 ≤ (l0.length : Int) then ((colloquylaw07_areOps.f k3 t236 (l0.take (x11_3 : Int).toNat)).bind fun t248 => (if t248 = true then ((colloquylaw07_sure.f k3).bind fun t249 => (some t249)) else (none))) else (none)) else (none)) else (none)) = some r := by rw [if_pos rfl] at H; exact H
                              clear H
                              have H := H1
                              clear H1
                              rcases t238 with _ | q243
                              · have H1 : (if 0 ≤ x11_3 then (if x11_3 ≤ (l0.length : Int) then ((colloquylaw07_areOps.f k3 t236 (l0.take (x11_3 : Int).toNat)).bind fun t248 => (if t248 = true then ((colloquylaw07_sure.f k3).bind fun t249 => (some t249)) else (none))) else (none)) else (none)) = some r := by rw [if_pos (show (none : Option Int).isNone = true by rfl)] at H; exact H
                                clear H
                                have H := H1
                                clear H1
                                try simp only [errW_none, errW_some]
                                by_cases c33 : 0 ≤ x11_3
                                · rw [if_pos c33] at H
                                  have c33b0 := eq_true c33
                                  have c33b1 : decide (0 ≤ x11_3) = true := decide_eq_true c33
                                  clear c33
                                  by_cases c34 : x11_3 ≤ (l0.length : Int)
                                  · rw [if_pos c34] at H
                                    have c34b0 := eq_true c34
                                    have c34b1 : decide (x11_3 ≤ (l0.length : Int)) = true := decide_eq_true c34
                                    clear c34
                                    obtain ⟨y244, hy244⟩ : ∃ y_ : List (S47), y_ = (l0.take (x11_3 : Int).toNat) := ⟨_, rfl⟩
                                    replace H : ((colloquylaw07_areOps.f k3 t236 y244).bind fun t248 => (if t248 = true then ((colloquylaw07_sure.f k3).bind fun t249 => (some t249)) else (none))) = some r := by first | (rw [hy244]; with_reducible exact H) | (have H2_ := (Option.bind_some _ _).symm.trans H; rw [hy244]; with_reducible exact H2_) | (have H2_ := (Option.bind_some _ _).symm.trans H; with_reducible exact H2_) | with_reducible exact H | (rw [hy244]; exact H) | exact H
                                    have Ny244 := Aside0.mk hy244
                                    clear hy244
                                    replace H := Option.bind_eq_some_iff.mp H
                                    obtain ⟨t248, A350, H⟩ := H
                                    replace H : (if t248 = true then ((colloquylaw07_sure.f k3).bind fun t249 => (some t249)) else (none)) = some r := H
                                    have A35 := Aside0.mk A350
                                    clear A350
                                    by_cases c36 : t248 = true
                                    · subst c36
                                      have H1 : ((colloquylaw07_sure.f k3).bind fun t249 => (some t249)) = some r := by rw [if_pos rfl] at H; exact H
                                      clear H
                                      have H := H1
                                      clear H1
                                      replace H := Option.bind_eq_some_iff.mp H
                                      obtain ⟨t249, A370, H⟩ := H
                                      replace H : (some t249) = some r := H
                                      have A37 := Aside0.mk A370
                                      clear A370
                                      obtain rfl := Option.some.inj H
                                      obtain ⟨Ao38, co38, eo38⟩ := Kd.R_slice HO_9.out
                                      subst eo38
                                      have q39 : (x7_8 : Int) ≤ ((t216.length : Int) : Int) := of_decide_eq_true (by first | (with_reducible assumption) | assumption)
                                      obtain ⟨i039, hi039, _, hsz39, _⟩ := info_parts info5
                                      have hroom39 : t216.length ≤ co13 := (Kd.R_reads' HO_5.out).2.1
                                      have hC39 : Kd.C (Kd.int .u8) _ Ao13 t216.length t216 := (Kd.R_reads' HO_5.out).2.2
                                      have hcut39 := cut_to (P := Tryd.prog) 23 5 .i64 Tryd.underlying23 hi039 Ao13 t216.length co13 x7_8 (of_decide_eq_true (by first | (with_reducible assumption) | assumption)) q39 hroom39
                                      have hr39 := Kd.C_take (m := (x7_8 : Int).toNat) hC39 (by omega)
                                      have hy39 : y232.length = (x7_8 : Int).toNat := (by rw [Ny232.out, List.length_take]; omega)
                                      rw [← Ny232.out] at hr39
                                      rw [← hy39] at hcut39
                                      have HR235 := Aside0.mk hr39
                                      have HC235 := Aside0.mk (show y232.length ≤ co13 from by omega)
                                      clear hr39 hC39 hroom39 hi039 hsz39
                                      have KY39 := Aside0.mk hy39
                                      clear hy39
                                      have KL39 := Aside0.mk (show (x7_8 : Int).toNat ≤ t216.length from by omega)
                                      replace q39 := eq_true q39
                                      go_wp2_with (first | ((with_reducible refine gate_callee (f := 11) rfl ?_); refine goesL_ (some 88) rfl rfl Tryd.func11 (by kernel_rfl) rfl #[.slice Ao13 y232.length co13] rfl (by (try simp only [List.map_toArray, List.map_cons, List.map_nil]); first | done | rfl | (simp only [List.length_drop, List.length_take]; rfl)) ?_; (with_reducible refine (op_Decode.calls k3 _ _ y232 t236 t237 none _ ?side1 ?side2 A31.out).mono ?_); (case side1 => repeat (first | exact (by repeat (first | (with_reducible exact HR235.out) | (with_reducible refine Kd.C_alloc ?_ _) | (with_reducible refine Kd.C_drewN ?_ _) | (with_reducible refine Kd.C_drew ?_) | exact HR235.out)) | (with_reducible refine Kd.C_alloc ?_ _) | (with_reducible refine Kd.C_drewN ?_ _) | (with_reducible refine Kd.C_drew ?_))); (case side2 => exact HC235.out); rintro e w40 ⟨v239, v241, rfl, ho0, ho1, hb⟩; refine ⟨_, rfl, ?_⟩; have n0_ := Aside0.mk (Kd.R_below (by (with_reducible repeat (first | apply Kd.R_alloc | apply Kd.R_drewN | apply Kd.R_drew)); exact HO_5.out) hb); have n1_ := Aside0.mk (Kd.R_elder' (by (with_reducible repeat (first | apply Kd.R_alloc | apply Kd.R_drewN | apply Kd.R_drew)); exact HO_9.out) (Kd.R_base ho1) hb); have n2_ := Aside0.mk (Kd.R_lower ho0 (below_size (by repeat (first | (with_reducible first | exact HB.out | apply below_alloc | apply pw_below_drewN | apply below_drew1) | exact HB.out)))); have n3_ := Aside0.mk (Kd.R_lower (Kd.R_new' ho1 (Kd.R_lt (by (with_reducible repeat (first | apply Kd.R_alloc | apply Kd.R_drewN | apply Kd.R_drew)); exact HO_9.out))) (below_size (by repeat (first | (with_reducible first | exact HB.out | apply below_alloc | apply pw_below_drewN | apply below_drew1) | exact HB.out)))); have n4_ := Aside0.mk (Kd.C_below (by repeat (first | (with_reducible exact HR235.out) | (with_reducible refine Kd.C_alloc ?_ _) | (with_reducible refine Kd.C_drewN ?_ _) | (with_reducible refine Kd.C_drew ?_) | exact HR235.out)) hb); have n5_ := Aside0.mk (below_step (by repeat (first | (with_reducible first | exact HB.out | apply below_alloc | apply pw_below_drewN | apply below_drew1) | exact HB.out)) hb); clear HO_5; clear HO_9; clear HR235; clear HB; have HO_5 := n0_; have HO_9 := n1_; have HO240 := n2_; have HO242 := n3_; have HR235 := n4_; have HB := n5_; clear n0_ n1_ n2_ n3_ n4_ n5_; (try clear hb); (try clear hb2); (try clear hk); (try clear hi); (try clear ho0); (try clear ho1); (try simp only [errW_none, errW_some]); have q41 : (x11_3 : Int) ≤ ((l0.length : Int) : Int) := of_decide_eq_true (by first | (with_reducible assumption) | assumption); obtain ⟨i041, hi041, _, hsz41, _⟩ := info_parts info47; have hroom41 : l0.length ≤ c0 := HC0.out; have hC41 : Kd.C k47 _ A0 l0.length l0 := HR0.out; have hcut41 := cut_to (P := Tryd.prog) 22 47 .i64 Tryd.underlying22 hi041 A0 l0.length c0 x11_3 (of_decide_eq_true (by first | (with_reducible assumption) | assumption)) q41 hroom41; have hr41 := Kd.C_take (m := (x11_3 : Int).toNat) hC41 (by omega); have hy41 : y244.length = (x11_3 : Int).toNat := (by rw [Ny244.out, List.length_take]; omega); rw [← Ny244.out] at hr41; rw [← hy41] at hcut41; have HR247 := Aside0.mk hr41; have HC247 := Aside0.mk (show y244.length ≤ c0 from by omega); clear hr41 hC41 hroom41 hi041 hsz41; have KY41 := Aside0.mk hy41; clear hy41; replace q41 := eq_true q41; obtain ⟨Ao42, co42, eo42⟩ := Kd.R_slice HO240.out; subst eo42) | (go_at_call 16; (with_reducible refine (colloquylaw07_areOps.calls k3 _ _ t236 _ _ y244 true _ ?side1 ?side2 ?side3 ?side4 A35.out).mono ?_); (case side1 => repeat (first | exact (Kd.R_reads' HO240.out).2.2 | (with_reducible refine Kd.C_alloc ?_ _) | (with_reducible refine Kd.C_drewN ?_ _) | (with_reducible refine Kd.C_drew ?_))); (case side2 => exact (Kd.R_reads' HO240.out).2.1); (case side3 => repeat (first | exact (Kd.C_below HR247.out HB.out) | (with_reducible refine Kd.C_alloc ?_ _) | (with_reducible refine Kd.C_drewN ?_ _) | (with_reducible refine Kd.C_drew ?_))); (case side4 => exact HC247.out); rintro e w43 ⟨rfl, hd_⟩; have hb := hd_.below; clear hd_; have n0_ := Aside0.mk (Kd.R_below (by (with_reducible repeat (first | apply Kd.R_alloc | apply Kd.R_drewN | apply Kd.R_drew)); exact HO_5.out) hb); have n1_ := Aside0.mk (Kd.R_below (by (with_reducible repeat (first | apply Kd.R_alloc | apply Kd.R_drewN | apply Kd.R_drew)); exact HO_9.out) hb); have n2_ := Aside0.mk (Kd.R_below (by (with_reducible repeat (first | apply Kd.R_alloc | apply Kd.R_drewN | apply Kd.R_drew)); exact HO240.out) hb); have n3_ := Aside0.mk (Kd.R_below (by (with_reducible repeat (first | apply Kd.R_alloc | apply Kd.R_drewN | apply Kd.R_drew)); exact HO242.out) hb); have n4_ := Aside0.mk (Kd.C_below (by repeat (first | (with_reducible exact HR235.out) | (with_reducible refine Kd.C_alloc ?_ _) | (with_reducible refine Kd.C_drewN ?_ _) | (with_reducible refine Kd.C_drew ?_) | exact HR235.out)) hb); have n5_ := Aside0.mk (below_step (by repeat (first | (with_reducible first | exact HB.out | apply below_alloc | apply pw_below_drewN | apply below_drew1) | exact HB.out)) hb); clear HO_5; clear HO_9; clear HO240; clear HO242; clear HR235; clear HB; have HO_5 := n0_; have HO_9 := n1_; have HO240 := n2_; have HO242 := n3_; have HR235 := n4_; have HB := n5_; clear n0_ n1_ n2_ n3_ n4_ n5_; (try clear hb); (try clear hb2); (try clear hk); (try clear hi)) | (go_at_call 7; (with_reducible refine (colloquylaw07_sure.calls k3  t249 _ ?side1 A37.out).mono ?_); (case side1 => exact HG.out.below (by repeat (first | (with_reducible first | exact HB.out | apply below_alloc | apply pw_below_drewN | apply below_drew1) | exact HB.out))); rintro e w44 ⟨rfl, hb⟩; have n0_ := Aside0.mk (Kd.R_below (by (with_reducible repeat (first | apply Kd.R_alloc | apply Kd.R_drewN | apply Kd.R_drew)); exact HO_5.out) hb); have n1_ := Aside0.mk (Kd.R_below (by (with_reducible repeat (first | apply Kd.R_alloc | apply Kd.R_drewN | apply Kd.R_drew)); exact HO_9.out) hb); have n2_ := Aside0.mk (Kd.R_below (by (with_reducible repeat (first | apply Kd.R_alloc | apply Kd.R_drewN | apply Kd.R_drew)); exact HO240.out) hb); have n3_ := Aside0.mk (Kd.R_below (by (with_reducible repeat (first | apply Kd.R_alloc | apply Kd.R_drewN | apply Kd.R_drew)); exact HO242.out) hb); have n4_ := Aside0.mk (Kd.C_below (by repeat (first | (with_reducible exact HR235.out) | (with_reducible refine Kd.C_alloc ?_ _) | (with_reducible refine Kd.C_drewN ?_ _) | (with_reducible refine Kd.C_drew ?_) | exact HR235.out)) hb); have n5_ := Aside0.mk (below_step (by repeat (first | (with_reducible first | exact HB.out | apply below_alloc | apply pw_below_drewN | apply below_drew1) | exact HB.out)) hb); clear HO_5; clear HO_9; clear HO240; clear HO242; clear HR235; clear HB; have HO_5 := n0_; have HO_9 := n1_; have HO240 := n2_; have HO242 := n3_; have HR235 := n4_; have HB := n5_; clear n0_ n1_ n2_ n3_ n4_ n5_; (try clear hb); (try clear hb2); (try clear hk); (try clear hi)))
                                      go_ret
                                      exact ⟨by first | rfl | (simp [errW_none, errW_some] <;> rfl) | (simp [*, errW_none, errW_some] <;> rfl), by repeat (first | (with_reducible first | exact HB.out | apply below_alloc | apply pw_below_drewN | apply below_drew1) | exact HB.out)⟩
                                    · replace c36 := Bool.eq_false_iff.mpr c36
                                      subst c36
                                      have H1 : (none) = some r := by rw [if_neg (show ¬ (false = true) by decide)] at H; exact H
                                      clear H
                                      have H := H1
                                      clear H1
                                      exact absurd H (by simp)
                                  · rw [if_neg c34] at H
                                    exact absurd H (by simp)
                                · rw [if_neg c33] at H
                                  exact absurd H (by simp)
                              · have H1 : (none) = some r := by rw [if_neg (show ¬ (some q243).isNone = true by simp)] at H; exact H
                                clear H
                                have H := H1
                                clear H1
                                try simp only [errW_none, errW_some]
                                exact absurd H (by simp)
                            · replace c32 := Bool.eq_false_iff.mpr c32
                              subst c32
                              have H1 : ((colloquylaw07_num.f t238).bind fun t250 => (if t250 = 8 then (if (t236.length : Int) = 0 then ((colloquylaw07_sure.f k3).bind fun t251 => (some t251)) else (none)) else (none))) = some r := by rw [if_neg (show ¬ (false = true) by decide)] at H; exact H
                              clear H
                              have H := H1
                              clear H1
                              replace H := Option.bind_eq_some_iff.mp H
                              obtain ⟨t250, A450, H⟩ := H
                              replace H : (if t250 = 8 then (if (t236.length : Int) = 0 then ((colloquylaw07_sure.f k3).bind fun t251 => (some t251)) else (none)) else (none)) = some r := H
                              have A45 := Aside0.mk A450
                              clear A450
                              by_cases c46 : t250 = 8
                              · rw [if_pos c46] at H
                                have c46b0 : (t250 == 8) = true := beq_iff_eq.mpr c46
                                have c46b1 : (t250 != 8) = false := bne_eq_false_iff_eq.mpr c46
                                clear c46
                                by_cases c47 : (t236.length : Int) = 0
                                · rw [if_pos c47] at H
                                  have c47b0 : ((t236.length : Int) == 0) = true := beq_iff_eq.mpr c47
                                  have c47b1 : ((t236.length : Int) != 0) = false := bne_eq_false_iff_eq.mpr c47
                                  clear c47
                                  replace H := Option.bind_eq_some_iff.mp H
                                  obtain ⟨t251, A480, H⟩ := H
                                  replace H : (some t251) = some r := H
                                  have A48 := Aside0.mk A480
                                  clear A480
                                  obtain rfl := Option.some.inj H
                                  obtain ⟨Ao49, co49, eo49⟩ := Kd.R_slice HO_9.out
                                  subst eo49
                                  have q50 : (x7_8 : Int) ≤ ((t216.length : Int) : Int) := of_decide_eq_true (by first | (with_reducible assumption) | assumption)
                                  obtain ⟨i050, hi050, _, hsz50, _⟩ := info_parts info5
                                  have hroom50 : t216.length ≤ co13 := (Kd.R_reads' HO_5.out).2.1
                                  have hC50 : Kd.C (Kd.int .u8) _ Ao13 t216.length t216 := (Kd.R_reads' HO_5.out).2.2
                                  have hcut50 := cut_to (P := Tryd.prog) 23 5 .i64 Tryd.underlying23 hi050 Ao13 t216.length co13 x7_8 (of_decide_eq_true (by first | (with_reducible assumption) | assumption)) q50 hroom50
                                  have hr50 := Kd.C_take (m := (x7_8 : Int).toNat) hC50 (by omega)
                                  have hy50 : y232.length = (x7_8 : Int).toNat := (by rw [Ny232.out, List.length_take]; omega)
                                  rw [← Ny232.out] at hr50
                                  rw [← hy50] at hcut50
                                  have HR235 := Aside0.mk hr50
                                  have HC235 := Aside0.mk (show y232.length ≤ co13 from by omega)
                                  clear hr50 hC50 hroom50 hi050 hsz50
                                  have KY50 := Aside0.mk hy50
                                  clear hy50
                                  have KL50 := Aside0.mk (show (x7_8 : Int).toNat ≤ t216.length from by omega)
                                  replace q50 := eq_true q50
                                  go_wp2_with (first | ((with_reducible refine gate_callee (f := 11) rfl ?_); refine goesL_ (some 88) rfl rfl Tryd.func11 (by kernel_rfl) rfl #[.slice Ao13 y232.length co13] rfl (by (try simp only [List.map_toArray, List.map_cons, List.map_nil]); first | done | rfl | (simp only [List.length_drop, List.length_take]; rfl)) ?_; (with_reducible refine (op_Decode.calls k3 _ _ y232 t236 t237 t238 _ ?side1 ?side2 A31.out).mono ?_); (case side1 => repeat (first | exact (by repeat (first | (with_reducible exact HR235.out) | (with_reducible refine Kd.C_alloc ?_ _) | (with_reducible refine Kd.C_drewN ?_ _) | (with_reducible refine Kd.C_drew ?_) | exact HR235.out)) | (with_reducible refine Kd.C_alloc ?_ _) | (with_reducible refine Kd.C_drewN ?_ _) | (with_reducible refine Kd.C_drew ?_))); (case side2 => exact HC235.out); rintro e w51 ⟨v239, v241, rfl, ho0, ho1, hb⟩; refine ⟨_, rfl, ?_⟩; have n0_ := Aside0.mk (Kd.R_below (by (with_reducible repeat (first | apply Kd.R_alloc | apply Kd.R_drewN | apply Kd.R_drew)); exact HO_5.out) hb); have n1_ := Aside0.mk (Kd.R_elder' (by (with_reducible repeat (first | apply Kd.R_alloc | apply Kd.R_drewN | apply Kd.R_drew)); exact HO_9.out) (Kd.R_base ho1) hb); have n2_ := Aside0.mk (Kd.R_lower ho0 (below_size (by repeat (first | (with_reducible first | exact HB.out | apply below_alloc | apply pw_below_drewN | apply below_drew1) | exact HB.out)))); have n3_ := Aside0.mk (Kd.R_lower (Kd.R_new' ho1 (Kd.R_lt (by (with_reducible repeat (first | apply Kd.R_alloc | apply Kd.R_drewN | apply Kd.R_drew)); exact HO_9.out))) (below_size (by repeat (first | (with_reducible first | exact HB.out | apply below_alloc | apply pw_below_drewN | apply below_drew1) | exact HB.out)))); have n4_ := Aside0.mk (Kd.C_below (by repeat (first | (with_reducible exact HR235.out) | (with_reducible refine Kd.C_alloc ?_ _) | (with_reducible refine Kd.C_drewN ?_ _) | (with_reducible refine Kd.C_drew ?_) | exact HR235.out)) hb); have n5_ := Aside0.mk (below_step (by repeat (first | (with_reducible first | exact HB.out | apply below_alloc | apply pw_below_drewN | apply below_drew1) | exact HB.out)) hb); clear HO_5; clear HO_9; clear HR235; clear HB; have HO_5 := n0_; have HO_9 := n1_; have HO240 := n2_; have HO242 := n3_; have HR235 := n4_; have HB := n5_; clear n0_ n1_ n2_ n3_ n4_ n5_; (try clear hb); (try clear hb2); (try clear hk); (try clear hi); (try clear ho0); (try clear ho1); (try simp only [errW_none, errW_some]); have CA45 := fun W hg_ => colloquylaw07_num.calls t238 t250 W hg_ A45.out; try simp only [errW_none, errW_some] at CA45) | (go_at_call 15; (with_reducible refine (CA45 _ ?side1).mono ?_); (case side1 => exact HG.out.below (by repeat (first | (with_reducible first | exact HB.out | apply below_alloc | apply pw_below_drewN | apply below_drew1) | exact HB.out))); rintro e w52 ⟨rfl, hb⟩; have n0_ := Aside0.mk (Kd.R_below (by (with_reducible repeat (first | apply Kd.R_alloc | apply Kd.R_drewN | apply Kd.R_drew)); exact HO_5.out) hb); have n1_ := Aside0.mk (Kd.R_below (by (with_reducible repeat (first | apply Kd.R_alloc | apply Kd.R_drewN | apply Kd.R_drew)); exact HO_9.out) hb); have n2_ := Aside0.mk (Kd.R_below (by (with_reducible repeat (first | apply Kd.R_alloc | apply Kd.R_drewN | apply Kd.R_drew)); exact HO240.out) hb); have n3_ := Aside0.mk (Kd.R_below (by (with_reducible repeat (first | apply Kd.R_alloc | apply Kd.R_drewN | apply Kd.R_drew)); exact HO242.out) hb); have n4_ := Aside0.mk (Kd.C_below (by repeat (first | (with_reducible exact HR235.out) | (with_reducible refine Kd.C_alloc ?_ _) | (with_reducible refine Kd.C_drewN ?_ _) | (with_reducible refine Kd.C_drew ?_) | exact HR235.out)) hb); have n5_ := Aside0.mk (below_step (by repeat (first | (with_reducible first | exact HB.out | apply below_alloc | apply pw_below_drewN | apply below_drew1) | exact HB.out)) hb); clear HO_5; clear HO_9; clear HO240; clear HO242; clear HR235; clear HB; have HO_5 := n0_; have HO_9 := n1_; have HO240 := n2_; have HO242 := n3_; have HR235 := n4_; have HB := n5_; clear n0_ n1_ n2_ n3_ n4_ n5_; (try clear hb); (try clear hb2); (try clear hk); (try clear hi); obtain ⟨Ao53, co53, eo53⟩ := Kd.R_slice HO240.out; subst eo53) | (go_at_call 7; (with_reducible refine (colloquylaw07_sure.calls k3  t251 _ ?side1 A48.out).mono ?_); (case side1 => exact HG.out.below (by repeat (first | (with_reducible first | exact HB.out | apply below_alloc | apply pw_below_drewN | apply below_drew1) | exact HB.out))); rintro e w54 ⟨rfl, hb⟩; have n0_ := Aside0.mk (Kd.R_below (by (with_reducible repeat (first | apply Kd.R_alloc | apply Kd.R_drewN | apply Kd.R_drew)); exact HO_5.out) hb); have n1_ := Aside0.mk (Kd.R_below (by (with_reducible repeat (first | apply Kd.R_alloc | apply Kd.R_drewN | apply Kd.R_drew)); exact HO_9.out) hb); have n2_ := Aside0.mk (Kd.R_below (by (with_reducible repeat (first | apply Kd.R_alloc | apply Kd.R_drewN | apply Kd.R_drew)); exact HO240.out) hb); have n3_ := Aside0.mk (Kd.R_below (by (with_reducible repeat (first | apply Kd.R_alloc | apply Kd.R_drewN | apply Kd.R_drew)); exact HO242.out) hb); have n4_ := Aside0.mk (Kd.C_below (by repeat (first | (with_reducible exact HR235.out) | (with_reducible refine Kd.C_alloc ?_ _) | (with_reducible refine Kd.C_drewN ?_ _) | (with_reducible refine Kd.C_drew ?_) | exact HR235.out)) hb); have n5_ := Aside0.mk (below_step (by repeat (first | (with_reducible first | exact HB.out | apply below_alloc | apply pw_below_drewN | apply below_drew1) | exact HB.out)) hb); clear HO_5; clear HO_9; clear HO240; clear HO242; clear HR235; clear HB; have HO_5 := n0_; have HO_9 := n1_; have HO240 := n2_; have HO242 := n3_; have HR235 := n4_; have HB := n5_; clear n0_ n1_ n2_ n3_ n4_ n5_; (try clear hb); (try clear hb2); (try clear hk); (try clear hi)))
                                  go_ret
                                  exact ⟨by first | rfl | (simp [errW_none, errW_some] <;> rfl) | (simp [*, errW_none, errW_some] <;> rfl), by repeat (first | (with_reducible first | exact HB.out | apply below_alloc | apply pw_below_drewN | apply below_drew1) | exact HB.out)⟩
                                · rw [if_neg c47] at H
                                  exact absurd H (by simp)
                              · rw [if_neg c46] at H
                                exact absurd H (by simp)
                          · rw [if_neg c30] at H
                            exact absurd H (by simp)
                        · rw [if_neg c29] at H
                          exact absurd H (by simp)
    · have H1 : ((colloquylaw07_sure.f k).bind fun t252 => (some t252)) = some r := by rw [if_neg (show ¬ (some q220).isNone = true by simp)] at H; exact H
      clear H
      have H := H1
      clear H1
      try simp only [errW_none, errW_some]
      replace H := Option.bind_eq_some_iff.mp H
      obtain ⟨t252, A550, H⟩ := H
      replace H : (some t252) = some r := H
      have A55 := Aside0.mk A550
      clear A550
      obtain rfl := Option.some.inj H
      go_enter Tryd.func5, Tryd.ntmps5
      try simp only [List.append_eq, List.cons_append, List.nil_append]
      go_wp2_with (first | ((with_reducible refine gate_callee (f := 9) rfl ?_); refine goesL_ (some 23) rfl rfl Tryd.func9 (by kernel_rfl) rfl #[.slice A0 l0.length c0] rfl (by (try simp only [List.map_toArray, List.map_cons, List.map_nil]); first | done | rfl | (simp only [List.length_drop, List.length_take]; rfl)) ?_; (with_reducible refine (colloquylaw07_giveOps.calls k _ _ l0 t213 _ ?side1 ?side2 A6.out).mono ?_); (case side1 => repeat (first | exact HR0.out | (with_reducible refine Kd.C_alloc ?_ _) | (with_reducible refine Kd.C_drewN ?_ _) | (with_reducible refine Kd.C_drew ?_))); (case side2 => exact HC0.out); rintro e w56 ⟨v214, rfl, ho0, hb⟩; refine ⟨_, rfl, ?_⟩; have n0_ := Aside0.mk (Kd.R_lower ho0 (below_size (by repeat (first | (with_reducible first | exact HB.out | apply below_alloc | apply pw_below_drewN | apply below_drew1) | exact HB.out)))); have n1_ := Aside0.mk (below_step (by repeat (first | (with_reducible first | exact HB.out | apply below_alloc | apply pw_below_drewN | apply below_drew1) | exact HB.out)) hb); clear HB; have HO215 := n0_; have HB := n1_; clear n0_ n1_; (try clear hb); (try clear hb2); (try clear hk); (try clear hi); (try clear ho0); obtain ⟨Ao57, co57, eo57⟩ := Kd.R_slice HO215.out; subst eo57) | ((with_reducible refine gate_callee (f := 8) rfl ?_); refine goesL_ (some 24) rfl rfl Tryd.func8 (by kernel_rfl) rfl #[.slice Ao57 t213.length co57] rfl (by (try simp only [List.map_toArray, List.map_cons, List.map_nil]); first | done | rfl | (simp only [List.length_drop, List.length_take]; rfl)) ?_; (with_reducible refine (op_Encode.calls k _ _ t213 t216 (some q220) _ ?side1 ?side2 A7.out).mono ?_); (case side1 => repeat (first | exact (Kd.R_reads' HO215.out).2.2 | (with_reducible refine Kd.C_alloc ?_ _) | (with_reducible refine Kd.C_drewN ?_ _) | (with_reducible refine Kd.C_drew ?_))); (case side2 => exact (Kd.R_reads' HO215.out).2.1); rintro e w58 ⟨v218, rfl, ho0, hb⟩; refine ⟨_, rfl, ?_⟩; have n0_ := Aside0.mk (Kd.R_below (by (with_reducible repeat (first | apply Kd.R_alloc | apply Kd.R_drewN | apply Kd.R_drew)); exact HO215.out) hb); have n1_ := Aside0.mk (Kd.R_lower ho0 (below_size (by repeat (first | (with_reducible first | exact HB.out | apply below_alloc | apply pw_below_drewN | apply below_drew1) | exact HB.out)))); have n2_ := Aside0.mk (below_step (by repeat (first | (with_reducible first | exact HB.out | apply below_alloc | apply pw_below_drewN | apply below_drew1) | exact HB.out)) hb); clear HO215; clear HB; have HO215 := n0_; have HO219 := n1_; have HB := n2_; clear n0_ n1_ n2_; (try clear hb); (try clear hb2); (try clear hk); (try clear hi); (try clear ho0); (try simp only [errW_none, errW_some])) | ((with_reducible refine gate_callee (f := 7) rfl ?_); refine goesL_ (some 29) rfl rfl Tryd.func7 (by kernel_rfl) rfl #[] rfl (by (try simp only [List.map_toArray, List.map_cons, List.map_nil]); first | done | rfl | (simp only [List.length_drop, List.length_take]; rfl)) ?_; (with_reducible refine (colloquylaw07_sure.calls k  t252 _ ?side1 A55.out).mono ?_); (case side1 => exact HG.out.below (by repeat (first | (with_reducible first | exact HB.out | apply below_alloc | apply pw_below_drewN | apply below_drew1) | exact HB.out))); rintro e w59 ⟨rfl, hb⟩; refine ⟨_, rfl, ?_⟩; have n0_ := Aside0.mk (Kd.R_below (by (with_reducible repeat (first | apply Kd.R_alloc | apply Kd.R_drewN | apply Kd.R_drew)); exact HO215.out) hb); have n1_ := Aside0.mk (Kd.R_below (by (with_reducible repeat (first | apply Kd.R_alloc | apply Kd.R_drewN | apply Kd.R_drew)); exact HO219.out) hb); have n2_ := Aside0.mk (below_step (by repeat (first | (with_reducible first | exact HB.out | apply below_alloc | apply pw_below_drewN | apply below_drew1) | exact HB.out)) hb); clear HO215; clear HO219; clear HB; have HO215 := n0_; have HO219 := n1_; have HB := n2_; clear n0_ n1_ n2_; (try clear hb); (try clear hb2); (try clear hk); (try clear hi)))
      go_ret
      exact ⟨by first | rfl | (simp [errW_none, errW_some] <;> rfl) | (simp [*, errW_none, errW_some] <;> rfl), by repeat (first | (with_reducible first | exact HB.out | apply below_alloc | apply pw_below_drewN | apply below_drew1) | exact HB.out)⟩

/-- THE ONE PURE STATEMENT of colloquylaw07_OpCut: yours. -/
def colloquylaw07_OpCut.Pure : Prop := ∀ (l0 : List (S47)) (a1 : Int), l0.length ≤ maxLen → (∀ y_ ∈ l0, ((Lit.int .u8 y_.f0).wf = true) ∧ ((Lit.int .i64 y_.f1).wf = true) ∧ ((Lit.int .i64 y_.f2).wf = true)) → (Lit.int .i64 a1).wf = true → ∃ k, colloquylaw07_OpCut.f k l0 a1 = some true
theorem colloquylaw07_OpCut.walk (P : colloquylaw07_OpCut.Pure) (A0 : Option Addr) (c0 : Nat) (l0 : List (S47)) (a1 : Int) (w : World) (hg : Go.Proofs.YthcbojpafamlcaaDoor.AsNum.GP w) (hr0 : Kd.C k47 w A0 l0.length l0) (hc0 : l0.length ≤ c0) (m0 : l0.length ≤ maxLen) (e0 : ∀ y_ ∈ l0, ((Lit.int .u8 y_.f0).wf = true) ∧ ((Lit.int .i64 y_.f1).wf = true) ∧ ((Lit.int .i64 y_.f2).wf = true)) (w1 : (Lit.int .i64 a1).wf = true) :
    Calls Tryd.prog 5 #[.slice A0 l0.length c0, .int .i64 a1] w fun e w' => e = .returned (.bool true) ∧ Below w.heap.size w w' := by
  obtain ⟨k, h⟩ := P l0 a1 m0 e0 w1
  refine (colloquylaw07_OpCut.calls k A0 c0 l0 a1 true w hr0 hc0 hg h).mono ?_
  rintro e w' ⟨rfl, hd⟩
  exact ⟨rfl, hd⟩

end Go.Proofs.YthcbojpafamlcaaDoor.POpCut
