/- The functions that the law reaches, as plain functions of lists and numbers, and that a call of the Go code comes to just their answers; laid by this repo's own program over the seat's translation. Conditions: each contract's own premises. -/
import Derived.Test.YtachjpkpgbofaaaDoorPSumTellsx0
import Derived.Test.YtachjpkpgbofaaaDoorPSumTellsx1
import Derived.Test.YtachjpkpgbofaaaDoorPSumTellsx2
namespace Go.Proofs.YtachjpkpgbofaaaDoor.PSumTells
open Go.RowKit Go.Proofs.YtachjpkpgbofaaaDoorW.PrintWords Go.Proofs.YtachjpkpgbofaaaDoorW.PrintLast Go.Proofs.YtachjpkpgbofaaaDoorW.PrintMore
attribute [local go_sem] max2_int min2_int max_two min_two max_three min_three max_four min_four   -- for this text's walks alone
set_option linter.unusedVariables false
set_option linter.unusedSimpArgs false

/-! ### colloquylaw05_SumTells: function 3 -/
def colloquylaw05_SumTells.f (k : Nat) (l0 : List Int) (l1 : List Int) : Option (Bool) := if (wrap64 ((l0.length : Int) + (l1.length : Int))) > 600 then ((colloquylaw05_sure.f).bind fun t154 => (some t154)) else ((some (([] : List Int) : List Int)).bind fun y155 => (if y155.length + l0.length < 140737488355328 then ((some (y155 ++ l0 : List Int)).bind fun y158 => (if y158.length + l1.length < 140737488355328 then ((some (y158 ++ l1 : List Int)).bind fun y161 => ((sum_Open.f k l1).bind fun bt164 => ((colloquyref05_Open.f k l1).bind fun bt168 => ((sum_Of.f (([y161] : List (List Int)))).bind fun t175 => ((colloquyref05_Of.f k y161).bind fun t176 => (if t175 = t176 then ((sum_Of.f (([l0, l1] : List (List Int)))).bind fun t180 => ((colloquyref05_Of.f k y161).bind fun t181 => (if t180 = t181 then ((sum_Seal.f l0).bind fun t182 => ((colloquyref05_Seal.f k l0).bind fun t185 => (if (strOfNums t182).toList = (strOfNums t185).toList then (if (strOfNums bt164.1).toList = (strOfNums bt168.1).toList then ((colloquylaw05_num.f bt164.2).bind fun t188 => (if t188 = bt168.2 then ((colloquylaw05_sure.f).bind fun t189 => (some t189)) else (none))) else (none)) else (none)))) else (none)))) else (none))))))) else (none))) else (none)))
theorem colloquylaw05_SumTells.mono : ∀ a0 a1 k, LeO (colloquylaw05_SumTells.f k a0 a1) (colloquylaw05_SumTells.f (k + 1) a0 a1) := by
 intro a0 a1 k
 unfold colloquylaw05_SumTells.f
 repeat' first
   | (with_reducible exact colloquyref05_Of.mono _ _)
   | (with_reducible exact colloquyref05_Open.mono _ _)
   | (with_reducible exact colloquyref05_Seal.mono _ _)
   | (with_reducible exact sum_Open.mono _ _)
   | (with_reducible exact LeO.refl _)
   | (with_reducible exact LeO.none _)
   | (with_reducible refine LeO.ite ?_ ?_)
   | (with_reducible refine LeO.bind ?_ (fun _ => ?_))
   | exact colloquyref05_Of.mono _ _
   | exact colloquyref05_Open.mono _ _
   | exact colloquyref05_Seal.mono _ _
   | exact sum_Open.mono _ _
   | exact LeO.none _
   | refine LeO.ite ?_ ?_
   | refine LeO.bind ?_ (fun _ => ?_)
def colloquylaw05_SumTells.T6 : Bool × List (List Nat × List Nat) := (true, [([], []), ([0], [0]), ([1], [1]), ([], []), ([3, 2], [3]), ([2, 4], [2, 4]), ([5, 4], [5]), ([6], [6]), ([6], [6]), ([7, 8, 6], [6, 7, 8]), ([9, 6, 6], [6, 9]), ([6], [6]), ([11, 10, 6], [6, 11]), ([10, 12, 6], [6, 10, 12]), ([6, 13], [6, 13]), ([14, 12], [14]), ([15], [15]), ([16, 15, 15], [15, 16]), ([17, 15], [15, 17]), ([15], [15]), ([19, 17, 15], [15, 19]), ([20, 15], [15, 20]), ([18, 21, 15], [15, 18, 21]), ([15, 22], [15, 22]), ([23, 20], [23]), ([24], [24]), ([25, 24], [24, 25]), ([24], [24]), ([27, 24], [24, 27]), ([26, 28, 24], [24, 26, 28]), ([24, 29], [24, 29]), ([30, 24], [30]), ([31], [31]), ([32, 31, 31], [31, 32]), ([31], [31]), ([33, 34, 31], [31, 33, 34]), ([31, 35], [31, 35]), ([36, 33], [36]), ([37, 37], [37]), ([37, 38], [37, 38]), ([39, 38, 0, 1, 2, 3, 4, 5, 6, 7, 8, 9, 10, 11, 12, 13, 14, 15, 16, 17, 18, 19, 20, 21, 22, 23, 24, 25, 26, 27, 28, 29, 30, 31, 32, 33, 34, 35, 36, 37, 38, 39], [39])])
def colloquylaw05_SumTells.B6 : List Nat := [0, 1, 3, 0, 15, 31, 63, 127, 127, 511, 1023, 127, 4095, 8191, 16383, 32767, 65535, 131071, 262143, 65535, 786431, 1835007, 4194303, 8388607, 16777215, 33554431, 67108863, 33554431, 167772159, 536870911, 1073741823, 2147483647, 4294967295, 8589934591, 4294967295, 34359738367, 68719476735, 137438953471, 274877906943, 549755813887, 1099511627775]
theorem colloquylaw05_SumTells.tab6 : rtab .any (opsOf Tryd.f3 6) = colloquylaw05_SumTells.T6 := by kernel_rfl
theorem colloquylaw05_SumTells.bits6 : waitsOk colloquylaw05_SumTells.T6.2 colloquylaw05_SumTells.B6 = true := by kernel_rfl
set_option maxHeartbeats 8000000 in
set_option maxRecDepth 100000 in
theorem colloquylaw05_SumTells.calls (k : Nat) (P0_ : Nat → Prop) (A0 : Option Addr) (c0 : Nat) (l0 : List Int) (P1_ : Nat → Prop) (A1 : Option Addr) (c1 : Nat) (l1 : List Int) (r : Bool) (w : World) (hs0 : Kd.V (Kd.int .u8) 5 w w.heap.size (fun k_ => P0_ k_) (.slice A0 l0.length c0) l0) (hs1 : Kd.V (Kd.int .u8) 5 w w.heap.size (fun k_ => P1_ k_) (.slice A1 l1.length c1) l1) (hg : Go.Proofs.YtachjpkpgbofaaaDoor.AsNum.GP w) (h : colloquylaw05_SumTells.f k l0 l1 = some r) :
  Calls Tryd.prog 3 #[.slice A0 l0.length c0, .slice A1 l1.length c1] w fun e w' => e = .returned (.bool r) ∧ Below w.heap.size w w' := by
 have HG := Aside0.mk hg
 clear hg
 have HO0 := Aside0.mk (show Kd.V (Kd.int .u8) 5 w w.heap.size (fun k_ => ((P0_ k_ ∨ P1_ k_) ∨ w.heap.size ≤ k_)) (.slice A0 l0.length c0) l0 from Kd.V_mono hs0 (fun k_ hk => .inl (.inl hk)))
 have HO1 := Aside0.mk (show Kd.V (Kd.int .u8) 5 w w.heap.size (fun k_ => ((P0_ k_ ∨ P1_ k_) ∨ w.heap.size ≤ k_)) (.slice A1 l1.length c1) l1 from Kd.V_mono hs1 (fun k_ hk => .inl (.inr hk)))
 have HB := Aside0.mk (Below.refl w.heap.size w)
 have H : (if (wrap64 ((l0.length : Int) + (l1.length : Int))) > 600 then ((colloquylaw05_sure.f).bind fun t154 => (some t154)) else ((some (([] : List Int) : List Int)).bind fun y155 => (if y155.length + l0.length < 140737488355328 then ((some (y155 ++ l0 : List Int)).bind fun y158 => (if y158.length + l1.length < 140737488355328 then ((some (y158 ++ l1 : List Int)).bind fun y161 => ((sum_Open.f k l1).bind fun bt164 => ((colloquyref05_Open.f k l1).bind fun bt168 => ((sum_Of.f (([y161] : List (List Int)))).bind fun t175 => ((colloquyref05_Of.f k y161).bind fun t176 => (if t175 = t176 then ((sum_Of.f (([l0, l1] : List (List Int)))).bind fun t180 => ((colloquyref05_Of.f k y161).bind fun t181 => (if t180 = t181 then ((sum_Seal.f l0).bind fun t182 => ((colloquyref05_Seal.f k l0).bind fun t185 => (if (strOfNums t182).toList = (strOfNums t185).toList then (if (strOfNums bt164.1).toList = (strOfNums bt168.1).toList then ((colloquylaw05_num.f bt164.2).bind fun t188 => (if t188 = bt168.2 then ((colloquylaw05_sure.f).bind fun t189 => (some t189)) else (none))) else (none)) else (none)))) else (none)))) else (none))))))) else (none))) else (none)))) = some r := h
 clear h
 by_cases c3 : (wrap64 ((l0.length : Int) + (l1.length : Int))) > 600
 ·rw [if_pos c3] at H
  have c3b0 : decide (600 < (wrap64 ((l0.length : Int) + (l1.length : Int)))) = true := decide_eq_true c3
  clear c3
  replace H := Option.bind_eq_some_iff.mp H
  obtain ⟨t154, A40, H⟩ := H
  replace H : (some t154) = some r := H
  have A4 := Aside0.mk A40
  clear A40
  obtain rfl := Option.some.inj H
  go_enter Tryd.func3, Tryd.ntmps3
  try simp only [List.append_eq, List.cons_append, List.nil_append]
  go_wp2_with (first | ((with_reducible refine gate_callee (f := 6) rfl ?_); refine goesL_ (some 16) rfl rfl Tryd.func6 (by kernel_rfl) rfl #[] rfl uC ?_; (with_reducible refine (colloquylaw05_sure.calls  t154 _ ?side1 A4.out).mono ?_); (case side1 => exact HG.out.below (uB0 HB)); rintro e w5 ⟨rfl, hb⟩; refine ⟨_, rfl, ?_⟩; replace HB := Aside0.mk (below_step (uB0 HB) hb); (try clear hb); (try clear hb2); (try clear hk); (try clear hi)))
  go_ret
  exact ⟨by first | rfl | (simp [errW_none, errW_some] <;> rfl) | (simp [*, errW_none, errW_some] <;> rfl), uB0 HB⟩
 rw [if_neg c3] at H
 have c3b0 : decide (600 < (wrap64 ((l0.length : Int) + (l1.length : Int)))) = false := decide_eq_false c3
 clear c3
 obtain ⟨y155, hy155⟩ : ∃ y_ : List Int, y_ = (([] : List Int)) := ⟨_, rfl⟩
 replace H : (if y155.length + l0.length < 140737488355328 then ((some (y155 ++ l0 : List Int)).bind fun y158 => (if y158.length + l1.length < 140737488355328 then ((some (y158 ++ l1 : List Int)).bind fun y161 => ((sum_Open.f k l1).bind fun bt164 => ((colloquyref05_Open.f k l1).bind fun bt168 => ((sum_Of.f (([y161] : List (List Int)))).bind fun t175 => ((colloquyref05_Of.f k y161).bind fun t176 => (if t175 = t176 then ((sum_Of.f (([l0, l1] : List (List Int)))).bind fun t180 => ((colloquyref05_Of.f k y161).bind fun t181 => (if t180 = t181 then ((sum_Seal.f l0).bind fun t182 => ((colloquyref05_Seal.f k l0).bind fun t185 => (if (strOfNums t182).toList = (strOfNums t185).toList then (if (strOfNums bt164.1).toList = (strOfNums bt168.1).toList then ((colloquylaw05_num.f bt164.2).bind fun t188 => (if t188 = bt168.2 then ((colloquylaw05_sure.f).bind fun t189 => (some t189)) else (none))) else (none)) else (none)))) else (none)))) else (none))))))) else (none))) else (none)) = some r := by first | (rw [hy155]; with_reducible exact H) | (have H2_ := (Option.bind_some _ _).symm.trans H; rw [hy155]; with_reducible exact H2_) | (have H2_ := (Option.bind_some _ _).symm.trans H; with_reducible exact H2_) | with_reducible exact H | (rw [hy155]; exact H) | exact H
 have Ny155 := Aside0.mk hy155
 clear hy155
 by_cases c6 : y155.length + l0.length < 140737488355328
 ·rw [if_pos c6] at H
  have LMc6 := Aside0.mk c6
  clear c6
  obtain ⟨y158, hy158⟩ : ∃ y_ : List Int, y_ = (y155 ++ l0) := ⟨_, rfl⟩
  replace H : (if y158.length + l1.length < 140737488355328 then ((some (y158 ++ l1 : List Int)).bind fun y161 => ((sum_Open.f k l1).bind fun bt164 => ((colloquyref05_Open.f k l1).bind fun bt168 => ((sum_Of.f (([y161] : List (List Int)))).bind fun t175 => ((colloquyref05_Of.f k y161).bind fun t176 => (if t175 = t176 then ((sum_Of.f (([l0, l1] : List (List Int)))).bind fun t180 => ((colloquyref05_Of.f k y161).bind fun t181 => (if t180 = t181 then ((sum_Seal.f l0).bind fun t182 => ((colloquyref05_Seal.f k l0).bind fun t185 => (if (strOfNums t182).toList = (strOfNums t185).toList then (if (strOfNums bt164.1).toList = (strOfNums bt168.1).toList then ((colloquylaw05_num.f bt164.2).bind fun t188 => (if t188 = bt168.2 then ((colloquylaw05_sure.f).bind fun t189 => (some t189)) else (none))) else (none)) else (none)))) else (none)))) else (none))))))) else (none)) = some r := by first | (rw [hy158]; with_reducible exact H) | (have H2_ := (Option.bind_some _ _).symm.trans H; rw [hy158]; with_reducible exact H2_) | (have H2_ := (Option.bind_some _ _).symm.trans H; with_reducible exact H2_) | with_reducible exact H | (rw [hy158]; exact H) | exact H
  have Ny158 := Aside0.mk hy158
  clear hy158
  by_cases c7 : y158.length + l1.length < 140737488355328
  ·rw [if_pos c7] at H
   have LMc7 := Aside0.mk c7
   clear c7
   obtain ⟨y161, hy161⟩ : ∃ y_ : List Int, y_ = (y158 ++ l1) := ⟨_, rfl⟩
   replace H : ((sum_Open.f k l1).bind fun bt164 => ((colloquyref05_Open.f k l1).bind fun bt168 => ((sum_Of.f (([y161] : List (List Int)))).bind fun t175 => ((colloquyref05_Of.f k y161).bind fun t176 => (if t175 = t176 then ((sum_Of.f (([l0, l1] : List (List Int)))).bind fun t180 => ((colloquyref05_Of.f k y161).bind fun t181 => (if t180 = t181 then ((sum_Seal.f l0).bind fun t182 => ((colloquyref05_Seal.f k l0).bind fun t185 => (if (strOfNums t182).toList = (strOfNums t185).toList then (if (strOfNums bt164.1).toList = (strOfNums bt168.1).toList then ((colloquylaw05_num.f bt164.2).bind fun t188 => (if t188 = bt168.2 then ((colloquylaw05_sure.f).bind fun t189 => (some t189)) else (none))) else (none)) else (none)))) else (none)))) else (none)))))) = some r := by first | (rw [hy161]; with_reducible exact H) | (have H2_ := (Option.bind_some _ _).symm.trans H; rw [hy161]; with_reducible exact H2_) | (have H2_ := (Option.bind_some _ _).symm.trans H; with_reducible exact H2_) | with_reducible exact H | (rw [hy161]; exact H) | exact H
   have Ny161 := Aside0.mk hy161
   clear hy161
   replace H := Option.bind_eq_some_iff.mp H
   obtain ⟨⟨t164, t165⟩, A80, H⟩ := H
   replace H : ((colloquyref05_Open.f k l1).bind fun bt168 => ((sum_Of.f (([y161] : List (List Int)))).bind fun t175 => ((colloquyref05_Of.f k y161).bind fun t176 => (if t175 = t176 then ((sum_Of.f (([l0, l1] : List (List Int)))).bind fun t180 => ((colloquyref05_Of.f k y161).bind fun t181 => (if t180 = t181 then ((sum_Seal.f l0).bind fun t182 => ((colloquyref05_Seal.f k l0).bind fun t185 => (if (strOfNums t182).toList = (strOfNums t185).toList then (if (strOfNums t164).toList = (strOfNums bt168.1).toList then ((colloquylaw05_num.f t165).bind fun t188 => (if t188 = bt168.2 then ((colloquylaw05_sure.f).bind fun t189 => (some t189)) else (none))) else (none)) else (none)))) else (none)))) else (none))))) = some r := H
   have A8 := Aside0.mk A80
   clear A80
   replace H := Option.bind_eq_some_iff.mp H
   obtain ⟨⟨t168, t171⟩, A90, H⟩ := H
   replace H : ((sum_Of.f (([y161] : List (List Int)))).bind fun t175 => ((colloquyref05_Of.f k y161).bind fun t176 => (if t175 = t176 then ((sum_Of.f (([l0, l1] : List (List Int)))).bind fun t180 => ((colloquyref05_Of.f k y161).bind fun t181 => (if t180 = t181 then ((sum_Seal.f l0).bind fun t182 => ((colloquyref05_Seal.f k l0).bind fun t185 => (if (strOfNums t182).toList = (strOfNums t185).toList then (if (strOfNums t164).toList = (strOfNums t168).toList then ((colloquylaw05_num.f t165).bind fun t188 => (if t188 = t171 then ((colloquylaw05_sure.f).bind fun t189 => (some t189)) else (none))) else (none)) else (none)))) else (none)))) else (none)))) = some r := H
   have A9 := Aside0.mk A90
   clear A90
   obtain ⟨y172, hy172⟩ : ∃ y_ : List (List Int), y_ = (([y161] : List (List Int))) := ⟨_, rfl⟩
   replace H : ((sum_Of.f y172).bind fun t175 => ((colloquyref05_Of.f k y161).bind fun t176 => (if t175 = t176 then ((sum_Of.f (([l0, l1] : List (List Int)))).bind fun t180 => ((colloquyref05_Of.f k y161).bind fun t181 => (if t180 = t181 then ((sum_Seal.f l0).bind fun t182 => ((colloquyref05_Seal.f k l0).bind fun t185 => (if (strOfNums t182).toList = (strOfNums t185).toList then (if (strOfNums t164).toList = (strOfNums t168).toList then ((colloquylaw05_num.f t165).bind fun t188 => (if t188 = t171 then ((colloquylaw05_sure.f).bind fun t189 => (some t189)) else (none))) else (none)) else (none)))) else (none)))) else (none)))) = some r := by first | (rw [hy172]; with_reducible exact H) | (have H2_ := (Option.bind_some _ _).symm.trans H; rw [hy172]; with_reducible exact H2_) | (have H2_ := (Option.bind_some _ _).symm.trans H; with_reducible exact H2_) | with_reducible exact H | (rw [hy172]; exact H) | exact H
   have Ny172 := Aside0.mk hy172
   clear hy172
   replace H := Option.bind_eq_some_iff.mp H
   obtain ⟨t175, A100, H⟩ := H
   replace H : ((colloquyref05_Of.f k y161).bind fun t176 => (if t175 = t176 then ((sum_Of.f (([l0, l1] : List (List Int)))).bind fun t180 => ((colloquyref05_Of.f k y161).bind fun t181 => (if t180 = t181 then ((sum_Seal.f l0).bind fun t182 => ((colloquyref05_Seal.f k l0).bind fun t185 => (if (strOfNums t182).toList = (strOfNums t185).toList then (if (strOfNums t164).toList = (strOfNums t168).toList then ((colloquylaw05_num.f t165).bind fun t188 => (if t188 = t171 then ((colloquylaw05_sure.f).bind fun t189 => (some t189)) else (none))) else (none)) else (none)))) else (none)))) else (none))) = some r := H
   have A10 := Aside0.mk A100
   clear A100
   replace H := Option.bind_eq_some_iff.mp H
   obtain ⟨t176, A110, H⟩ := H
   replace H : (if t175 = t176 then ((sum_Of.f (([l0, l1] : List (List Int)))).bind fun t180 => ((colloquyref05_Of.f k y161).bind fun t181 => (if t180 = t181 then ((sum_Seal.f l0).bind fun t182 => ((colloquyref05_Seal.f k l0).bind fun t185 => (if (strOfNums t182).toList = (strOfNums t185).toList then (if (strOfNums t164).toList = (strOfNums t168).toList then ((colloquylaw05_num.f t165).bind fun t188 => (if t188 = t171 then ((colloquylaw05_sure.f).bind fun t189 => (some t189)) else (none))) else (none)) else (none)))) else (none)))) else (none)) = some r := H
   have A11 := Aside0.mk A110
   clear A110
   by_cases c12 : t175 = t176
   ·rw [if_pos c12] at H
    have c12b0 : (t175 == t176) = true := beq_iff_eq.mpr c12
    have c12b1 : (t175 != t176) = false := bne_eq_false_iff_eq.mpr c12
    clear c12
    obtain ⟨y177, hy177⟩ : ∃ y_ : List (List Int), y_ = (([l0, l1] : List (List Int))) := ⟨_, rfl⟩
    replace H : ((sum_Of.f y177).bind fun t180 => ((colloquyref05_Of.f k y161).bind fun t181 => (if t180 = t181 then ((sum_Seal.f l0).bind fun t182 => ((colloquyref05_Seal.f k l0).bind fun t185 => (if (strOfNums t182).toList = (strOfNums t185).toList then (if (strOfNums t164).toList = (strOfNums t168).toList then ((colloquylaw05_num.f t165).bind fun t188 => (if t188 = t171 then ((colloquylaw05_sure.f).bind fun t189 => (some t189)) else (none))) else (none)) else (none)))) else (none)))) = some r := by first | (rw [hy177]; with_reducible exact H) | (have H2_ := (Option.bind_some _ _).symm.trans H; rw [hy177]; with_reducible exact H2_) | (have H2_ := (Option.bind_some _ _).symm.trans H; with_reducible exact H2_) | with_reducible exact H | (rw [hy177]; exact H) | exact H
    have Ny177 := Aside0.mk hy177
    clear hy177
    replace H := Option.bind_eq_some_iff.mp H
    obtain ⟨t180, A130, H⟩ := H
    replace H : ((colloquyref05_Of.f k y161).bind fun t181 => (if t180 = t181 then ((sum_Seal.f l0).bind fun t182 => ((colloquyref05_Seal.f k l0).bind fun t185 => (if (strOfNums t182).toList = (strOfNums t185).toList then (if (strOfNums t164).toList = (strOfNums t168).toList then ((colloquylaw05_num.f t165).bind fun t188 => (if t188 = t171 then ((colloquylaw05_sure.f).bind fun t189 => (some t189)) else (none))) else (none)) else (none)))) else (none))) = some r := H
    have A13 := Aside0.mk A130
    clear A130
    replace H := Option.bind_eq_some_iff.mp H
    obtain ⟨t181, A140, H⟩ := H
    replace H : (if t180 = t181 then ((sum_Seal.f l0).bind fun t182 => ((colloquyref05_Seal.f k l0).bind fun t185 => (if (strOfNums t182).toList = (strOfNums t185).toList then (if (strOfNums t164).toList = (strOfNums t168).toList then ((colloquylaw05_num.f t165).bind fun t188 => (if t188 = t171 then ((colloquylaw05_sure.f).bind fun t189 => (some t189)) else (none))) else (none)) else (none)))) else (none)) = some r := H
    have A14 := Aside0.mk A140
    clear A140
    by_cases c15 : t180 = t181
    ·rw [if_pos c15] at H
     have c15b0 : (t180 == t181) = true := beq_iff_eq.mpr c15
     have c15b1 : (t180 != t181) = false := bne_eq_false_iff_eq.mpr c15
     clear c15
     replace H := Option.bind_eq_some_iff.mp H
     obtain ⟨t182, A160, H⟩ := H
     replace H : ((colloquyref05_Seal.f k l0).bind fun t185 => (if (strOfNums t182).toList = (strOfNums t185).toList then (if (strOfNums t164).toList = (strOfNums t168).toList then ((colloquylaw05_num.f t165).bind fun t188 => (if t188 = t171 then ((colloquylaw05_sure.f).bind fun t189 => (some t189)) else (none))) else (none)) else (none))) = some r := H
     have A16 := Aside0.mk A160
     clear A160
     replace H := Option.bind_eq_some_iff.mp H
     obtain ⟨t185, A170, H⟩ := H
     replace H : (if (strOfNums t182).toList = (strOfNums t185).toList then (if (strOfNums t164).toList = (strOfNums t168).toList then ((colloquylaw05_num.f t165).bind fun t188 => (if t188 = t171 then ((colloquylaw05_sure.f).bind fun t189 => (some t189)) else (none))) else (none)) else (none)) = some r := H
     have A17 := Aside0.mk A170
     clear A170
     by_cases c18 : (strOfNums t182).toList = (strOfNums t185).toList
     ·rw [if_pos c18] at H
      have c18b0 : ((strOfNums t182).toList == (strOfNums t185).toList) = true := beq_iff_eq.mpr c18
      have c18b1 : ((strOfNums t182).toList != (strOfNums t185).toList) = false := bne_eq_false_iff_eq.mpr c18
      clear c18
      by_cases c19 : (strOfNums t164).toList = (strOfNums t168).toList
      ·rw [if_pos c19] at H
       have c19b0 : ((strOfNums t164).toList == (strOfNums t168).toList) = true := beq_iff_eq.mpr c19
       have c19b1 : ((strOfNums t164).toList != (strOfNums t168).toList) = false := bne_eq_false_iff_eq.mpr c19
       clear c19
       replace H := Option.bind_eq_some_iff.mp H
       obtain ⟨t188, A200, H⟩ := H
       replace H : (if t188 = t171 then ((colloquylaw05_sure.f).bind fun t189 => (some t189)) else (none)) = some r := H
       have A20 := Aside0.mk A200
       clear A200
       by_cases c21 : t188 = t171
       ·rw [if_pos c21] at H
        have c21b0 : (t188 == t171) = true := beq_iff_eq.mpr c21
        have c21b1 : (t188 != t171) = false := bne_eq_false_iff_eq.mpr c21
        clear c21
        replace H := Option.bind_eq_some_iff.mp H
        obtain ⟨t189, A220, H⟩ := H
        replace H : (some t189) = some r := H
        have A22 := Aside0.mk A220
        clear A220
        obtain rfl := Option.some.inj H
        go_enter Tryd.func3, Tryd.ntmps3
        try simp only [List.append_eq, List.cons_append, List.nil_append]
        try go_wp2_with (first | ((with_reducible refine gate_dst (N := 17) rfl ?_); (try (refine gate_guard (by rfl) ?_; dsimp only)); refine Kd.R_lit (Kd.int .u8) _ 5 ?hg (N := 17) ?hd (xs := ([] : List Int)) (inner := []) (ok := fun _ => True) (okp := fun _ => True) ?hr ?hp (fun _ hk => hk) trivial (Below.refl _ _) (Nat.le_refl _) (by simp) ?_; (case hd => rfl); (case hg => rfl); (case hr => first | (go_simp; done) | (go_simp; rfl)); (case hp => exact (Reps.none _ _)); intro v156 w23 ho24 hb hg_ hnew_; clear hg_ hnew_; (first | rw [← Ny155.out] at ho24 | (simp only [Int.reduceToNat] at ho24; rw [← Ny155.out] at ho24)); replace HO0 := Aside0.mk (Kd.V_elder' (uV HO0) (Kd.R_base ho24) hb); replace HO1 := Aside0.mk (Kd.V_elder' (uV HO1) (Kd.R_base ho24) hb); have HO157 := Aside0.mk (Kd.R_lower (Kd.R_newM (M := fun k_ => (w.heap.size ≤ k_)) ho24 (below_size (uB0 HB)) (fun k_ h_ => h_)) (below_size (uB0 HB))); replace HB := Aside0.mk (below_step (uB0 HB) hb); clear hb ho24) | ((with_reducible refine gate_builtin (b := .append) (xs := #[.tmp 17, .tmp 18]) rfl ?_); (try (refine gate_guard (by rfl) ?_; dsimp only)); at_builtin; refine Kd.R_append_rows (Kd.int .u8) (w0 := w) w.heap.size rfl (.tmp 17) (.tmp 18) 22 5 (.int .u8 0) 1 rfl Tryd.underlying22 info5 rfl (by decide) (by omega) v156 y155 l0 _ _ _ (fun k_ => (w.heap.size ≤ k_)) (fun _ => False) rfl rfl ?aO ?aR (fun _ _ h => h) (fun _ h => h.elim) ?aF ?aB ?aS ?aL ?_; (case aR => exact uS (Kd.V_reads' HO0.out).2.2); (case aB => exact (uB0 HB)); (case aF => exact (fun k_ hk => (Nat.le_trans (below_size (uB0 HB)) hk))); (case aO => exact (by (with_reducible repeat (first | apply Kd.R_alloc | apply Kd.R_drewN | apply Kd.R_drew)); exact Kd.R_mono HO157.out (fun _ hk => hk.1))); (case aS => exact (below_size (uB0 HB))); (case aL => have := LMc6.out; omega); intro v159 w25 ho hb hg hat; rw [← Ny158.out] at ho; replace HO0 := Aside0.mk (Kd.V_afterv (ok := (fun k_ => ((P0_ k_ ∨ P1_ k_) ∨ w.heap.size ≤ k_))) (uV HO0) hg hat); replace HO1 := Aside0.mk (Kd.V_afterv (ok := (fun k_ => ((P0_ k_ ∨ P1_ k_) ∨ w.heap.size ≤ k_))) (uV HO1) hg hat); replace HB := Aside0.mk (hb); have HO160 := Aside0.mk (ho); clear HO157; clear ho hb hg hat) | ((with_reducible refine gate_builtin (b := .append) (xs := #[.tmp 19, .tmp 20]) rfl ?_); (try (refine gate_guard (by rfl) ?_; dsimp only)); at_builtin; refine Kd.R_append_rows (Kd.int .u8) (w0 := w) w.heap.size rfl (.tmp 19) (.tmp 20) 22 5 (.int .u8 0) 1 rfl Tryd.underlying22 info5 rfl (by decide) (by omega) v159 y158 l1 _ _ _ (fun k_ => (w.heap.size ≤ k_)) (fun _ => False) rfl rfl ?aO ?aR (fun _ _ h => h) (fun _ h => h.elim) ?aF ?aB ?aS ?aL ?_; (case aR => exact uS (Kd.V_reads' HO1.out).2.2); (case aB => exact (uB0 HB)); (case aF => exact (fun k_ hk => (Nat.le_trans (below_size (uB0 HB)) hk))); (case aO => exact (uR HO160)); (case aS => exact (below_size (uB0 HB))); (case aL => have := LMc7.out; omega); intro v162 w26 ho hb hg hat; rw [← Ny161.out] at ho; replace HO0 := Aside0.mk (Kd.V_afterv (ok := (fun k_ => ((P0_ k_ ∨ P1_ k_) ∨ w.heap.size ≤ k_))) (uV HO0) hg hat); replace HO1 := Aside0.mk (Kd.V_afterv (ok := (fun k_ => ((P0_ k_ ∨ P1_ k_) ∨ w.heap.size ≤ k_))) (uV HO1) hg hat); replace HB := Aside0.mk (hb); have HO163 := Aside0.mk (ho); clear HO160; clear ho hb hg hat) | ((with_reducible refine gate_callee (f := 7) rfl ?_); refine goesL_ (some 24) rfl rfl Tryd.func7 (by kernel_rfl) rfl #[.slice A1 l1.length c1] rfl uC ?_; (with_reducible refine (sum_Open.calls k _ _ l1 t164 t165 _ ?side1 ?side2 A8.out).mono ?_); (case side1 => exact uS (Kd.V_reads' HO1.out).2.2); (case side2 => exact (Kd.V_reads' HO1.out).2.1); rintro e w27 ⟨v166, rfl, ho0, hb⟩; refine ⟨_, rfl, ?_⟩; replace HO0 := Aside0.mk (Kd.V_elder' (uV HO0) (Kd.R_base ho0) hb); replace HO1 := Aside0.mk (Kd.V_elder' (uV HO1) (Kd.R_base ho0) hb); have HO167 := Aside0.mk (Kd.R_lower (Kd.R_new' (Kd.R_newM (M := fun k_ => (w.heap.size ≤ k_)) ho0 (below_size (uB0 HB)) (fun k_ h_ => h_)) (Kd.R_lt (uR HO163))) (below_size (uB0 HB))); replace HO163 := Aside0.mk (Kd.R_elder' (uR HO163) (Kd.R_base ho0) hb); replace HB := Aside0.mk (below_step (uB0 HB) hb); (try clear hb); (try clear hb2); (try clear hk); (try clear hi); (try clear ho0); (try simp only [errW_none, errW_some])) | ((with_reducible refine gate_callee (f := 8) rfl ?_); refine goesL_ (some 29) rfl rfl Tryd.func8 (by kernel_rfl) rfl #[.slice A1 l1.length c1] rfl uC ?_; (with_reducible refine (colloquyref05_Open.calls k (fun k_ => ((((P0_ k_ ∨ P1_ k_) ∨ w.heap.size ≤ k_) ∧ some k_ ≠ (v162 : Value).ownBlock) ∧ some k_ ≠ (v166 : Value).ownBlock)) _ _ l1 t168 t171 _ ?side1 A9.out).mono ?_); (case side1 => exact HO1.out); rintro e w28 ⟨v169, rfl, ho0, hb⟩; refine ⟨_, rfl, ?_⟩; replace HO0 := Aside0.mk (Kd.V_below (uV HO0) hb); replace HO1 := Aside0.mk (Kd.V_below (uV HO1) hb); have HO170 := Aside0.mk (Kd.V_lower (Kd.V_mono (ok' := fun k_ => ((P0_ k_ ∨ P1_ k_) ∨ w.heap.size ≤ k_) ∧ some k_ ≠ (v162 : Value).ownBlock ∧ some k_ ≠ (v166 : Value).ownBlock) ho0 (fun k_ hk_ => ⟨Or.elim hk_ (fun hs_ => hs_.1.1) (fun hn_ => (.inr (Nat.le_trans (below_size (uB0 HB)) hn_))), Or.elim hk_ (fun hs_ => hs_.1.2) (fun hn_ => (Kd.fresh' (Kd.R_lt (uR HO163)) k_ hn_)), Or.elim hk_ (fun hs_ => hs_.2) (fun hn_ => (Kd.fresh' (Kd.R_lt (uR HO167)) k_ hn_))⟩)) (below_size (uB0 HB))); replace HO163 := Aside0.mk (Kd.R_below (uR HO163) hb); replace HO167 := Aside0.mk (Kd.R_below (uR HO167) hb); replace HB := Aside0.mk (below_step (uB0 HB) hb); (try clear hb); (try clear hb2); (try clear hk); (try clear hi); (try clear ho0); obtain ⟨Ao29, co29, eo29⟩ := Kd.R_slice HO163.out; subst eo29))
        replace HO0 := Aside0.mk (Kd.V_drew HO0.out)
        replace HO1 := Aside0.mk (Kd.V_drew HO1.out)
        replace HO163 := Aside0.mk (Kd.R_drew HO163.out)
        replace HO167 := Aside0.mk (Kd.R_drew HO167.out)
        replace HO170 := Aside0.mk (Kd.V_drew HO170.out)
        replace HB := Aside0.mk (below_drew1 HB.out)
        refine start_ (n := 41) (S := fun w' => True) (ds := []) u_f41 (by kernel_rfl) rfl rfl trivial (fun hHeld => ?_); refine with_tabW colloquylaw05_SumTells.tab6 colloquylaw05_SumTells.bits6 (fun HT_ HW_ => ?_)
        generalize w28.drew = w30 at HO0 HO1 HO163 HO167 HO170 HB hHeld ⊢
        refine pure_ (i := 0) (N := some 32) (v := ?_) (a' := ?_) u_t1f40 rfl rfl (any_of HT_.out (by kernel_rfl)) (fun _ _ _ h => h) (Or.inl ⟨by rfl, ?_⟩) ?_ ?_
        rotate_left
        ·intro w'
         go_simp
         with_reducible rfl
        rotate_left
        ·exact uP
        refine pure_ (i := 3) (N := some 35) (v := ?_) (a' := ?_) u_t1f2t1f37 rfl rfl (any_of HT_.out (by kernel_rfl)) (fun _ _ _ h => h) (Or.inl ⟨by rfl, ?_⟩) ?_ ?_
        rotate_left
        ·intro w'
         go_simp
         with_reducible rfl
        rotate_left
        ·exact uP
        refine one_ (i := 1) (N := some 33) u_t2f1t1f37 rfl rfl (one_of HT_.out (by kernel_rfl)) (by decide) (fun K hK => ?_)
        refine Kd.N_lit_step (Kd.slice 5 (Kd.int .u8)) _ 22 ?hg (N' := 33) ?hd (xs := ([y161] : List (List Int))) (inner := [.slice Ao29 y161.length co29]) (ok := (fun k_ => ((P0_ k_ ∨ P1_ k_) ∨ w.heap.size ≤ k_) ∧ some k_ ≠ (v166 : Value).ownBlock)) (okp := (fun k_ => ((P0_ k_ ∨ P1_ k_) ∨ w.heap.size ≤ k_) ∧ some k_ ≠ (v166 : Value).ownBlock)) ?hr ?hp (fun _ hk => hk) ((show ∀ k_, w30.heap.size ≤ k_ → (fun k_ => ((P0_ k_ ∨ P1_ k_) ∨ w.heap.size ≤ k_) ∧ some k_ ≠ (v166 : Value).ownBlock) k_ from fun k_ hk => ⟨(.inr (Nat.le_trans (below_size (uB0 HB)) hk)), Kd.fresh' (Kd.R_lt (uR HO167)) k_ hk⟩) _ (Nat.le_refl _)) (Below.refl _ _) (Nat.le_refl _) (by simp) ?_; (case hd => rfl); (case hg => rfl); (case hr => first | (go_simp; done) | (go_simp; rfl)); (case hp => exact (Reps.one (show Kd.FK (Kd.slice 5 (Kd.int .u8)) _ _ y161 [.slice Ao29 y161.length co29] from (Kd.FK_slice_mk (Kd.R_reads' (Kd.R_mono (ok' := (fun k_ => ((P0_ k_ ∨ P1_ k_) ∨ w.heap.size ≤ k_) ∧ some k_ ≠ (v166 : Value).ownBlock)) (HO163.out) (fun k_ hk => ⟨(.inr (hk.1)), hk.2⟩))).2.1 (Kd.R_F (Kd.R_mono (ok' := (fun k_ => ((P0_ k_ ∨ P1_ k_) ∨ w.heap.size ≤ k_) ∧ some k_ ≠ (v166 : Value).ownBlock)) (HO163.out) (fun k_ hk => ⟨(.inr (hk.1)), hk.2⟩))))) (Reps.none _ _)))
        intro v173 w31 ho32 hb hg_ hnew_
        clear hg_ hnew_
        (first | rw [← Ny172.out] at ho32 | (simp only [Int.reduceToNat] at ho32; rw [← Ny172.out] at ho32))
        replace HO0 := Aside0.mk (Kd.V_elder' (uV HO0) (Kd.N_base ho32) hb)
        replace HO1 := Aside0.mk (Kd.V_elder' (uV HO1) (Kd.N_base ho32) hb)
        replace HO163 := Aside0.mk (Kd.R_below (uR HO163) hb)
        replace HO167 := Aside0.mk (Kd.R_below (uR HO167) hb)
        replace HO170 := Aside0.mk (Kd.V_elder' (uV HO170) (Kd.N_base ho32) hb)
        have HO174 := Aside0.mk (Kd.N_lower ho32 (below_size (uB0 HB)))
        replace HB := Aside0.mk (below_step (uB0 HB) hb)
        clear hb ho32
        obtain ⟨Ao33, co33, eo33⟩ := Kd.N_slice HO174.out
        (first | subst eo33 | (injection eo33 with f1_ f2_ f3_; have f4_ := f1_.symm; have f5_ := f3_.symm; clear f1_ f2_ f3_; subst f4_; subst f5_))
        refine hK.out _ _ trivial (fun hHeld => ?_)
        clear hK K
        refine norm_ (a' := ?_) ?_ ?_
        rotate_left
        ·show Act.put _ (some 33) _ = _
         exact uP
        refine one_ (i := 2) (N := some 34) u_t4f37 rfl rfl (one_of HT_.out (by kernel_rfl)) (by decide) (fun K hK => ?_)
        refine goes_ Tryd.func9 (by kernel_rfl) rfl #[.slice Ao33 y172.length co33] (by rfl) rfl rfl uC ?_
        with_reducible refine (sum_Of.calls _ _ y172 t175 _ ?side1 ?side2 A10.out).mono ?_
        (case side1 => exact uS (Kd.N_reads' HO174.out).2.2)
        (case side2 => exact (Kd.N_reads' HO174.out).2.1)
        rintro e w34 ⟨rfl, hb⟩
        refine ⟨_, rfl, ?_⟩
        replace HO0 := Aside0.mk (Kd.V_below (uV HO0) hb)
        replace HO1 := Aside0.mk (Kd.V_below (uV HO1) hb)
        replace HO163 := Aside0.mk (Kd.R_below (uR HO163) hb)
        replace HO167 := Aside0.mk (Kd.R_below (uR HO167) hb)
        replace HO170 := Aside0.mk (Kd.V_below (uV HO170) hb)
        replace HO174 := Aside0.mk (Kd.N_below (uN HO174) hb)
        replace HB := Aside0.mk (below_step (uB0 HB) hb)
        (try clear hb)
        (try clear hb2)
        (try clear hk)
        (try clear hi)
        refine hK.out _ _ trivial (fun hHeld => ?_)
        clear hK K
        refine norm_ (a' := ?_) ?_ ?_
        rotate_left
        ·show Act.put _ (some 34) _ = _
         exact uP
        refine one_ (i := 4) (N := some 36) u_t5f36 rfl rfl (one_of HT_.out (by kernel_rfl)) (by decide) (fun K hK => ?_)
        refine goes_ Tryd.func10 (by kernel_rfl) rfl #[.slice Ao29 y161.length co29] (by rfl) rfl rfl uC ?_
        with_reducible refine (colloquyref05_Of.calls k _ _ y161 t176 _ ?side1 ?side2 A11.out).mono ?_
        (case side1 => exact uS (Kd.R_reads' HO163.out).2.2)
        (case side2 => exact (Kd.R_reads' HO163.out).2.1)
        rintro e w' ⟨rfl, ⟨nd, rfl⟩⟩
        refine ⟨_, rfl, ?_⟩
        refine hK.out _ _ trivial (fun hHeld => ?_)
        clear hK K
        refine norm_ (a' := ?_) ?_ ?_
        rotate_left
        ·show Act.put _ (some 36) _ = _
         exact uP
        refine pure_ (i := 5) (N := some 37) (v := ?_) (a' := ?_) u_t6f35 rfl rfl (any_of HT_.out (by kernel_rfl)) (fun _ _ _ h => h) (Or.inl ⟨by rfl, ?_⟩) ?_ ?_
        rotate_left
        ·intro w'
         go_simp
         with_reducible rfl
        rotate_left
        ·exact uP
        refine pure_ (i := 6) (N := some 38) (v := ?_) (a' := ?_) u_t7f34 rfl rfl (any_of HT_.out (by kernel_rfl)) (fun _ _ _ h => h) (Or.inl ⟨by rfl, ?_⟩) ?_ ?_
        rotate_left
        ·intro w'
         go_simp
         with_reducible rfl
        rotate_left
        ·exact uP
        refine pure_ (i := 7) (N := some 39) (v := ?_) (a' := ?_) u_t8f33 rfl rfl (any_of HT_.out (by kernel_rfl)) (fun _ _ _ h => h) (Or.inl ⟨by rfl, ?_⟩) ?_ ?_
        rotate_left
        ·intro w'
         go_simp
         with_reducible rfl
        rotate_left
        ·exact uP
        refine pure_ (i := 8) (N := some 40) (v := ?_) (a' := ?_) u_t9f32 rfl rfl (any_of HT_.out (by kernel_rfl)) (fun _ _ _ h => h) (Or.inl ⟨by rfl, ?_⟩) ?_ ?_
        rotate_left
        ·intro w'
         go_simp
         with_reducible rfl
        rotate_left
        ·exact uP
        refine pure_ (i := 11) (N := some 43) (v := ?_) (a' := ?_) u_t9f2t1f29 rfl rfl (any_of HT_.out (by kernel_rfl)) (fun _ _ _ h => h) (Or.inl ⟨by rfl, ?_⟩) ?_ ?_
        rotate_left
        ·intro w'
         go_simp
         with_reducible rfl
        rotate_left
        ·exact uP
        refine one_ (i := 9) (N := some 41) u_t10f1t1f29 rfl rfl (one_of HT_.out (by kernel_rfl)) (by decide) (fun K hK => ?_)
        refine Kd.N_lit_step (Kd.slice 5 (Kd.int .u8)) _ 22 ?hg (N' := 41) ?hd (xs := ([l0, l1] : List (List Int))) (inner := [.slice A0 l0.length c0, .slice A1 l1.length c1]) (ok := (fun k_ => ((P0_ k_ ∨ P1_ k_) ∨ w.heap.size ≤ k_) ∧ some k_ ≠ (.slice Ao29 y161.length co29 : Value).ownBlock ∧ some k_ ≠ (v166 : Value).ownBlock ∧ some k_ ≠ (.slice Ao33 y172.length co33 : Value).ownBlock)) (okp := (fun k_ => ((P0_ k_ ∨ P1_ k_) ∨ w.heap.size ≤ k_) ∧ some k_ ≠ (.slice Ao29 y161.length co29 : Value).ownBlock ∧ some k_ ≠ (v166 : Value).ownBlock ∧ some k_ ≠ (.slice Ao33 y172.length co33 : Value).ownBlock)) ?hr ?hp (fun _ hk => hk) ((show ∀ k_, w34.heap.size ≤ k_ → (fun k_ => ((P0_ k_ ∨ P1_ k_) ∨ w.heap.size ≤ k_) ∧ some k_ ≠ (.slice Ao29 y161.length co29 : Value).ownBlock ∧ some k_ ≠ (v166 : Value).ownBlock ∧ some k_ ≠ (.slice Ao33 y172.length co33 : Value).ownBlock) k_ from fun k_ hk => ⟨(.inr (Nat.le_trans (below_size (uB0 HB)) hk)), Kd.fresh' (Kd.R_lt (uR HO163)) k_ hk, Kd.fresh' (Kd.R_lt (uR HO167)) k_ hk, Kd.fresh' (Kd.N_lt (uN HO174)) k_ hk⟩) _ (Nat.le_refl _)) (Below.refl _ _) (Nat.le_refl _) (by simp) ?_; (case hd => rfl); (case hg => rfl); (case hr => first | (go_simp; done) | (go_simp; rfl)); (case hp => exact (Reps.one (show Kd.FK (Kd.slice 5 (Kd.int .u8)) _ _ l0 [.slice A0 l0.length c0] from (Kd.FK_slice_mk (Kd.V_reads' (Kd.V_mono (e := 0) (base := 0) (ok' := (fun k_ => ((P0_ k_ ∨ P1_ k_) ∨ w.heap.size ≤ k_) ∧ some k_ ≠ (.slice Ao29 y161.length co29 : Value).ownBlock ∧ some k_ ≠ (v166 : Value).ownBlock ∧ some k_ ≠ (.slice Ao33 y172.length co33 : Value).ownBlock)) (HO0.out) (fun k_ hk => ⟨hk.1.1.1, ⟨hk.1.1.2, ⟨hk.1.2, hk.2⟩⟩⟩))).2.1 (Kd.V_F (Kd.V_mono (e := 0) (base := 0) (ok' := (fun k_ => ((P0_ k_ ∨ P1_ k_) ∨ w.heap.size ≤ k_) ∧ some k_ ≠ (.slice Ao29 y161.length co29 : Value).ownBlock ∧ some k_ ≠ (v166 : Value).ownBlock ∧ some k_ ≠ (.slice Ao33 y172.length co33 : Value).ownBlock)) (HO0.out) (fun k_ hk => ⟨hk.1.1.1, ⟨hk.1.1.2, ⟨hk.1.2, hk.2⟩⟩⟩))))) (Reps.one (show Kd.FK (Kd.slice 5 (Kd.int .u8)) _ _ l1 [.slice A1 l1.length c1] from (Kd.FK_slice_mk (Kd.V_reads' (Kd.V_mono (e := 0) (base := 0) (ok' := (fun k_ => ((P0_ k_ ∨ P1_ k_) ∨ w.heap.size ≤ k_) ∧ some k_ ≠ (.slice Ao29 y161.length co29 : Value).ownBlock ∧ some k_ ≠ (v166 : Value).ownBlock ∧ some k_ ≠ (.slice Ao33 y172.length co33 : Value).ownBlock)) (HO1.out) (fun k_ hk => ⟨hk.1.1.1, ⟨hk.1.1.2, ⟨hk.1.2, hk.2⟩⟩⟩))).2.1 (Kd.V_F (Kd.V_mono (e := 0) (base := 0) (ok' := (fun k_ => ((P0_ k_ ∨ P1_ k_) ∨ w.heap.size ≤ k_) ∧ some k_ ≠ (.slice Ao29 y161.length co29 : Value).ownBlock ∧ some k_ ≠ (v166 : Value).ownBlock ∧ some k_ ≠ (.slice Ao33 y172.length co33 : Value).ownBlock)) (HO1.out) (fun k_ hk => ⟨hk.1.1.1, ⟨hk.1.1.2, ⟨hk.1.2, hk.2⟩⟩⟩))))) (Reps.none _ _))))
        intro v178 w35 ho36 hb hg_ hnew_
        clear hg_ hnew_
        (first | rw [← Ny177.out] at ho36 | (simp only [Int.reduceToNat] at ho36; rw [← Ny177.out] at ho36))
        replace HO0 := Aside0.mk (Kd.V_elder' (uV HO0) (Kd.N_base ho36) hb)
        replace HO1 := Aside0.mk (Kd.V_elder' (uV HO1) (Kd.N_base ho36) hb)
        replace HO163 := Aside0.mk (Kd.R_below (uR HO163) hb)
        replace HO167 := Aside0.mk (Kd.R_below (uR HO167) hb)
        replace HO170 := Aside0.mk (Kd.V_elder' (uV HO170) (Kd.N_base ho36) hb)
        replace HO174 := Aside0.mk (Kd.N_elder' (uN HO174) (Kd.N_base ho36) hb)
        have HO179 := Aside0.mk (Kd.N_lower ho36 (below_size (uB0 HB)))
        replace HB := Aside0.mk (below_step (uB0 HB) hb)
        clear hb ho36
        obtain ⟨Ao37, co37, eo37⟩ := Kd.N_slice HO179.out
        (first | subst eo37 | (injection eo37 with f1_ f2_ f3_; have f4_ := f1_.symm; have f5_ := f3_.symm; clear f1_ f2_ f3_; subst f4_; subst f5_))
        refine hK.out _ _ trivial (fun hHeld => ?_)
        clear hK K
        refine norm_ (a' := ?_) ?_ ?_
        rotate_left
        ·show Act.put _ (some 41) _ = _
         exact uP
        refine one_ (i := 10) (N := some 42) u_t12f29 rfl rfl (one_of HT_.out (by kernel_rfl)) (by decide) (fun K hK => ?_)
        refine goes_ Tryd.func9 (by kernel_rfl) rfl #[.slice Ao37 y177.length co37] (by rfl) rfl rfl uC ?_
        with_reducible refine (sum_Of.calls _ _ y177 t180 _ ?side1 ?side2 A13.out).mono ?_
        (case side1 => exact uS (Kd.N_reads' HO179.out).2.2)
        (case side2 => exact (Kd.N_reads' HO179.out).2.1)
        rintro e w38 ⟨rfl, hb⟩
        refine ⟨_, rfl, ?_⟩
        replace HO0 := Aside0.mk (Kd.V_below (uV HO0) hb)
        replace HO1 := Aside0.mk (Kd.V_below (uV HO1) hb)
        replace HO163 := Aside0.mk (Kd.R_below (uR HO163) hb)
        replace HO167 := Aside0.mk (Kd.R_below (uR HO167) hb)
        replace HO170 := Aside0.mk (Kd.V_below (uV HO170) hb)
        replace HO174 := Aside0.mk (Kd.N_below (uN HO174) hb)
        replace HO179 := Aside0.mk (Kd.N_below (uN HO179) hb)
        replace HB := Aside0.mk (below_step (uB0 HB) hb)
        (try clear hb)
        (try clear hb2)
        (try clear hk)
        (try clear hi)
        refine hK.out _ _ trivial (fun hHeld => ?_)
        clear hK K
        refine norm_ (a' := ?_) ?_ ?_
        rotate_left
        ·show Act.put _ (some 42) _ = _
         exact uP
        refine one_ (i := 12) (N := some 44) u_t13f28 rfl rfl (one_of HT_.out (by kernel_rfl)) (by decide) (fun K hK => ?_)
        refine goes_ Tryd.func10 (by kernel_rfl) rfl #[.slice Ao29 y161.length co29] (by rfl) rfl rfl uC ?_
        with_reducible refine (colloquyref05_Of.calls k _ _ y161 t181 _ ?side1 ?side2 A14.out).mono ?_
        (case side1 => exact uS (Kd.R_reads' HO163.out).2.2)
        (case side2 => exact (Kd.R_reads' HO163.out).2.1)
        rintro e w' ⟨rfl, ⟨nd, rfl⟩⟩
        refine ⟨_, rfl, ?_⟩
        refine hK.out _ _ trivial (fun hHeld => ?_)
        clear hK K
        refine norm_ (a' := ?_) ?_ ?_
        rotate_left
        ·show Act.put _ (some 44) _ = _
         exact uP
        refine pure_ (i := 13) (N := some 45) (v := ?_) (a' := ?_) u_t14f27 rfl rfl (any_of HT_.out (by kernel_rfl)) (fun _ _ _ h => h) (Or.inl ⟨by rfl, ?_⟩) ?_ ?_
        rotate_left
        ·intro w'
         go_simp
         with_reducible rfl
        rotate_left
        ·exact uP
        refine pure_ (i := 14) (N := some 46) (v := ?_) (a' := ?_) u_t15f26 rfl rfl (any_of HT_.out (by kernel_rfl)) (fun _ _ _ h => h) (Or.inl ⟨by rfl, ?_⟩) ?_ ?_
        rotate_left
        ·intro w'
         go_simp
         with_reducible rfl
        rotate_left
        ·exact uP
        refine pure_ (i := 15) (N := some 47) (v := ?_) (a' := ?_) u_t16f25 rfl rfl (any_of HT_.out (by kernel_rfl)) (fun _ _ _ h => h) (Or.inl ⟨by rfl, ?_⟩) ?_ ?_
        rotate_left
        ·intro w'
         go_simp
         with_reducible rfl
        rotate_left
        ·exact uP
        refine pure_ (i := 16) (N := some 48) (v := ?_) (a' := ?_) u_t17f24 rfl rfl (any_of HT_.out (by kernel_rfl)) (fun _ _ _ h => h) (Or.inl ⟨by rfl, ?_⟩) ?_ ?_
        rotate_left
        ·intro w'
         go_simp
         with_reducible rfl
        rotate_left
        ·exact uP
        refine pure_ (i := 19) (N := some 51) (v := ?_) (a' := ?_) u_t17f2t1f21 rfl rfl (any_of HT_.out (by kernel_rfl)) (fun _ _ _ h => h) (Or.inl ⟨by rfl, ?_⟩) ?_ ?_
        rotate_left
        ·intro w'
         go_simp
         with_reducible rfl
        rotate_left
        ·exact uP
        refine one_ (i := 17) (N := some 49) u_t18f1t1f21 rfl rfl (one_of HT_.out (by kernel_rfl)) (by decide) (fun K hK => ?_)
        refine goes_ Tryd.func11 (by kernel_rfl) rfl #[.slice A0 l0.length c0] (by rfl) rfl rfl uC ?_
        with_reducible refine (sum_Seal.calls (fun k_ => ((((((P0_ k_ ∨ P1_ k_) ∨ w.heap.size ≤ k_) ∧ some k_ ≠ (.slice Ao29 y161.length co29 : Value).ownBlock) ∧ some k_ ≠ (v166 : Value).ownBlock) ∧ some k_ ≠ (.slice Ao33 y172.length co33 : Value).ownBlock) ∧ some k_ ≠ (.slice Ao37 y177.length co37 : Value).ownBlock)) _ _ l0 t182 _ ?side1 A16.out).mono ?_
        (case side1 => exact HO0.out)
        rintro e w39 ⟨v183, rfl, ho0, hb⟩
        refine ⟨_, rfl, ?_⟩
        replace HO0 := Aside0.mk (Kd.V_elder' (uV HO0) (Kd.R_base ho0) hb)
        replace HO1 := Aside0.mk (Kd.V_elder' (uV HO1) (Kd.R_base ho0) hb)
        replace HO170 := Aside0.mk (Kd.V_elder' (uV HO170) (Kd.R_base ho0) hb)
        replace HO174 := Aside0.mk (Kd.N_elder' (uN HO174) (Kd.R_base ho0) hb)
        replace HO179 := Aside0.mk (Kd.N_elder' (uN HO179) (Kd.R_base ho0) hb)
        have HO184 := Aside0.mk (Kd.R_lower (Kd.R_new' (Kd.R_new' (Kd.R_newM (M := fun k_ => (w.heap.size ≤ k_)) (Kd.R_mono (ok' := fun k_ => True) ho0 (fun _ hk_ => trivial)) (below_size (uB0 HB)) (fun k_ h_ => h_)) (Kd.R_lt (uR HO163))) (Kd.R_lt (uR HO167))) (below_size (uB0 HB)))
        replace HO163 := Aside0.mk (Kd.R_elder' (uR HO163) (Kd.R_base ho0) hb)
        replace HO167 := Aside0.mk (Kd.R_elder' (uR HO167) (Kd.R_base ho0) hb)
        replace HB := Aside0.mk (below_step (uB0 HB) hb)
        (try clear hb)
        (try clear hb2)
        (try clear hk)
        (try clear hi)
        (try clear ho0)
        refine hK.out _ _ trivial (fun hHeld => ?_)
        clear hK K
        refine norm_ (a' := ?_) ?_ ?_
        rotate_left
        ·show Act.put _ (some 49) _ = _
         exact uP
        refine join_ (σ := Value) 12 u_t29f12 (fun s_ => [(50, .string (strOfNums t182)), (52, s_), (53, .string (strOfNums t185)), (58, .string (strOfNums t164)), (60, .string (strOfNums t168)), (54, .bool true), (55, .bool true), (56, .bool true), (57, v166), (59, v169)]) (fun s_ w' => (Kd.V (Kd.int .u8) 5 w' w.heap.size (fun k_ => ((P0_ k_ ∨ P1_ k_) ∨ w.heap.size ≤ k_) ∧ some k_ ≠ (.slice Ao29 y161.length co29 : Value).ownBlock ∧ some k_ ≠ (v166 : Value).ownBlock ∧ some k_ ≠ (.slice Ao33 y172.length co33 : Value).ownBlock ∧ some k_ ≠ (.slice Ao37 y177.length co37 : Value).ownBlock ∧ some k_ ≠ (v183 : Value).ownBlock ∧ some k_ ≠ (s_ : Value).ownBlock) (.slice A0 l0.length c0) l0) ∧ (Kd.V (Kd.int .u8) 5 w' w.heap.size (fun k_ => ((P0_ k_ ∨ P1_ k_) ∨ w.heap.size ≤ k_) ∧ some k_ ≠ (.slice Ao29 y161.length co29 : Value).ownBlock ∧ some k_ ≠ (v166 : Value).ownBlock ∧ some k_ ≠ (.slice Ao33 y172.length co33 : Value).ownBlock ∧ some k_ ≠ (.slice Ao37 y177.length co37 : Value).ownBlock ∧ some k_ ≠ (v183 : Value).ownBlock ∧ some k_ ≠ (s_ : Value).ownBlock) (.slice A1 l1.length c1) l1) ∧ (Kd.R (Kd.int .u8) 5 w' w.heap.size (fun k_ => (w.heap.size ≤ k_) ∧ some k_ ≠ (v166 : Value).ownBlock ∧ some k_ ≠ (v183 : Value).ownBlock ∧ some k_ ≠ (s_ : Value).ownBlock) (.slice Ao29 y161.length co29) y161) ∧ (Kd.R (Kd.int .u8) 5 w' w.heap.size (fun k_ => (w.heap.size ≤ k_) ∧ some k_ ≠ (.slice Ao29 y161.length co29 : Value).ownBlock ∧ some k_ ≠ (v183 : Value).ownBlock ∧ some k_ ≠ (s_ : Value).ownBlock) v166 t164) ∧ (Kd.V (Kd.int .u8) 5 w' w.heap.size (fun k_ => ((P0_ k_ ∨ P1_ k_) ∨ w.heap.size ≤ k_) ∧ some k_ ≠ (.slice Ao29 y161.length co29 : Value).ownBlock ∧ some k_ ≠ (v166 : Value).ownBlock ∧ some k_ ≠ (.slice Ao33 y172.length co33 : Value).ownBlock ∧ some k_ ≠ (.slice Ao37 y177.length co37 : Value).ownBlock ∧ some k_ ≠ (v183 : Value).ownBlock ∧ some k_ ≠ (s_ : Value).ownBlock) v169 t168) ∧ (Kd.N (Kd.slice 5 (Kd.int .u8)) 22 w' w.heap.size (fun k_ => ((P0_ k_ ∨ P1_ k_) ∨ w.heap.size ≤ k_) ∧ some k_ ≠ (v166 : Value).ownBlock ∧ some k_ ≠ (.slice Ao37 y177.length co37 : Value).ownBlock ∧ some k_ ≠ (v183 : Value).ownBlock ∧ some k_ ≠ (s_ : Value).ownBlock) (.slice Ao33 y172.length co33) y172) ∧ (Kd.N (Kd.slice 5 (Kd.int .u8)) 22 w' w.heap.size (fun k_ => ((P0_ k_ ∨ P1_ k_) ∨ w.heap.size ≤ k_) ∧ some k_ ≠ (.slice Ao29 y161.length co29 : Value).ownBlock ∧ some k_ ≠ (v166 : Value).ownBlock ∧ some k_ ≠ (.slice Ao33 y172.length co33 : Value).ownBlock ∧ some k_ ≠ (v183 : Value).ownBlock ∧ some k_ ≠ (s_ : Value).ownBlock) (.slice Ao37 y177.length co37) y177) ∧ (Kd.R (Kd.int .u8) 5 w' w.heap.size (fun k_ => (w.heap.size ≤ k_) ∧ some k_ ≠ (.slice Ao29 y161.length co29 : Value).ownBlock ∧ some k_ ≠ (v166 : Value).ownBlock ∧ some k_ ≠ (s_ : Value).ownBlock) v183 t182) ∧ (Kd.R (Kd.int .u8) 5 w' w.heap.size (fun k_ => (w.heap.size ≤ k_) ∧ some k_ ≠ (.slice Ao29 y161.length co29 : Value).ownBlock ∧ some k_ ≠ (v166 : Value).ownBlock ∧ some k_ ≠ (v183 : Value).ownBlock) s_ t185) ∧ (Below w.heap.size w w')) ?_ ?_
        rotate_left
        ·intro hJ18_20_21_26_28
         refine join_ (σ := Value) 13 u_t28f13 (fun s_ => [(50, .string (strOfNums t182)), (52, s_), (53, .string (strOfNums t185)), (58, .string (strOfNums t164)), (54, .bool true), (55, .bool true), (56, .bool true), (57, v166), (59, v169)]) (fun s_ w' => (Kd.V (Kd.int .u8) 5 w' w.heap.size (fun k_ => ((P0_ k_ ∨ P1_ k_) ∨ w.heap.size ≤ k_) ∧ some k_ ≠ (.slice Ao29 y161.length co29 : Value).ownBlock ∧ some k_ ≠ (v166 : Value).ownBlock ∧ some k_ ≠ (.slice Ao33 y172.length co33 : Value).ownBlock ∧ some k_ ≠ (.slice Ao37 y177.length co37 : Value).ownBlock ∧ some k_ ≠ (v183 : Value).ownBlock ∧ some k_ ≠ (s_ : Value).ownBlock) (.slice A0 l0.length c0) l0) ∧ (Kd.V (Kd.int .u8) 5 w' w.heap.size (fun k_ => ((P0_ k_ ∨ P1_ k_) ∨ w.heap.size ≤ k_) ∧ some k_ ≠ (.slice Ao29 y161.length co29 : Value).ownBlock ∧ some k_ ≠ (v166 : Value).ownBlock ∧ some k_ ≠ (.slice Ao33 y172.length co33 : Value).ownBlock ∧ some k_ ≠ (.slice Ao37 y177.length co37 : Value).ownBlock ∧ some k_ ≠ (v183 : Value).ownBlock ∧ some k_ ≠ (s_ : Value).ownBlock) (.slice A1 l1.length c1) l1) ∧ (Kd.R (Kd.int .u8) 5 w' w.heap.size (fun k_ => (w.heap.size ≤ k_) ∧ some k_ ≠ (v166 : Value).ownBlock ∧ some k_ ≠ (v183 : Value).ownBlock ∧ some k_ ≠ (s_ : Value).ownBlock) (.slice Ao29 y161.length co29) y161) ∧ (Kd.R (Kd.int .u8) 5 w' w.heap.size (fun k_ => (w.heap.size ≤ k_) ∧ some k_ ≠ (.slice Ao29 y161.length co29 : Value).ownBlock ∧ some k_ ≠ (v183 : Value).ownBlock ∧ some k_ ≠ (s_ : Value).ownBlock) v166 t164) ∧ (Kd.V (Kd.int .u8) 5 w' w.heap.size (fun k_ => ((P0_ k_ ∨ P1_ k_) ∨ w.heap.size ≤ k_) ∧ some k_ ≠ (.slice Ao29 y161.length co29 : Value).ownBlock ∧ some k_ ≠ (v166 : Value).ownBlock ∧ some k_ ≠ (.slice Ao33 y172.length co33 : Value).ownBlock ∧ some k_ ≠ (.slice Ao37 y177.length co37 : Value).ownBlock ∧ some k_ ≠ (v183 : Value).ownBlock ∧ some k_ ≠ (s_ : Value).ownBlock) v169 t168) ∧ (Kd.N (Kd.slice 5 (Kd.int .u8)) 22 w' w.heap.size (fun k_ => ((P0_ k_ ∨ P1_ k_) ∨ w.heap.size ≤ k_) ∧ some k_ ≠ (v166 : Value).ownBlock ∧ some k_ ≠ (.slice Ao37 y177.length co37 : Value).ownBlock ∧ some k_ ≠ (v183 : Value).ownBlock ∧ some k_ ≠ (s_ : Value).ownBlock) (.slice Ao33 y172.length co33) y172) ∧ (Kd.N (Kd.slice 5 (Kd.int .u8)) 22 w' w.heap.size (fun k_ => ((P0_ k_ ∨ P1_ k_) ∨ w.heap.size ≤ k_) ∧ some k_ ≠ (.slice Ao29 y161.length co29 : Value).ownBlock ∧ some k_ ≠ (v166 : Value).ownBlock ∧ some k_ ≠ (.slice Ao33 y172.length co33 : Value).ownBlock ∧ some k_ ≠ (v183 : Value).ownBlock ∧ some k_ ≠ (s_ : Value).ownBlock) (.slice Ao37 y177.length co37) y177) ∧ (Kd.R (Kd.int .u8) 5 w' w.heap.size (fun k_ => (w.heap.size ≤ k_) ∧ some k_ ≠ (.slice Ao29 y161.length co29 : Value).ownBlock ∧ some k_ ≠ (v166 : Value).ownBlock ∧ some k_ ≠ (s_ : Value).ownBlock) v183 t182) ∧ (Kd.R (Kd.int .u8) 5 w' w.heap.size (fun k_ => (w.heap.size ≤ k_) ∧ some k_ ≠ (.slice Ao29 y161.length co29 : Value).ownBlock ∧ some k_ ≠ (v166 : Value).ownBlock ∧ some k_ ≠ (v183 : Value).ownBlock) s_ t185) ∧ (Below w.heap.size w w')) ?_ ?_
         rotate_left
         ·intro hJ18_20_21_26
          refine join_ (σ := Value) 13 u_t26f1t2f12 (fun s_ => [(50, .string (strOfNums t182)), (52, s_), (53, .string (strOfNums t185)), (60, .string (strOfNums t168)), (54, .bool true), (55, .bool true), (56, .bool true), (57, v166), (59, v169)]) (fun s_ w' => (Kd.V (Kd.int .u8) 5 w' w.heap.size (fun k_ => ((P0_ k_ ∨ P1_ k_) ∨ w.heap.size ≤ k_) ∧ some k_ ≠ (.slice Ao29 y161.length co29 : Value).ownBlock ∧ some k_ ≠ (v166 : Value).ownBlock ∧ some k_ ≠ (.slice Ao33 y172.length co33 : Value).ownBlock ∧ some k_ ≠ (.slice Ao37 y177.length co37 : Value).ownBlock ∧ some k_ ≠ (v183 : Value).ownBlock ∧ some k_ ≠ (s_ : Value).ownBlock) (.slice A0 l0.length c0) l0) ∧ (Kd.V (Kd.int .u8) 5 w' w.heap.size (fun k_ => ((P0_ k_ ∨ P1_ k_) ∨ w.heap.size ≤ k_) ∧ some k_ ≠ (.slice Ao29 y161.length co29 : Value).ownBlock ∧ some k_ ≠ (v166 : Value).ownBlock ∧ some k_ ≠ (.slice Ao33 y172.length co33 : Value).ownBlock ∧ some k_ ≠ (.slice Ao37 y177.length co37 : Value).ownBlock ∧ some k_ ≠ (v183 : Value).ownBlock ∧ some k_ ≠ (s_ : Value).ownBlock) (.slice A1 l1.length c1) l1) ∧ (Kd.R (Kd.int .u8) 5 w' w.heap.size (fun k_ => (w.heap.size ≤ k_) ∧ some k_ ≠ (v166 : Value).ownBlock ∧ some k_ ≠ (v183 : Value).ownBlock ∧ some k_ ≠ (s_ : Value).ownBlock) (.slice Ao29 y161.length co29) y161) ∧ (Kd.R (Kd.int .u8) 5 w' w.heap.size (fun k_ => (w.heap.size ≤ k_) ∧ some k_ ≠ (.slice Ao29 y161.length co29 : Value).ownBlock ∧ some k_ ≠ (v183 : Value).ownBlock ∧ some k_ ≠ (s_ : Value).ownBlock) v166 t164) ∧ (Kd.V (Kd.int .u8) 5 w' w.heap.size (fun k_ => ((P0_ k_ ∨ P1_ k_) ∨ w.heap.size ≤ k_) ∧ some k_ ≠ (.slice Ao29 y161.length co29 : Value).ownBlock ∧ some k_ ≠ (v166 : Value).ownBlock ∧ some k_ ≠ (.slice Ao33 y172.length co33 : Value).ownBlock ∧ some k_ ≠ (.slice Ao37 y177.length co37 : Value).ownBlock ∧ some k_ ≠ (v183 : Value).ownBlock ∧ some k_ ≠ (s_ : Value).ownBlock) v169 t168) ∧ (Kd.N (Kd.slice 5 (Kd.int .u8)) 22 w' w.heap.size (fun k_ => ((P0_ k_ ∨ P1_ k_) ∨ w.heap.size ≤ k_) ∧ some k_ ≠ (v166 : Value).ownBlock ∧ some k_ ≠ (.slice Ao37 y177.length co37 : Value).ownBlock ∧ some k_ ≠ (v183 : Value).ownBlock ∧ some k_ ≠ (s_ : Value).ownBlock) (.slice Ao33 y172.length co33) y172) ∧ (Kd.N (Kd.slice 5 (Kd.int .u8)) 22 w' w.heap.size (fun k_ => ((P0_ k_ ∨ P1_ k_) ∨ w.heap.size ≤ k_) ∧ some k_ ≠ (.slice Ao29 y161.length co29 : Value).ownBlock ∧ some k_ ≠ (v166 : Value).ownBlock ∧ some k_ ≠ (.slice Ao33 y172.length co33 : Value).ownBlock ∧ some k_ ≠ (v183 : Value).ownBlock ∧ some k_ ≠ (s_ : Value).ownBlock) (.slice Ao37 y177.length co37) y177) ∧ (Kd.R (Kd.int .u8) 5 w' w.heap.size (fun k_ => (w.heap.size ≤ k_) ∧ some k_ ≠ (.slice Ao29 y161.length co29 : Value).ownBlock ∧ some k_ ≠ (v166 : Value).ownBlock ∧ some k_ ≠ (s_ : Value).ownBlock) v183 t182) ∧ (Kd.R (Kd.int .u8) 5 w' w.heap.size (fun k_ => (w.heap.size ≤ k_) ∧ some k_ ≠ (.slice Ao29 y161.length co29 : Value).ownBlock ∧ some k_ ≠ (v166 : Value).ownBlock ∧ some k_ ≠ (v183 : Value).ownBlock) s_ t185) ∧ (Below w.heap.size w w')) ?_ ?_
          rotate_left
          ·intro hJ18_20_21_28
           refine join_ (σ := Value) 14 u_t26f1t1f13 (fun s_ => [(50, .string (strOfNums t182)), (52, s_), (53, .string (strOfNums t185)), (54, .bool true), (55, .bool true), (56, .bool true), (57, v166), (59, v169)]) (fun s_ w' => (Kd.V (Kd.int .u8) 5 w' w.heap.size (fun k_ => ((P0_ k_ ∨ P1_ k_) ∨ w.heap.size ≤ k_) ∧ some k_ ≠ (.slice Ao29 y161.length co29 : Value).ownBlock ∧ some k_ ≠ (v166 : Value).ownBlock ∧ some k_ ≠ (.slice Ao33 y172.length co33 : Value).ownBlock ∧ some k_ ≠ (.slice Ao37 y177.length co37 : Value).ownBlock ∧ some k_ ≠ (v183 : Value).ownBlock ∧ some k_ ≠ (s_ : Value).ownBlock) (.slice A0 l0.length c0) l0) ∧ (Kd.V (Kd.int .u8) 5 w' w.heap.size (fun k_ => ((P0_ k_ ∨ P1_ k_) ∨ w.heap.size ≤ k_) ∧ some k_ ≠ (.slice Ao29 y161.length co29 : Value).ownBlock ∧ some k_ ≠ (v166 : Value).ownBlock ∧ some k_ ≠ (.slice Ao33 y172.length co33 : Value).ownBlock ∧ some k_ ≠ (.slice Ao37 y177.length co37 : Value).ownBlock ∧ some k_ ≠ (v183 : Value).ownBlock ∧ some k_ ≠ (s_ : Value).ownBlock) (.slice A1 l1.length c1) l1) ∧ (Kd.R (Kd.int .u8) 5 w' w.heap.size (fun k_ => (w.heap.size ≤ k_) ∧ some k_ ≠ (v166 : Value).ownBlock ∧ some k_ ≠ (v183 : Value).ownBlock ∧ some k_ ≠ (s_ : Value).ownBlock) (.slice Ao29 y161.length co29) y161) ∧ (Kd.R (Kd.int .u8) 5 w' w.heap.size (fun k_ => (w.heap.size ≤ k_) ∧ some k_ ≠ (.slice Ao29 y161.length co29 : Value).ownBlock ∧ some k_ ≠ (v183 : Value).ownBlock ∧ some k_ ≠ (s_ : Value).ownBlock) v166 t164) ∧ (Kd.V (Kd.int .u8) 5 w' w.heap.size (fun k_ => ((P0_ k_ ∨ P1_ k_) ∨ w.heap.size ≤ k_) ∧ some k_ ≠ (.slice Ao29 y161.length co29 : Value).ownBlock ∧ some k_ ≠ (v166 : Value).ownBlock ∧ some k_ ≠ (.slice Ao33 y172.length co33 : Value).ownBlock ∧ some k_ ≠ (.slice Ao37 y177.length co37 : Value).ownBlock ∧ some k_ ≠ (v183 : Value).ownBlock ∧ some k_ ≠ (s_ : Value).ownBlock) v169 t168) ∧ (Kd.N (Kd.slice 5 (Kd.int .u8)) 22 w' w.heap.size (fun k_ => ((P0_ k_ ∨ P1_ k_) ∨ w.heap.size ≤ k_) ∧ some k_ ≠ (v166 : Value).ownBlock ∧ some k_ ≠ (.slice Ao37 y177.length co37 : Value).ownBlock ∧ some k_ ≠ (v183 : Value).ownBlock ∧ some k_ ≠ (s_ : Value).ownBlock) (.slice Ao33 y172.length co33) y172) ∧ (Kd.N (Kd.slice 5 (Kd.int .u8)) 22 w' w.heap.size (fun k_ => ((P0_ k_ ∨ P1_ k_) ∨ w.heap.size ≤ k_) ∧ some k_ ≠ (.slice Ao29 y161.length co29 : Value).ownBlock ∧ some k_ ≠ (v166 : Value).ownBlock ∧ some k_ ≠ (.slice Ao33 y172.length co33 : Value).ownBlock ∧ some k_ ≠ (v183 : Value).ownBlock ∧ some k_ ≠ (s_ : Value).ownBlock) (.slice Ao37 y177.length co37) y177) ∧ (Kd.R (Kd.int .u8) 5 w' w.heap.size (fun k_ => (w.heap.size ≤ k_) ∧ some k_ ≠ (.slice Ao29 y161.length co29 : Value).ownBlock ∧ some k_ ≠ (v166 : Value).ownBlock ∧ some k_ ≠ (s_ : Value).ownBlock) v183 t182) ∧ (Kd.R (Kd.int .u8) 5 w' w.heap.size (fun k_ => (w.heap.size ≤ k_) ∧ some k_ ≠ (.slice Ao29 y161.length co29 : Value).ownBlock ∧ some k_ ≠ (v166 : Value).ownBlock ∧ some k_ ≠ (v183 : Value).ownBlock) s_ t185) ∧ (Below w.heap.size w w')) ?_ ?_
           rotate_left
           ·intro hJ18_20_21
            refine join_ (σ := Value) 20 u_t21f20 (fun s_ => [(50, .string (strOfNums t182)), (52, s_)]) (fun s_ w' => (Kd.V (Kd.int .u8) 5 w' w.heap.size (fun k_ => ((P0_ k_ ∨ P1_ k_) ∨ w.heap.size ≤ k_) ∧ some k_ ≠ (.slice Ao29 y161.length co29 : Value).ownBlock ∧ some k_ ≠ (v166 : Value).ownBlock ∧ some k_ ≠ (.slice Ao33 y172.length co33 : Value).ownBlock ∧ some k_ ≠ (.slice Ao37 y177.length co37 : Value).ownBlock ∧ some k_ ≠ (v183 : Value).ownBlock ∧ some k_ ≠ (s_ : Value).ownBlock) (.slice A0 l0.length c0) l0) ∧ (Kd.V (Kd.int .u8) 5 w' w.heap.size (fun k_ => ((P0_ k_ ∨ P1_ k_) ∨ w.heap.size ≤ k_) ∧ some k_ ≠ (.slice Ao29 y161.length co29 : Value).ownBlock ∧ some k_ ≠ (v166 : Value).ownBlock ∧ some k_ ≠ (.slice Ao33 y172.length co33 : Value).ownBlock ∧ some k_ ≠ (.slice Ao37 y177.length co37 : Value).ownBlock ∧ some k_ ≠ (v183 : Value).ownBlock ∧ some k_ ≠ (s_ : Value).ownBlock) (.slice A1 l1.length c1) l1) ∧ (Kd.R (Kd.int .u8) 5 w' w.heap.size (fun k_ => (w.heap.size ≤ k_) ∧ some k_ ≠ (v166 : Value).ownBlock ∧ some k_ ≠ (v183 : Value).ownBlock ∧ some k_ ≠ (s_ : Value).ownBlock) (.slice Ao29 y161.length co29) y161) ∧ (Kd.R (Kd.int .u8) 5 w' w.heap.size (fun k_ => (w.heap.size ≤ k_) ∧ some k_ ≠ (.slice Ao29 y161.length co29 : Value).ownBlock ∧ some k_ ≠ (v183 : Value).ownBlock ∧ some k_ ≠ (s_ : Value).ownBlock) v166 t164) ∧ (Kd.V (Kd.int .u8) 5 w' w.heap.size (fun k_ => ((P0_ k_ ∨ P1_ k_) ∨ w.heap.size ≤ k_) ∧ some k_ ≠ (.slice Ao29 y161.length co29 : Value).ownBlock ∧ some k_ ≠ (v166 : Value).ownBlock ∧ some k_ ≠ (.slice Ao33 y172.length co33 : Value).ownBlock ∧ some k_ ≠ (.slice Ao37 y177.length co37 : Value).ownBlock ∧ some k_ ≠ (v183 : Value).ownBlock ∧ some k_ ≠ (s_ : Value).ownBlock) v169 t168) ∧ (Kd.N (Kd.slice 5 (Kd.int .u8)) 22 w' w.heap.size (fun k_ => ((P0_ k_ ∨ P1_ k_) ∨ w.heap.size ≤ k_) ∧ some k_ ≠ (v166 : Value).ownBlock ∧ some k_ ≠ (.slice Ao37 y177.length co37 : Value).ownBlock ∧ some k_ ≠ (v183 : Value).ownBlock ∧ some k_ ≠ (s_ : Value).ownBlock) (.slice Ao33 y172.length co33) y172) ∧ (Kd.N (Kd.slice 5 (Kd.int .u8)) 22 w' w.heap.size (fun k_ => ((P0_ k_ ∨ P1_ k_) ∨ w.heap.size ≤ k_) ∧ some k_ ≠ (.slice Ao29 y161.length co29 : Value).ownBlock ∧ some k_ ≠ (v166 : Value).ownBlock ∧ some k_ ≠ (.slice Ao33 y172.length co33 : Value).ownBlock ∧ some k_ ≠ (v183 : Value).ownBlock ∧ some k_ ≠ (s_ : Value).ownBlock) (.slice Ao37 y177.length co37) y177) ∧ (Kd.R (Kd.int .u8) 5 w' w.heap.size (fun k_ => (w.heap.size ≤ k_) ∧ some k_ ≠ (.slice Ao29 y161.length co29 : Value).ownBlock ∧ some k_ ≠ (v166 : Value).ownBlock ∧ some k_ ≠ (s_ : Value).ownBlock) v183 t182) ∧ (Kd.R (Kd.int .u8) 5 w' w.heap.size (fun k_ => (w.heap.size ≤ k_) ∧ some k_ ≠ (.slice Ao29 y161.length co29 : Value).ownBlock ∧ some k_ ≠ (v166 : Value).ownBlock ∧ some k_ ≠ (v183 : Value).ownBlock) s_ t185) ∧ (Below w.heap.size w w')) ?_ ?_
            rotate_left
            ·intro hJ18_20
             refine join_ (σ := Value) 20 u_t18f1t3f19 (fun s_ => [(52, s_), (53, .string (strOfNums t185))]) (fun s_ w' => (Kd.V (Kd.int .u8) 5 w' w.heap.size (fun k_ => ((P0_ k_ ∨ P1_ k_) ∨ w.heap.size ≤ k_) ∧ some k_ ≠ (.slice Ao29 y161.length co29 : Value).ownBlock ∧ some k_ ≠ (v166 : Value).ownBlock ∧ some k_ ≠ (.slice Ao33 y172.length co33 : Value).ownBlock ∧ some k_ ≠ (.slice Ao37 y177.length co37 : Value).ownBlock ∧ some k_ ≠ (v183 : Value).ownBlock ∧ some k_ ≠ (s_ : Value).ownBlock) (.slice A0 l0.length c0) l0) ∧ (Kd.V (Kd.int .u8) 5 w' w.heap.size (fun k_ => ((P0_ k_ ∨ P1_ k_) ∨ w.heap.size ≤ k_) ∧ some k_ ≠ (.slice Ao29 y161.length co29 : Value).ownBlock ∧ some k_ ≠ (v166 : Value).ownBlock ∧ some k_ ≠ (.slice Ao33 y172.length co33 : Value).ownBlock ∧ some k_ ≠ (.slice Ao37 y177.length co37 : Value).ownBlock ∧ some k_ ≠ (v183 : Value).ownBlock ∧ some k_ ≠ (s_ : Value).ownBlock) (.slice A1 l1.length c1) l1) ∧ (Kd.R (Kd.int .u8) 5 w' w.heap.size (fun k_ => (w.heap.size ≤ k_) ∧ some k_ ≠ (v166 : Value).ownBlock ∧ some k_ ≠ (v183 : Value).ownBlock ∧ some k_ ≠ (s_ : Value).ownBlock) (.slice Ao29 y161.length co29) y161) ∧ (Kd.R (Kd.int .u8) 5 w' w.heap.size (fun k_ => (w.heap.size ≤ k_) ∧ some k_ ≠ (.slice Ao29 y161.length co29 : Value).ownBlock ∧ some k_ ≠ (v183 : Value).ownBlock ∧ some k_ ≠ (s_ : Value).ownBlock) v166 t164) ∧ (Kd.V (Kd.int .u8) 5 w' w.heap.size (fun k_ => ((P0_ k_ ∨ P1_ k_) ∨ w.heap.size ≤ k_) ∧ some k_ ≠ (.slice Ao29 y161.length co29 : Value).ownBlock ∧ some k_ ≠ (v166 : Value).ownBlock ∧ some k_ ≠ (.slice Ao33 y172.length co33 : Value).ownBlock ∧ some k_ ≠ (.slice Ao37 y177.length co37 : Value).ownBlock ∧ some k_ ≠ (v183 : Value).ownBlock ∧ some k_ ≠ (s_ : Value).ownBlock) v169 t168) ∧ (Kd.N (Kd.slice 5 (Kd.int .u8)) 22 w' w.heap.size (fun k_ => ((P0_ k_ ∨ P1_ k_) ∨ w.heap.size ≤ k_) ∧ some k_ ≠ (v166 : Value).ownBlock ∧ some k_ ≠ (.slice Ao37 y177.length co37 : Value).ownBlock ∧ some k_ ≠ (v183 : Value).ownBlock ∧ some k_ ≠ (s_ : Value).ownBlock) (.slice Ao33 y172.length co33) y172) ∧ (Kd.N (Kd.slice 5 (Kd.int .u8)) 22 w' w.heap.size (fun k_ => ((P0_ k_ ∨ P1_ k_) ∨ w.heap.size ≤ k_) ∧ some k_ ≠ (.slice Ao29 y161.length co29 : Value).ownBlock ∧ some k_ ≠ (v166 : Value).ownBlock ∧ some k_ ≠ (.slice Ao33 y172.length co33 : Value).ownBlock ∧ some k_ ≠ (v183 : Value).ownBlock ∧ some k_ ≠ (s_ : Value).ownBlock) (.slice Ao37 y177.length co37) y177) ∧ (Kd.R (Kd.int .u8) 5 w' w.heap.size (fun k_ => (w.heap.size ≤ k_) ∧ some k_ ≠ (.slice Ao29 y161.length co29 : Value).ownBlock ∧ some k_ ≠ (v166 : Value).ownBlock ∧ some k_ ≠ (s_ : Value).ownBlock) v183 t182) ∧ (Kd.R (Kd.int .u8) 5 w' w.heap.size (fun k_ => (w.heap.size ≤ k_) ∧ some k_ ≠ (.slice Ao29 y161.length co29 : Value).ownBlock ∧ some k_ ≠ (v166 : Value).ownBlock ∧ some k_ ≠ (v183 : Value).ownBlock) s_ t185) ∧ (Below w.heap.size w w')) ?_ ?_
             rotate_left
             ·intro hJ20_21
              refine join_ (σ := Unit) 21 u_t20f21 (fun s_ => [(50, .string (strOfNums t182))]) (fun s_ w' => (Kd.V (Kd.int .u8) 5 w' w.heap.size (fun k_ => ((P0_ k_ ∨ P1_ k_) ∨ w.heap.size ≤ k_) ∧ some k_ ≠ (.slice Ao29 y161.length co29 : Value).ownBlock ∧ some k_ ≠ (v166 : Value).ownBlock ∧ some k_ ≠ (.slice Ao33 y172.length co33 : Value).ownBlock ∧ some k_ ≠ (.slice Ao37 y177.length co37 : Value).ownBlock ∧ some k_ ≠ (v183 : Value).ownBlock) (.slice A0 l0.length c0) l0) ∧ (Kd.V (Kd.int .u8) 5 w' w.heap.size (fun k_ => ((P0_ k_ ∨ P1_ k_) ∨ w.heap.size ≤ k_) ∧ some k_ ≠ (.slice Ao29 y161.length co29 : Value).ownBlock ∧ some k_ ≠ (v166 : Value).ownBlock ∧ some k_ ≠ (.slice Ao33 y172.length co33 : Value).ownBlock ∧ some k_ ≠ (.slice Ao37 y177.length co37 : Value).ownBlock ∧ some k_ ≠ (v183 : Value).ownBlock) (.slice A1 l1.length c1) l1) ∧ (Kd.R (Kd.int .u8) 5 w' w.heap.size (fun k_ => (w.heap.size ≤ k_) ∧ some k_ ≠ (v166 : Value).ownBlock ∧ some k_ ≠ (v183 : Value).ownBlock) (.slice Ao29 y161.length co29) y161) ∧ (Kd.R (Kd.int .u8) 5 w' w.heap.size (fun k_ => (w.heap.size ≤ k_) ∧ some k_ ≠ (.slice Ao29 y161.length co29 : Value).ownBlock ∧ some k_ ≠ (v183 : Value).ownBlock) v166 t164) ∧ (Kd.V (Kd.int .u8) 5 w' w.heap.size (fun k_ => ((P0_ k_ ∨ P1_ k_) ∨ w.heap.size ≤ k_) ∧ some k_ ≠ (.slice Ao29 y161.length co29 : Value).ownBlock ∧ some k_ ≠ (v166 : Value).ownBlock ∧ some k_ ≠ (.slice Ao33 y172.length co33 : Value).ownBlock ∧ some k_ ≠ (.slice Ao37 y177.length co37 : Value).ownBlock ∧ some k_ ≠ (v183 : Value).ownBlock) v169 t168) ∧ (Kd.N (Kd.slice 5 (Kd.int .u8)) 22 w' w.heap.size (fun k_ => ((P0_ k_ ∨ P1_ k_) ∨ w.heap.size ≤ k_) ∧ some k_ ≠ (v166 : Value).ownBlock ∧ some k_ ≠ (.slice Ao37 y177.length co37 : Value).ownBlock ∧ some k_ ≠ (v183 : Value).ownBlock) (.slice Ao33 y172.length co33) y172) ∧ (Kd.N (Kd.slice 5 (Kd.int .u8)) 22 w' w.heap.size (fun k_ => ((P0_ k_ ∨ P1_ k_) ∨ w.heap.size ≤ k_) ∧ some k_ ≠ (.slice Ao29 y161.length co29 : Value).ownBlock ∧ some k_ ≠ (v166 : Value).ownBlock ∧ some k_ ≠ (.slice Ao33 y172.length co33 : Value).ownBlock ∧ some k_ ≠ (v183 : Value).ownBlock) (.slice Ao37 y177.length co37) y177) ∧ (Kd.R (Kd.int .u8) 5 w' w.heap.size (fun k_ => (w.heap.size ≤ k_) ∧ some k_ ≠ (.slice Ao29 y161.length co29 : Value).ownBlock ∧ some k_ ≠ (v166 : Value).ownBlock) v183 t182) ∧ (Below w.heap.size w w')) ?_ ?_
              rotate_left
              ·intro hJ18
               refine join_ (σ := Value) 21 u_t18f1t2f20 (fun s_ => [(52, s_)]) (fun s_ w' => (Kd.V (Kd.int .u8) 5 w' w.heap.size (fun k_ => ((P0_ k_ ∨ P1_ k_) ∨ w.heap.size ≤ k_) ∧ some k_ ≠ (.slice Ao29 y161.length co29 : Value).ownBlock ∧ some k_ ≠ (v166 : Value).ownBlock ∧ some k_ ≠ (.slice Ao33 y172.length co33 : Value).ownBlock ∧ some k_ ≠ (.slice Ao37 y177.length co37 : Value).ownBlock ∧ some k_ ≠ (v183 : Value).ownBlock ∧ some k_ ≠ (s_ : Value).ownBlock) (.slice A0 l0.length c0) l0) ∧ (Kd.V (Kd.int .u8) 5 w' w.heap.size (fun k_ => ((P0_ k_ ∨ P1_ k_) ∨ w.heap.size ≤ k_) ∧ some k_ ≠ (.slice Ao29 y161.length co29 : Value).ownBlock ∧ some k_ ≠ (v166 : Value).ownBlock ∧ some k_ ≠ (.slice Ao33 y172.length co33 : Value).ownBlock ∧ some k_ ≠ (.slice Ao37 y177.length co37 : Value).ownBlock ∧ some k_ ≠ (v183 : Value).ownBlock ∧ some k_ ≠ (s_ : Value).ownBlock) (.slice A1 l1.length c1) l1) ∧ (Kd.R (Kd.int .u8) 5 w' w.heap.size (fun k_ => (w.heap.size ≤ k_) ∧ some k_ ≠ (v166 : Value).ownBlock ∧ some k_ ≠ (v183 : Value).ownBlock ∧ some k_ ≠ (s_ : Value).ownBlock) (.slice Ao29 y161.length co29) y161) ∧ (Kd.R (Kd.int .u8) 5 w' w.heap.size (fun k_ => (w.heap.size ≤ k_) ∧ some k_ ≠ (.slice Ao29 y161.length co29 : Value).ownBlock ∧ some k_ ≠ (v183 : Value).ownBlock ∧ some k_ ≠ (s_ : Value).ownBlock) v166 t164) ∧ (Kd.V (Kd.int .u8) 5 w' w.heap.size (fun k_ => ((P0_ k_ ∨ P1_ k_) ∨ w.heap.size ≤ k_) ∧ some k_ ≠ (.slice Ao29 y161.length co29 : Value).ownBlock ∧ some k_ ≠ (v166 : Value).ownBlock ∧ some k_ ≠ (.slice Ao33 y172.length co33 : Value).ownBlock ∧ some k_ ≠ (.slice Ao37 y177.length co37 : Value).ownBlock ∧ some k_ ≠ (v183 : Value).ownBlock ∧ some k_ ≠ (s_ : Value).ownBlock) v169 t168) ∧ (Kd.N (Kd.slice 5 (Kd.int .u8)) 22 w' w.heap.size (fun k_ => ((P0_ k_ ∨ P1_ k_) ∨ w.heap.size ≤ k_) ∧ some k_ ≠ (v166 : Value).ownBlock ∧ some k_ ≠ (.slice Ao37 y177.length co37 : Value).ownBlock ∧ some k_ ≠ (v183 : Value).ownBlock ∧ some k_ ≠ (s_ : Value).ownBlock) (.slice Ao33 y172.length co33) y172) ∧ (Kd.N (Kd.slice 5 (Kd.int .u8)) 22 w' w.heap.size (fun k_ => ((P0_ k_ ∨ P1_ k_) ∨ w.heap.size ≤ k_) ∧ some k_ ≠ (.slice Ao29 y161.length co29 : Value).ownBlock ∧ some k_ ≠ (v166 : Value).ownBlock ∧ some k_ ≠ (.slice Ao33 y172.length co33 : Value).ownBlock ∧ some k_ ≠ (v183 : Value).ownBlock ∧ some k_ ≠ (s_ : Value).ownBlock) (.slice Ao37 y177.length co37) y177) ∧ (Kd.R (Kd.int .u8) 5 w' w.heap.size (fun k_ => (w.heap.size ≤ k_) ∧ some k_ ≠ (.slice Ao29 y161.length co29 : Value).ownBlock ∧ some k_ ≠ (v166 : Value).ownBlock ∧ some k_ ≠ (s_ : Value).ownBlock) v183 t182) ∧ (Kd.R (Kd.int .u8) 5 w' w.heap.size (fun k_ => (w.heap.size ≤ k_) ∧ some k_ ≠ (.slice Ao29 y161.length co29 : Value).ownBlock ∧ some k_ ≠ (v166 : Value).ownBlock ∧ some k_ ≠ (v183 : Value).ownBlock) s_ t185) ∧ (Below w.heap.size w w')) ?_ ?_
               rotate_left
               ·intro hJ20
                refine two_ (i := 18) (j := 20) (Ni := some 50) (Nj := some 52) u_t20f21 u_t18f1t2f20 rfl rfl rfl rfl (two_of HT_.out (by kernel_rfl)) (by decide) (by decide) (fun K hK => ?_) (fun K hK => ?_)
                ·skip
                 have hcv40 := own_string (P := Tryd.prog) Tryd.underlying22 Tryd.underlying5 Tryd.underlying9 (Kd.own_of_R HO184.out)
                 refine value_ (w1 := ?_) (v := ?_) (by rfl) rfl ?_ ?_
                 rotate_left 2
                 ·go_simp
                  constructor
                  ·rfl
                  rfl
                 clear hcv40
                 refine hK.out _ _ trivial (fun hHeld => ?_)
                 clear hK K
                 refine norm_ (a' := ?_) ?_ ?_
                 rotate_left
                 ·show Act.put _ (some 50) _ = _
                  exact uP
                 exact norm_ (by first | (simp only [putAll, Act.put, List.setIfInBounds_toArray, List.set_cons_zero, List.set_cons_succ]; done) | (simp only [putAll, Act.put, List.setIfInBounds_toArray, List.set_cons_zero, List.set_cons_succ]; rfl)) (hJ18 () _ ⟨(by (with_reducible repeat (first | apply Kd.V_alloc | apply Kd.V_drewN | apply Kd.V_drew)); exact Kd.V_mono HO0.out (fun _ hk => ⟨hk.1.1.1.1.1, ⟨hk.1.1.1.1.2, ⟨hk.1.1.1.2, ⟨hk.1.1.2, ⟨hk.1.2, hk.2⟩⟩⟩⟩⟩)), (by (with_reducible repeat (first | apply Kd.V_alloc | apply Kd.V_drewN | apply Kd.V_drew)); exact Kd.V_mono HO1.out (fun _ hk => ⟨hk.1.1.1.1.1, ⟨hk.1.1.1.1.2, ⟨hk.1.1.1.2, ⟨hk.1.1.2, ⟨hk.1.2, hk.2⟩⟩⟩⟩⟩)), (by (with_reducible repeat (first | apply Kd.R_alloc | apply Kd.R_drewN | apply Kd.R_drew)); exact Kd.R_mono HO163.out (fun _ hk => ⟨hk.1.1, ⟨hk.1.2, hk.2⟩⟩)), (by (with_reducible repeat (first | apply Kd.R_alloc | apply Kd.R_drewN | apply Kd.R_drew)); exact Kd.R_mono HO167.out (fun _ hk => ⟨hk.1.1.1, ⟨hk.1.2, hk.2⟩⟩)), (by (with_reducible repeat (first | apply Kd.V_alloc | apply Kd.V_drewN | apply Kd.V_drew)); exact Kd.V_mono HO170.out (fun _ hk => ⟨hk.1.1.1.1, ⟨hk.1.1.1.2.1, ⟨hk.1.1.1.2.2, ⟨hk.1.1.2, ⟨hk.1.2, hk.2⟩⟩⟩⟩⟩)), (by (with_reducible repeat (first | apply Kd.N_alloc | apply Kd.N_drewN | apply Kd.N_drew)); exact Kd.N_mono HO174.out (fun _ hk => ⟨hk.1.1.1, ⟨hk.1.1.2, ⟨hk.1.2, hk.2⟩⟩⟩)), (by (with_reducible repeat (first | apply Kd.N_alloc | apply Kd.N_drewN | apply Kd.N_drew)); exact Kd.N_mono HO179.out (fun _ hk => ⟨hk.1.1, ⟨hk.1.2.1, ⟨hk.1.2.2.1, ⟨hk.1.2.2.2, hk.2⟩⟩⟩⟩)), (by (with_reducible repeat (first | apply Kd.R_alloc | apply Kd.R_drewN | apply Kd.R_drew)); exact Kd.R_mono HO184.out (fun _ hk => ⟨hk.1.1.1, ⟨hk.1.2, hk.2⟩⟩)), (uB0 HB)⟩)
                skip
                refine goes_ Tryd.func12 (by kernel_rfl) rfl #[.slice A0 l0.length c0] (by rfl) rfl rfl uC ?_
                with_reducible refine (colloquyref05_Seal.calls k _ _ l0 t185 _ ?side1 ?side2 A17.out).mono ?_
                (case side1 => exact uS (Kd.V_reads' HO0.out).2.2)
                (case side2 => exact (Kd.V_reads' HO0.out).2.1)
                rintro e w40 ⟨v186, rfl, ho0, hb⟩
                refine ⟨_, rfl, ?_⟩
                replace HO0 := Aside0.mk (Kd.V_elder' (uV HO0) (Kd.R_base ho0) hb)
                replace HO1 := Aside0.mk (Kd.V_elder' (uV HO1) (Kd.R_base ho0) hb)
                replace HO170 := Aside0.mk (Kd.V_elder' (uV HO170) (Kd.R_base ho0) hb)
                replace HO174 := Aside0.mk (Kd.N_elder' (uN HO174) (Kd.R_base ho0) hb)
                replace HO179 := Aside0.mk (Kd.N_elder' (uN HO179) (Kd.R_base ho0) hb)
                have HO187 := Aside0.mk (Kd.R_lower (Kd.R_new' (Kd.R_new' (Kd.R_new' (Kd.R_newM (M := fun k_ => (w.heap.size ≤ k_)) ho0 (below_size (uB0 HB)) (fun k_ h_ => h_)) (Kd.R_lt (uR HO163))) (Kd.R_lt (uR HO167))) (Kd.R_lt (uR HO184))) (below_size (uB0 HB)))
                replace HO163 := Aside0.mk (Kd.R_elder' (uR HO163) (Kd.R_base ho0) hb)
                replace HO167 := Aside0.mk (Kd.R_elder' (uR HO167) (Kd.R_base ho0) hb)
                replace HO184 := Aside0.mk (Kd.R_elder' (uR HO184) (Kd.R_base ho0) hb)
                replace HB := Aside0.mk (below_step (uB0 HB) hb)
                (try clear hb)
                (try clear hb2)
                (try clear hk)
                (try clear hi)
                (try clear ho0)
                refine hK.out _ _ trivial (fun hHeld => ?_)
                clear hK K
                refine norm_ (a' := ?_) ?_ ?_
                rotate_left
                ·show Act.put _ (some 52) _ = _
                 exact uP
                exact norm_ (by first | (simp only [putAll, Act.put, List.setIfInBounds_toArray, List.set_cons_zero, List.set_cons_succ]; done) | (simp only [putAll, Act.put, List.setIfInBounds_toArray, List.set_cons_zero, List.set_cons_succ]; rfl)) (hJ20 (v186) _ ⟨(by (with_reducible repeat (first | apply Kd.V_alloc | apply Kd.V_drewN | apply Kd.V_drew)); exact Kd.V_mono HO0.out (fun _ hk => ⟨hk.1.1.1.1.1.1, ⟨hk.1.1.1.1.1.2, ⟨hk.1.1.1.1.2, ⟨hk.1.1.1.2, ⟨hk.1.1.2, ⟨hk.1.2, hk.2⟩⟩⟩⟩⟩⟩)), (by (with_reducible repeat (first | apply Kd.V_alloc | apply Kd.V_drewN | apply Kd.V_drew)); exact Kd.V_mono HO1.out (fun _ hk => ⟨hk.1.1.1.1.1.1, ⟨hk.1.1.1.1.1.2, ⟨hk.1.1.1.1.2, ⟨hk.1.1.1.2, ⟨hk.1.1.2, ⟨hk.1.2, hk.2⟩⟩⟩⟩⟩⟩)), (by (with_reducible repeat (first | apply Kd.R_alloc | apply Kd.R_drewN | apply Kd.R_drew)); exact Kd.R_mono HO163.out (fun _ hk => ⟨hk.1.1.1, ⟨hk.1.1.2, ⟨hk.1.2, hk.2⟩⟩⟩)), (by (with_reducible repeat (first | apply Kd.R_alloc | apply Kd.R_drewN | apply Kd.R_drew)); exact Kd.R_mono HO167.out (fun _ hk => ⟨hk.1.1.1.1, ⟨hk.1.1.2, ⟨hk.1.2, hk.2⟩⟩⟩)), (by (with_reducible repeat (first | apply Kd.V_alloc | apply Kd.V_drewN | apply Kd.V_drew)); exact Kd.V_mono HO170.out (fun _ hk => ⟨hk.1.1.1.1.1, ⟨hk.1.1.1.1.2.1, ⟨hk.1.1.1.1.2.2, ⟨hk.1.1.1.2, ⟨hk.1.1.2, ⟨hk.1.2, hk.2⟩⟩⟩⟩⟩⟩)), (by (with_reducible repeat (first | apply Kd.N_alloc | apply Kd.N_drewN | apply Kd.N_drew)); exact Kd.N_mono HO174.out (fun _ hk => ⟨hk.1.1.1.1, ⟨hk.1.1.1.2, ⟨hk.1.1.2, ⟨hk.1.2, hk.2⟩⟩⟩⟩)), (by (with_reducible repeat (first | apply Kd.N_alloc | apply Kd.N_drewN | apply Kd.N_drew)); exact Kd.N_mono HO179.out (fun _ hk => ⟨hk.1.1.1, ⟨hk.1.1.2.1, ⟨hk.1.1.2.2.1, ⟨hk.1.1.2.2.2, ⟨hk.1.2, hk.2⟩⟩⟩⟩⟩)), (by (with_reducible repeat (first | apply Kd.R_alloc | apply Kd.R_drewN | apply Kd.R_drew)); exact Kd.R_mono HO184.out (fun _ hk => ⟨hk.1.1.1.1, ⟨hk.1.1.2, ⟨hk.1.2, hk.2⟩⟩⟩)), (by (with_reducible repeat (first | apply Kd.R_alloc | apply Kd.R_drewN | apply Kd.R_drew)); exact Kd.R_mono HO187.out (fun _ hk => ⟨hk.1.1.1.1, ⟨hk.1.1.2, ⟨hk.1.2, hk.2⟩⟩⟩)), (uB0 HB)⟩)
               skip
               rintro v186 w41 ⟨h0_, h1_, h2_, h3_, h4_, h5_, h6_, h7_, h8_, h9_⟩
               replace HO0 : Aside0 (Kd.V (Kd.int .u8) 5 w41 w.heap.size (fun k_ => ((P0_ k_ ∨ P1_ k_) ∨ w.heap.size ≤ k_) ∧ some k_ ≠ (.slice Ao29 y161.length co29 : Value).ownBlock ∧ some k_ ≠ (v166 : Value).ownBlock ∧ some k_ ≠ (.slice Ao33 y172.length co33 : Value).ownBlock ∧ some k_ ≠ (.slice Ao37 y177.length co37 : Value).ownBlock ∧ some k_ ≠ (v183 : Value).ownBlock ∧ some k_ ≠ (v186 : Value).ownBlock) (.slice A0 l0.length c0) l0) := ⟨h0_⟩
               replace HO1 : Aside0 (Kd.V (Kd.int .u8) 5 w41 w.heap.size (fun k_ => ((P0_ k_ ∨ P1_ k_) ∨ w.heap.size ≤ k_) ∧ some k_ ≠ (.slice Ao29 y161.length co29 : Value).ownBlock ∧ some k_ ≠ (v166 : Value).ownBlock ∧ some k_ ≠ (.slice Ao33 y172.length co33 : Value).ownBlock ∧ some k_ ≠ (.slice Ao37 y177.length co37 : Value).ownBlock ∧ some k_ ≠ (v183 : Value).ownBlock ∧ some k_ ≠ (v186 : Value).ownBlock) (.slice A1 l1.length c1) l1) := ⟨h1_⟩
               replace HO163 : Aside0 (Kd.R (Kd.int .u8) 5 w41 w.heap.size (fun k_ => (w.heap.size ≤ k_) ∧ some k_ ≠ (v166 : Value).ownBlock ∧ some k_ ≠ (v183 : Value).ownBlock ∧ some k_ ≠ (v186 : Value).ownBlock) (.slice Ao29 y161.length co29) y161) := ⟨h2_⟩
               replace HO167 : Aside0 (Kd.R (Kd.int .u8) 5 w41 w.heap.size (fun k_ => (w.heap.size ≤ k_) ∧ some k_ ≠ (.slice Ao29 y161.length co29 : Value).ownBlock ∧ some k_ ≠ (v183 : Value).ownBlock ∧ some k_ ≠ (v186 : Value).ownBlock) v166 t164) := ⟨h3_⟩
               replace HO170 : Aside0 (Kd.V (Kd.int .u8) 5 w41 w.heap.size (fun k_ => ((P0_ k_ ∨ P1_ k_) ∨ w.heap.size ≤ k_) ∧ some k_ ≠ (.slice Ao29 y161.length co29 : Value).ownBlock ∧ some k_ ≠ (v166 : Value).ownBlock ∧ some k_ ≠ (.slice Ao33 y172.length co33 : Value).ownBlock ∧ some k_ ≠ (.slice Ao37 y177.length co37 : Value).ownBlock ∧ some k_ ≠ (v183 : Value).ownBlock ∧ some k_ ≠ (v186 : Value).ownBlock) v169 t168) := ⟨h4_⟩
               have HO174 : Aside0 (Kd.N (Kd.slice 5 (Kd.int .u8)) 22 w41 w.heap.size (fun k_ => ((P0_ k_ ∨ P1_ k_) ∨ w.heap.size ≤ k_) ∧ some k_ ≠ (v166 : Value).ownBlock ∧ some k_ ≠ (.slice Ao37 y177.length co37 : Value).ownBlock ∧ some k_ ≠ (v183 : Value).ownBlock ∧ some k_ ≠ (v186 : Value).ownBlock) (.slice Ao33 y172.length co33) y172) := ⟨h5_⟩
               have HO179 : Aside0 (Kd.N (Kd.slice 5 (Kd.int .u8)) 22 w41 w.heap.size (fun k_ => ((P0_ k_ ∨ P1_ k_) ∨ w.heap.size ≤ k_) ∧ some k_ ≠ (.slice Ao29 y161.length co29 : Value).ownBlock ∧ some k_ ≠ (v166 : Value).ownBlock ∧ some k_ ≠ (.slice Ao33 y172.length co33 : Value).ownBlock ∧ some k_ ≠ (v183 : Value).ownBlock ∧ some k_ ≠ (v186 : Value).ownBlock) (.slice Ao37 y177.length co37) y177) := ⟨h6_⟩
               have HO184 : Aside0 (Kd.R (Kd.int .u8) 5 w41 w.heap.size (fun k_ => (w.heap.size ≤ k_) ∧ some k_ ≠ (.slice Ao29 y161.length co29 : Value).ownBlock ∧ some k_ ≠ (v166 : Value).ownBlock ∧ some k_ ≠ (v186 : Value).ownBlock) v183 t182) := ⟨h7_⟩
               have HO187 : Aside0 (Kd.R (Kd.int .u8) 5 w41 w.heap.size (fun k_ => (w.heap.size ≤ k_) ∧ some k_ ≠ (.slice Ao29 y161.length co29 : Value).ownBlock ∧ some k_ ≠ (v166 : Value).ownBlock ∧ some k_ ≠ (v183 : Value).ownBlock) v186 t185) := ⟨h8_⟩
               replace HB : Aside0 (Below w.heap.size w w41) := ⟨h9_⟩
               clear h0_ h1_ h2_ h3_ h4_ h5_ h6_ h7_ h8_ h9_
               have hHeld := trivial
               refine norm_ (a' := ?_) ?_ ?_
               rotate_left
               ·simp only [putAll, Act.put, List.setIfInBounds_toArray, List.set_cons_zero, List.set_cons_succ]
                rfl
               refine two_ (i := 18) (j := 21) (Ni := some 50) (Nj := some 53) u_t21f20 u_t18f1t3f19 rfl rfl rfl rfl (two_of HT_.out (by kernel_rfl)) (by decide) (by decide) (fun K hK => ?_) (fun K hK => ?_)
               ·skip
                have hcv42 := own_string (P := Tryd.prog) Tryd.underlying22 Tryd.underlying5 Tryd.underlying9 (Kd.own_of_R HO184.out)
                refine value_ (w1 := ?_) (v := ?_) (by rfl) rfl ?_ ?_
                rotate_left 2
                ·go_simp
                 constructor
                 ·rfl
                 rfl
                clear hcv42
                refine hK.out _ _ trivial (fun hHeld => ?_)
                clear hK K
                refine norm_ (a' := ?_) ?_ ?_
                rotate_left
                ·show Act.put _ (some 50) _ = _
                 exact uP
                exact norm_ (by first | (simp only [putAll, Act.put, List.setIfInBounds_toArray, List.set_cons_zero, List.set_cons_succ]; done) | (simp only [putAll, Act.put, List.setIfInBounds_toArray, List.set_cons_zero, List.set_cons_succ]; rfl)) (hJ18_20 (v186) _ ⟨(uV HO0), (uV HO1), (uR HO163), (uR HO167), (uV HO170), (uN HO174), (uN HO179), (uR HO184), (uR HO187), (uB0 HB)⟩)
               skip
               have hcv42 := own_string (P := Tryd.prog) Tryd.underlying22 Tryd.underlying5 Tryd.underlying9 (Kd.own_of_R HO187.out)
               refine value_ (w1 := ?_) (v := ?_) (by rfl) rfl ?_ ?_
               rotate_left 2
               ·go_simp
                constructor
                ·rfl
                rfl
               clear hcv42
               refine hK.out _ _ trivial (fun hHeld => ?_)
               clear hK K
               refine norm_ (a' := ?_) ?_ ?_
               rotate_left
               ·show Act.put _ (some 53) _ = _
                exact uP
               exact norm_ (by first | (simp only [putAll, Act.put, List.setIfInBounds_toArray, List.set_cons_zero, List.set_cons_succ]; done) | (simp only [putAll, Act.put, List.setIfInBounds_toArray, List.set_cons_zero, List.set_cons_succ]; rfl)) (hJ20_21 (v186) _ ⟨(uV HO0), (uV HO1), (uR HO163), (uR HO167), (uV HO170), (uN HO174), (uN HO179), (uR HO184), (uR HO187), (uB0 HB)⟩)
              skip
              rintro _ w41 ⟨h0_, h1_, h2_, h3_, h4_, h5_, h6_, h7_, h8_⟩
              replace HO0 : Aside0 (Kd.V (Kd.int .u8) 5 w41 w.heap.size (fun k_ => ((P0_ k_ ∨ P1_ k_) ∨ w.heap.size ≤ k_) ∧ some k_ ≠ (.slice Ao29 y161.length co29 : Value).ownBlock ∧ some k_ ≠ (v166 : Value).ownBlock ∧ some k_ ≠ (.slice Ao33 y172.length co33 : Value).ownBlock ∧ some k_ ≠ (.slice Ao37 y177.length co37 : Value).ownBlock ∧ some k_ ≠ (v183 : Value).ownBlock) (.slice A0 l0.length c0) l0) := ⟨h0_⟩
              replace HO1 : Aside0 (Kd.V (Kd.int .u8) 5 w41 w.heap.size (fun k_ => ((P0_ k_ ∨ P1_ k_) ∨ w.heap.size ≤ k_) ∧ some k_ ≠ (.slice Ao29 y161.length co29 : Value).ownBlock ∧ some k_ ≠ (v166 : Value).ownBlock ∧ some k_ ≠ (.slice Ao33 y172.length co33 : Value).ownBlock ∧ some k_ ≠ (.slice Ao37 y177.length co37 : Value).ownBlock ∧ some k_ ≠ (v183 : Value).ownBlock) (.slice A1 l1.length c1) l1) := ⟨h1_⟩
              replace HO163 : Aside0 (Kd.R (Kd.int .u8) 5 w41 w.heap.size (fun k_ => (w.heap.size ≤ k_) ∧ some k_ ≠ (v166 : Value).ownBlock ∧ some k_ ≠ (v183 : Value).ownBlock) (.slice Ao29 y161.length co29) y161) := ⟨h2_⟩
              replace HO167 : Aside0 (Kd.R (Kd.int .u8) 5 w41 w.heap.size (fun k_ => (w.heap.size ≤ k_) ∧ some k_ ≠ (.slice Ao29 y161.length co29 : Value).ownBlock ∧ some k_ ≠ (v183 : Value).ownBlock) v166 t164) := ⟨h3_⟩
              replace HO170 : Aside0 (Kd.V (Kd.int .u8) 5 w41 w.heap.size (fun k_ => ((P0_ k_ ∨ P1_ k_) ∨ w.heap.size ≤ k_) ∧ some k_ ≠ (.slice Ao29 y161.length co29 : Value).ownBlock ∧ some k_ ≠ (v166 : Value).ownBlock ∧ some k_ ≠ (.slice Ao33 y172.length co33 : Value).ownBlock ∧ some k_ ≠ (.slice Ao37 y177.length co37 : Value).ownBlock ∧ some k_ ≠ (v183 : Value).ownBlock) v169 t168) := ⟨h4_⟩
              have HO174 : Aside0 (Kd.N (Kd.slice 5 (Kd.int .u8)) 22 w41 w.heap.size (fun k_ => ((P0_ k_ ∨ P1_ k_) ∨ w.heap.size ≤ k_) ∧ some k_ ≠ (v166 : Value).ownBlock ∧ some k_ ≠ (.slice Ao37 y177.length co37 : Value).ownBlock ∧ some k_ ≠ (v183 : Value).ownBlock) (.slice Ao33 y172.length co33) y172) := ⟨h5_⟩
              have HO179 : Aside0 (Kd.N (Kd.slice 5 (Kd.int .u8)) 22 w41 w.heap.size (fun k_ => ((P0_ k_ ∨ P1_ k_) ∨ w.heap.size ≤ k_) ∧ some k_ ≠ (.slice Ao29 y161.length co29 : Value).ownBlock ∧ some k_ ≠ (v166 : Value).ownBlock ∧ some k_ ≠ (.slice Ao33 y172.length co33 : Value).ownBlock ∧ some k_ ≠ (v183 : Value).ownBlock) (.slice Ao37 y177.length co37) y177) := ⟨h6_⟩
              have HO184 : Aside0 (Kd.R (Kd.int .u8) 5 w41 w.heap.size (fun k_ => (w.heap.size ≤ k_) ∧ some k_ ≠ (.slice Ao29 y161.length co29 : Value).ownBlock ∧ some k_ ≠ (v166 : Value).ownBlock) v183 t182) := ⟨h7_⟩
              replace HB : Aside0 (Below w.heap.size w w41) := ⟨h8_⟩
              clear h0_ h1_ h2_ h3_ h4_ h5_ h6_ h7_ h8_
              have hHeld := trivial
              refine norm_ (a' := ?_) ?_ ?_
              rotate_left
              ·simp only [putAll, Act.put, List.setIfInBounds_toArray, List.set_cons_zero, List.set_cons_succ]
               rfl
              refine one_ (i := 20) (N := some 52) u_t21f20 rfl rfl (one_of HT_.out (by kernel_rfl)) (by decide) (fun K hK => ?_)
              refine goes_ Tryd.func12 (by kernel_rfl) rfl #[.slice A0 l0.length c0] (by rfl) rfl rfl uC ?_
              with_reducible refine (colloquyref05_Seal.calls k _ _ l0 t185 _ ?side1 ?side2 A17.out).mono ?_
              (case side1 => exact uS (Kd.V_reads' HO0.out).2.2)
              (case side2 => exact (Kd.V_reads' HO0.out).2.1)
              rintro e w42 ⟨v186, rfl, ho0, hb⟩
              refine ⟨_, rfl, ?_⟩
              replace HO0 := Aside0.mk (Kd.V_elder' (uV HO0) (Kd.R_base ho0) hb)
              replace HO1 := Aside0.mk (Kd.V_elder' (uV HO1) (Kd.R_base ho0) hb)
              replace HO170 := Aside0.mk (Kd.V_elder' (uV HO170) (Kd.R_base ho0) hb)
              replace HO174 := Aside0.mk (Kd.N_elder' (uN HO174) (Kd.R_base ho0) hb)
              replace HO179 := Aside0.mk (Kd.N_elder' (uN HO179) (Kd.R_base ho0) hb)
              have HO187 := Aside0.mk (Kd.R_lower (Kd.R_new' (Kd.R_new' (Kd.R_new' (Kd.R_newM (M := fun k_ => (w.heap.size ≤ k_)) ho0 (below_size (uB0 HB)) (fun k_ h_ => h_)) (Kd.R_lt (uR HO163))) (Kd.R_lt (uR HO167))) (Kd.R_lt (uR HO184))) (below_size (uB0 HB)))
              replace HO163 := Aside0.mk (Kd.R_elder' (uR HO163) (Kd.R_base ho0) hb)
              replace HO167 := Aside0.mk (Kd.R_elder' (uR HO167) (Kd.R_base ho0) hb)
              replace HO184 := Aside0.mk (Kd.R_elder' (uR HO184) (Kd.R_base ho0) hb)
              replace HB := Aside0.mk (below_step (uB0 HB) hb)
              (try clear hb)
              (try clear hb2)
              (try clear hk)
              (try clear hi)
              (try clear ho0)
              refine hK.out _ _ trivial (fun hHeld => ?_)
              clear hK K
              refine norm_ (a' := ?_) ?_ ?_
              rotate_left
              ·show Act.put _ (some 52) _ = _
               exact uP
              exact norm_ (by first | (simp only [putAll, Act.put, List.setIfInBounds_toArray, List.set_cons_zero, List.set_cons_succ]; done) | (simp only [putAll, Act.put, List.setIfInBounds_toArray, List.set_cons_zero, List.set_cons_succ]; rfl)) (hJ18_20 (v186) _ ⟨(by (with_reducible repeat (first | apply Kd.V_alloc | apply Kd.V_drewN | apply Kd.V_drew)); exact Kd.V_mono HO0.out (fun _ hk => ⟨hk.1.1, ⟨hk.1.2.1, ⟨hk.1.2.2.1, ⟨hk.1.2.2.2.1, ⟨hk.1.2.2.2.2.1, ⟨hk.1.2.2.2.2.2, hk.2⟩⟩⟩⟩⟩⟩)), (by (with_reducible repeat (first | apply Kd.V_alloc | apply Kd.V_drewN | apply Kd.V_drew)); exact Kd.V_mono HO1.out (fun _ hk => ⟨hk.1.1, ⟨hk.1.2.1, ⟨hk.1.2.2.1, ⟨hk.1.2.2.2.1, ⟨hk.1.2.2.2.2.1, ⟨hk.1.2.2.2.2.2, hk.2⟩⟩⟩⟩⟩⟩)), (by (with_reducible repeat (first | apply Kd.R_alloc | apply Kd.R_drewN | apply Kd.R_drew)); exact Kd.R_mono HO163.out (fun _ hk => ⟨hk.1.1, ⟨hk.1.2.1, ⟨hk.1.2.2, hk.2⟩⟩⟩)), (by (with_reducible repeat (first | apply Kd.R_alloc | apply Kd.R_drewN | apply Kd.R_drew)); exact Kd.R_mono HO167.out (fun _ hk => ⟨hk.1.1, ⟨hk.1.2.1, ⟨hk.1.2.2, hk.2⟩⟩⟩)), (by (with_reducible repeat (first | apply Kd.V_alloc | apply Kd.V_drewN | apply Kd.V_drew)); exact Kd.V_mono HO170.out (fun _ hk => ⟨hk.1.1, ⟨hk.1.2.1, ⟨hk.1.2.2.1, ⟨hk.1.2.2.2.1, ⟨hk.1.2.2.2.2.1, ⟨hk.1.2.2.2.2.2, hk.2⟩⟩⟩⟩⟩⟩)), (by (with_reducible repeat (first | apply Kd.N_alloc | apply Kd.N_drewN | apply Kd.N_drew)); exact Kd.N_mono HO174.out (fun _ hk => ⟨hk.1.1, ⟨hk.1.2.1, ⟨hk.1.2.2.1, ⟨hk.1.2.2.2, hk.2⟩⟩⟩⟩)), (by (with_reducible repeat (first | apply Kd.N_alloc | apply Kd.N_drewN | apply Kd.N_drew)); exact Kd.N_mono HO179.out (fun _ hk => ⟨hk.1.1, ⟨hk.1.2.1, ⟨hk.1.2.2.1, ⟨hk.1.2.2.2.1, ⟨hk.1.2.2.2.2, hk.2⟩⟩⟩⟩⟩)), (by (with_reducible repeat (first | apply Kd.R_alloc | apply Kd.R_drewN | apply Kd.R_drew)); exact Kd.R_mono HO184.out (fun _ hk => ⟨hk.1.1, ⟨hk.1.2.1, ⟨hk.1.2.2, hk.2⟩⟩⟩)), (by (with_reducible repeat (first | apply Kd.R_alloc | apply Kd.R_drewN | apply Kd.R_drew)); exact Kd.R_mono HO187.out (fun _ hk => ⟨hk.1.1.1.1, ⟨hk.1.1.2, ⟨hk.1.2, hk.2⟩⟩⟩)), (uB0 HB)⟩)
             skip
             rintro v186 w42 ⟨h0_, h1_, h2_, h3_, h4_, h5_, h6_, h7_, h8_, h9_⟩
             replace HO0 : Aside0 (Kd.V (Kd.int .u8) 5 w42 w.heap.size (fun k_ => ((P0_ k_ ∨ P1_ k_) ∨ w.heap.size ≤ k_) ∧ some k_ ≠ (.slice Ao29 y161.length co29 : Value).ownBlock ∧ some k_ ≠ (v166 : Value).ownBlock ∧ some k_ ≠ (.slice Ao33 y172.length co33 : Value).ownBlock ∧ some k_ ≠ (.slice Ao37 y177.length co37 : Value).ownBlock ∧ some k_ ≠ (v183 : Value).ownBlock ∧ some k_ ≠ (v186 : Value).ownBlock) (.slice A0 l0.length c0) l0) := ⟨h0_⟩
             replace HO1 : Aside0 (Kd.V (Kd.int .u8) 5 w42 w.heap.size (fun k_ => ((P0_ k_ ∨ P1_ k_) ∨ w.heap.size ≤ k_) ∧ some k_ ≠ (.slice Ao29 y161.length co29 : Value).ownBlock ∧ some k_ ≠ (v166 : Value).ownBlock ∧ some k_ ≠ (.slice Ao33 y172.length co33 : Value).ownBlock ∧ some k_ ≠ (.slice Ao37 y177.length co37 : Value).ownBlock ∧ some k_ ≠ (v183 : Value).ownBlock ∧ some k_ ≠ (v186 : Value).ownBlock) (.slice A1 l1.length c1) l1) := ⟨h1_⟩
             replace HO163 : Aside0 (Kd.R (Kd.int .u8) 5 w42 w.heap.size (fun k_ => (w.heap.size ≤ k_) ∧ some k_ ≠ (v166 : Value).ownBlock ∧ some k_ ≠ (v183 : Value).ownBlock ∧ some k_ ≠ (v186 : Value).ownBlock) (.slice Ao29 y161.length co29) y161) := ⟨h2_⟩
             replace HO167 : Aside0 (Kd.R (Kd.int .u8) 5 w42 w.heap.size (fun k_ => (w.heap.size ≤ k_) ∧ some k_ ≠ (.slice Ao29 y161.length co29 : Value).ownBlock ∧ some k_ ≠ (v183 : Value).ownBlock ∧ some k_ ≠ (v186 : Value).ownBlock) v166 t164) := ⟨h3_⟩
             replace HO170 : Aside0 (Kd.V (Kd.int .u8) 5 w42 w.heap.size (fun k_ => ((P0_ k_ ∨ P1_ k_) ∨ w.heap.size ≤ k_) ∧ some k_ ≠ (.slice Ao29 y161.length co29 : Value).ownBlock ∧ some k_ ≠ (v166 : Value).ownBlock ∧ some k_ ≠ (.slice Ao33 y172.length co33 : Value).ownBlock ∧ some k_ ≠ (.slice Ao37 y177.length co37 : Value).ownBlock ∧ some k_ ≠ (v183 : Value).ownBlock ∧ some k_ ≠ (v186 : Value).ownBlock) v169 t168) := ⟨h4_⟩
             have HO174 : Aside0 (Kd.N (Kd.slice 5 (Kd.int .u8)) 22 w42 w.heap.size (fun k_ => ((P0_ k_ ∨ P1_ k_) ∨ w.heap.size ≤ k_) ∧ some k_ ≠ (v166 : Value).ownBlock ∧ some k_ ≠ (.slice Ao37 y177.length co37 : Value).ownBlock ∧ some k_ ≠ (v183 : Value).ownBlock ∧ some k_ ≠ (v186 : Value).ownBlock) (.slice Ao33 y172.length co33) y172) := ⟨h5_⟩
             have HO179 : Aside0 (Kd.N (Kd.slice 5 (Kd.int .u8)) 22 w42 w.heap.size (fun k_ => ((P0_ k_ ∨ P1_ k_) ∨ w.heap.size ≤ k_) ∧ some k_ ≠ (.slice Ao29 y161.length co29 : Value).ownBlock ∧ some k_ ≠ (v166 : Value).ownBlock ∧ some k_ ≠ (.slice Ao33 y172.length co33 : Value).ownBlock ∧ some k_ ≠ (v183 : Value).ownBlock ∧ some k_ ≠ (v186 : Value).ownBlock) (.slice Ao37 y177.length co37) y177) := ⟨h6_⟩
             have HO184 : Aside0 (Kd.R (Kd.int .u8) 5 w42 w.heap.size (fun k_ => (w.heap.size ≤ k_) ∧ some k_ ≠ (.slice Ao29 y161.length co29 : Value).ownBlock ∧ some k_ ≠ (v166 : Value).ownBlock ∧ some k_ ≠ (v186 : Value).ownBlock) v183 t182) := ⟨h7_⟩
             have HO187 : Aside0 (Kd.R (Kd.int .u8) 5 w42 w.heap.size (fun k_ => (w.heap.size ≤ k_) ∧ some k_ ≠ (.slice Ao29 y161.length co29 : Value).ownBlock ∧ some k_ ≠ (v166 : Value).ownBlock ∧ some k_ ≠ (v183 : Value).ownBlock) v186 t185) := ⟨h8_⟩
             replace HB : Aside0 (Below w.heap.size w w42) := ⟨h9_⟩
             clear h0_ h1_ h2_ h3_ h4_ h5_ h6_ h7_ h8_ h9_
             have hHeld := trivial
             refine norm_ (a' := ?_) ?_ ?_
             rotate_left
             ·simp only [putAll, Act.put, List.setIfInBounds_toArray, List.set_cons_zero, List.set_cons_succ]
              rfl
             refine one_ (i := 18) (N := some 50) u_t22f19 rfl rfl (one_of HT_.out (by kernel_rfl)) (by decide) (fun K hK => ?_)
             have hcv43 := own_string (P := Tryd.prog) Tryd.underlying22 Tryd.underlying5 Tryd.underlying9 (Kd.own_of_R HO184.out)
             refine value_ (w1 := ?_) (v := ?_) (by rfl) rfl ?_ ?_
             rotate_left 2
             ·go_simp
              constructor
              ·rfl
              rfl
             clear hcv43
             refine hK.out _ _ trivial (fun hHeld => ?_)
             clear hK K
             refine norm_ (a' := ?_) ?_ ?_
             rotate_left
             ·show Act.put _ (some 50) _ = _
              exact uP
             refine pure_ (i := 22) (N := some 54) (v := ?_) (a' := ?_) u_t23f18 rfl rfl (any_of HT_.out (by kernel_rfl)) (fun _ _ _ h => h) (Or.inl ⟨by rfl, ?_⟩) ?_ ?_
             rotate_left
             ·intro w'
              go_simp
              with_reducible rfl
             rotate_left
             ·exact uP
             refine pure_ (i := 23) (N := some 55) (v := ?_) (a' := ?_) u_t24f17 rfl rfl (any_of HT_.out (by kernel_rfl)) (fun _ _ _ h => h) (Or.inl ⟨by rfl, ?_⟩) ?_ ?_
             rotate_left
             ·intro w'
              go_simp
              with_reducible rfl
             rotate_left
             ·exact uP
             refine pure_ (i := 24) (N := some 56) (v := ?_) (a' := ?_) u_t25f16 rfl rfl (any_of HT_.out (by kernel_rfl)) (fun _ _ _ h => h) (Or.inl ⟨by rfl, ?_⟩) ?_ ?_
             rotate_left
             ·intro w'
              go_simp
              with_reducible rfl
             rotate_left
             ·exact uP
             refine pure_ (i := 25) (N := some 57) (v := ?_) (a' := ?_) u_t26f15 rfl rfl (any_of HT_.out (by kernel_rfl)) (fun _ _ _ h => h) (Or.inl ⟨by rfl, ?_⟩) ?_ ?_
             rotate_left
             ·intro w'
              go_simp
              with_reducible rfl
             rotate_left
             ·exact uP
             refine pure_ (i := 27) (N := some 59) (v := ?_) (a' := ?_) u_t26f1t1f13 rfl rfl (any_of HT_.out (by kernel_rfl)) (fun _ _ _ h => h) (Or.inl ⟨by rfl, ?_⟩) ?_ ?_
             rotate_left
             ·intro w'
              go_simp
              with_reducible rfl
             rotate_left
             ·exact uP
             exact norm_ (by first | (simp only [putAll, Act.put, List.setIfInBounds_toArray, List.set_cons_zero, List.set_cons_succ]; done) | (simp only [putAll, Act.put, List.setIfInBounds_toArray, List.set_cons_zero, List.set_cons_succ]; rfl)) (hJ18_20_21 (v186) _ ⟨(uV HO0), (uV HO1), (uR HO163), (uR HO167), (uV HO170), (uN HO174), (uN HO179), (uR HO184), (uR HO187), (uB0 HB)⟩)
            skip
            rintro v186 w42 ⟨h0_, h1_, h2_, h3_, h4_, h5_, h6_, h7_, h8_, h9_⟩
            replace HO0 : Aside0 (Kd.V (Kd.int .u8) 5 w42 w.heap.size (fun k_ => ((P0_ k_ ∨ P1_ k_) ∨ w.heap.size ≤ k_) ∧ some k_ ≠ (.slice Ao29 y161.length co29 : Value).ownBlock ∧ some k_ ≠ (v166 : Value).ownBlock ∧ some k_ ≠ (.slice Ao33 y172.length co33 : Value).ownBlock ∧ some k_ ≠ (.slice Ao37 y177.length co37 : Value).ownBlock ∧ some k_ ≠ (v183 : Value).ownBlock ∧ some k_ ≠ (v186 : Value).ownBlock) (.slice A0 l0.length c0) l0) := ⟨h0_⟩
            replace HO1 : Aside0 (Kd.V (Kd.int .u8) 5 w42 w.heap.size (fun k_ => ((P0_ k_ ∨ P1_ k_) ∨ w.heap.size ≤ k_) ∧ some k_ ≠ (.slice Ao29 y161.length co29 : Value).ownBlock ∧ some k_ ≠ (v166 : Value).ownBlock ∧ some k_ ≠ (.slice Ao33 y172.length co33 : Value).ownBlock ∧ some k_ ≠ (.slice Ao37 y177.length co37 : Value).ownBlock ∧ some k_ ≠ (v183 : Value).ownBlock ∧ some k_ ≠ (v186 : Value).ownBlock) (.slice A1 l1.length c1) l1) := ⟨h1_⟩
            replace HO163 : Aside0 (Kd.R (Kd.int .u8) 5 w42 w.heap.size (fun k_ => (w.heap.size ≤ k_) ∧ some k_ ≠ (v166 : Value).ownBlock ∧ some k_ ≠ (v183 : Value).ownBlock ∧ some k_ ≠ (v186 : Value).ownBlock) (.slice Ao29 y161.length co29) y161) := ⟨h2_⟩
            replace HO167 : Aside0 (Kd.R (Kd.int .u8) 5 w42 w.heap.size (fun k_ => (w.heap.size ≤ k_) ∧ some k_ ≠ (.slice Ao29 y161.length co29 : Value).ownBlock ∧ some k_ ≠ (v183 : Value).ownBlock ∧ some k_ ≠ (v186 : Value).ownBlock) v166 t164) := ⟨h3_⟩
            replace HO170 : Aside0 (Kd.V (Kd.int .u8) 5 w42 w.heap.size (fun k_ => ((P0_ k_ ∨ P1_ k_) ∨ w.heap.size ≤ k_) ∧ some k_ ≠ (.slice Ao29 y161.length co29 : Value).ownBlock ∧ some k_ ≠ (v166 : Value).ownBlock ∧ some k_ ≠ (.slice Ao33 y172.length co33 : Value).ownBlock ∧ some k_ ≠ (.slice Ao37 y177.length co37 : Value).ownBlock ∧ some k_ ≠ (v183 : Value).ownBlock ∧ some k_ ≠ (v186 : Value).ownBlock) v169 t168) := ⟨h4_⟩
            have HO174 : Aside0 (Kd.N (Kd.slice 5 (Kd.int .u8)) 22 w42 w.heap.size (fun k_ => ((P0_ k_ ∨ P1_ k_) ∨ w.heap.size ≤ k_) ∧ some k_ ≠ (v166 : Value).ownBlock ∧ some k_ ≠ (.slice Ao37 y177.length co37 : Value).ownBlock ∧ some k_ ≠ (v183 : Value).ownBlock ∧ some k_ ≠ (v186 : Value).ownBlock) (.slice Ao33 y172.length co33) y172) := ⟨h5_⟩
            have HO179 : Aside0 (Kd.N (Kd.slice 5 (Kd.int .u8)) 22 w42 w.heap.size (fun k_ => ((P0_ k_ ∨ P1_ k_) ∨ w.heap.size ≤ k_) ∧ some k_ ≠ (.slice Ao29 y161.length co29 : Value).ownBlock ∧ some k_ ≠ (v166 : Value).ownBlock ∧ some k_ ≠ (.slice Ao33 y172.length co33 : Value).ownBlock ∧ some k_ ≠ (v183 : Value).ownBlock ∧ some k_ ≠ (v186 : Value).ownBlock) (.slice Ao37 y177.length co37) y177) := ⟨h6_⟩
            have HO184 : Aside0 (Kd.R (Kd.int .u8) 5 w42 w.heap.size (fun k_ => (w.heap.size ≤ k_) ∧ some k_ ≠ (.slice Ao29 y161.length co29 : Value).ownBlock ∧ some k_ ≠ (v166 : Value).ownBlock ∧ some k_ ≠ (v186 : Value).ownBlock) v183 t182) := ⟨h7_⟩
            have HO187 : Aside0 (Kd.R (Kd.int .u8) 5 w42 w.heap.size (fun k_ => (w.heap.size ≤ k_) ∧ some k_ ≠ (.slice Ao29 y161.length co29 : Value).ownBlock ∧ some k_ ≠ (v166 : Value).ownBlock ∧ some k_ ≠ (v183 : Value).ownBlock) v186 t185) := ⟨h8_⟩
            replace HB : Aside0 (Below w.heap.size w w42) := ⟨h9_⟩
            clear h0_ h1_ h2_ h3_ h4_ h5_ h6_ h7_ h8_ h9_
            have hHeld := trivial
            refine norm_ (a' := ?_) ?_ ?_
            rotate_left
            ·simp only [putAll, Act.put, List.setIfInBounds_toArray, List.set_cons_zero, List.set_cons_succ]
             rfl
            refine one_ (i := 21) (N := some 53) u_t22f19 rfl rfl (one_of HT_.out (by kernel_rfl)) (by decide) (fun K hK => ?_)
            have hcv43 := own_string (P := Tryd.prog) Tryd.underlying22 Tryd.underlying5 Tryd.underlying9 (Kd.own_of_R HO187.out)
            refine value_ (w1 := ?_) (v := ?_) (by rfl) rfl ?_ ?_
            rotate_left 2
            ·go_simp
             constructor
             ·rfl
             rfl
            clear hcv43
            refine hK.out _ _ trivial (fun hHeld => ?_)
            clear hK K
            refine norm_ (a' := ?_) ?_ ?_
            rotate_left
            ·show Act.put _ (some 53) _ = _
             exact uP
            refine pure_ (i := 22) (N := some 54) (v := ?_) (a' := ?_) u_t23f18 rfl rfl (any_of HT_.out (by kernel_rfl)) (fun _ _ _ h => h) (Or.inl ⟨by rfl, ?_⟩) ?_ ?_
            rotate_left
            ·intro w'
             go_simp
             with_reducible rfl
            rotate_left
            ·exact uP
            refine pure_ (i := 23) (N := some 55) (v := ?_) (a' := ?_) u_t24f17 rfl rfl (any_of HT_.out (by kernel_rfl)) (fun _ _ _ h => h) (Or.inl ⟨by rfl, ?_⟩) ?_ ?_
            rotate_left
            ·intro w'
             go_simp
             with_reducible rfl
            rotate_left
            ·exact uP
            refine pure_ (i := 24) (N := some 56) (v := ?_) (a' := ?_) u_t25f16 rfl rfl (any_of HT_.out (by kernel_rfl)) (fun _ _ _ h => h) (Or.inl ⟨by rfl, ?_⟩) ?_ ?_
            rotate_left
            ·intro w'
             go_simp
             with_reducible rfl
            rotate_left
            ·exact uP
            refine pure_ (i := 25) (N := some 57) (v := ?_) (a' := ?_) u_t26f15 rfl rfl (any_of HT_.out (by kernel_rfl)) (fun _ _ _ h => h) (Or.inl ⟨by rfl, ?_⟩) ?_ ?_
            rotate_left
            ·intro w'
             go_simp
             with_reducible rfl
            rotate_left
            ·exact uP
            refine pure_ (i := 27) (N := some 59) (v := ?_) (a' := ?_) u_t26f1t1f13 rfl rfl (any_of HT_.out (by kernel_rfl)) (fun _ _ _ h => h) (Or.inl ⟨by rfl, ?_⟩) ?_ ?_
            rotate_left
            ·intro w'
             go_simp
             with_reducible rfl
            rotate_left
            ·exact uP
            exact norm_ (by first | (simp only [putAll, Act.put, List.setIfInBounds_toArray, List.set_cons_zero, List.set_cons_succ]; done) | (simp only [putAll, Act.put, List.setIfInBounds_toArray, List.set_cons_zero, List.set_cons_succ]; rfl)) (hJ18_20_21 (v186) _ ⟨(uV HO0), (uV HO1), (uR HO163), (uR HO167), (uV HO170), (uN HO174), (uN HO179), (uR HO184), (uR HO187), (uB0 HB)⟩)
           skip
           rintro v186 w43 ⟨h0_, h1_, h2_, h3_, h4_, h5_, h6_, h7_, h8_, h9_⟩
           replace HO0 : Aside0 (Kd.V (Kd.int .u8) 5 w43 w.heap.size (fun k_ => ((P0_ k_ ∨ P1_ k_) ∨ w.heap.size ≤ k_) ∧ some k_ ≠ (.slice Ao29 y161.length co29 : Value).ownBlock ∧ some k_ ≠ (v166 : Value).ownBlock ∧ some k_ ≠ (.slice Ao33 y172.length co33 : Value).ownBlock ∧ some k_ ≠ (.slice Ao37 y177.length co37 : Value).ownBlock ∧ some k_ ≠ (v183 : Value).ownBlock ∧ some k_ ≠ (v186 : Value).ownBlock) (.slice A0 l0.length c0) l0) := ⟨h0_⟩
           replace HO1 : Aside0 (Kd.V (Kd.int .u8) 5 w43 w.heap.size (fun k_ => ((P0_ k_ ∨ P1_ k_) ∨ w.heap.size ≤ k_) ∧ some k_ ≠ (.slice Ao29 y161.length co29 : Value).ownBlock ∧ some k_ ≠ (v166 : Value).ownBlock ∧ some k_ ≠ (.slice Ao33 y172.length co33 : Value).ownBlock ∧ some k_ ≠ (.slice Ao37 y177.length co37 : Value).ownBlock ∧ some k_ ≠ (v183 : Value).ownBlock ∧ some k_ ≠ (v186 : Value).ownBlock) (.slice A1 l1.length c1) l1) := ⟨h1_⟩
           replace HO163 : Aside0 (Kd.R (Kd.int .u8) 5 w43 w.heap.size (fun k_ => (w.heap.size ≤ k_) ∧ some k_ ≠ (v166 : Value).ownBlock ∧ some k_ ≠ (v183 : Value).ownBlock ∧ some k_ ≠ (v186 : Value).ownBlock) (.slice Ao29 y161.length co29) y161) := ⟨h2_⟩
           replace HO167 : Aside0 (Kd.R (Kd.int .u8) 5 w43 w.heap.size (fun k_ => (w.heap.size ≤ k_) ∧ some k_ ≠ (.slice Ao29 y161.length co29 : Value).ownBlock ∧ some k_ ≠ (v183 : Value).ownBlock ∧ some k_ ≠ (v186 : Value).ownBlock) v166 t164) := ⟨h3_⟩
           replace HO170 : Aside0 (Kd.V (Kd.int .u8) 5 w43 w.heap.size (fun k_ => ((P0_ k_ ∨ P1_ k_) ∨ w.heap.size ≤ k_) ∧ some k_ ≠ (.slice Ao29 y161.length co29 : Value).ownBlock ∧ some k_ ≠ (v166 : Value).ownBlock ∧ some k_ ≠ (.slice Ao33 y172.length co33 : Value).ownBlock ∧ some k_ ≠ (.slice Ao37 y177.length co37 : Value).ownBlock ∧ some k_ ≠ (v183 : Value).ownBlock ∧ some k_ ≠ (v186 : Value).ownBlock) v169 t168) := ⟨h4_⟩
           have HO174 : Aside0 (Kd.N (Kd.slice 5 (Kd.int .u8)) 22 w43 w.heap.size (fun k_ => ((P0_ k_ ∨ P1_ k_) ∨ w.heap.size ≤ k_) ∧ some k_ ≠ (v166 : Value).ownBlock ∧ some k_ ≠ (.slice Ao37 y177.length co37 : Value).ownBlock ∧ some k_ ≠ (v183 : Value).ownBlock ∧ some k_ ≠ (v186 : Value).ownBlock) (.slice Ao33 y172.length co33) y172) := ⟨h5_⟩
           have HO179 : Aside0 (Kd.N (Kd.slice 5 (Kd.int .u8)) 22 w43 w.heap.size (fun k_ => ((P0_ k_ ∨ P1_ k_) ∨ w.heap.size ≤ k_) ∧ some k_ ≠ (.slice Ao29 y161.length co29 : Value).ownBlock ∧ some k_ ≠ (v166 : Value).ownBlock ∧ some k_ ≠ (.slice Ao33 y172.length co33 : Value).ownBlock ∧ some k_ ≠ (v183 : Value).ownBlock ∧ some k_ ≠ (v186 : Value).ownBlock) (.slice Ao37 y177.length co37) y177) := ⟨h6_⟩
           have HO184 : Aside0 (Kd.R (Kd.int .u8) 5 w43 w.heap.size (fun k_ => (w.heap.size ≤ k_) ∧ some k_ ≠ (.slice Ao29 y161.length co29 : Value).ownBlock ∧ some k_ ≠ (v166 : Value).ownBlock ∧ some k_ ≠ (v186 : Value).ownBlock) v183 t182) := ⟨h7_⟩
           have HO187 : Aside0 (Kd.R (Kd.int .u8) 5 w43 w.heap.size (fun k_ => (w.heap.size ≤ k_) ∧ some k_ ≠ (.slice Ao29 y161.length co29 : Value).ownBlock ∧ some k_ ≠ (v166 : Value).ownBlock ∧ some k_ ≠ (v183 : Value).ownBlock) v186 t185) := ⟨h8_⟩
           replace HB : Aside0 (Below w.heap.size w w43) := ⟨h9_⟩
           clear h0_ h1_ h2_ h3_ h4_ h5_ h6_ h7_ h8_ h9_
           have hHeld := trivial
           refine norm_ (a' := ?_) ?_ ?_
           rotate_left
           ·simp only [putAll, Act.put, List.setIfInBounds_toArray, List.set_cons_zero, List.set_cons_succ]
            rfl
           refine two_ (i := 26) (j := 28) (Ni := some 58) (Nj := some 60) u_t28f13 u_t26f1t2f12 rfl rfl rfl rfl (two_of HT_.out (by kernel_rfl)) (by decide) (by decide) (fun K hK => ?_) (fun K hK => ?_)
           ·skip
            have hcv44 := own_string (P := Tryd.prog) Tryd.underlying22 Tryd.underlying5 Tryd.underlying9 (Kd.own_of_R HO167.out)
            refine value_ (w1 := ?_) (v := ?_) (by rfl) rfl ?_ ?_
            rotate_left 2
            ·go_simp
             constructor
             ·rfl
             rfl
            clear hcv44
            refine hK.out _ _ trivial (fun hHeld => ?_)
            clear hK K
            refine norm_ (a' := ?_) ?_ ?_
            rotate_left
            ·show Act.put _ (some 58) _ = _
             exact uP
            exact norm_ (by first | (simp only [putAll, Act.put, List.setIfInBounds_toArray, List.set_cons_zero, List.set_cons_succ]; done) | (simp only [putAll, Act.put, List.setIfInBounds_toArray, List.set_cons_zero, List.set_cons_succ]; rfl)) (hJ18_20_21_26 (v186) _ ⟨(uV HO0), (uV HO1), (uR HO163), (uR HO167), (uV HO170), (uN HO174), (uN HO179), (uR HO184), (uR HO187), (uB0 HB)⟩)
           skip
           have hcv44 := uVS (P := Tryd.prog) Tryd.underlying22 Tryd.underlying5 Tryd.underlying9 HO170.out
           refine value_ (w1 := ?_) (v := ?_) (by rfl) rfl ?_ ?_
           rotate_left 2
           ·go_simp
            constructor
            ·rfl
            rfl
           clear hcv44
           refine hK.out _ _ trivial (fun hHeld => ?_)
           clear hK K
           refine norm_ (a' := ?_) ?_ ?_
           rotate_left
           ·show Act.put _ (some 60) _ = _
            exact uP
           exact norm_ (by first | (simp only [putAll, Act.put, List.setIfInBounds_toArray, List.set_cons_zero, List.set_cons_succ]; done) | (simp only [putAll, Act.put, List.setIfInBounds_toArray, List.set_cons_zero, List.set_cons_succ]; rfl)) (hJ18_20_21_28 (v186) _ ⟨(uV HO0), (uV HO1), (uR HO163), (uR HO167), (uV HO170), (uN HO174), (uN HO179), (uR HO184), (uR HO187), (uB0 HB)⟩)
          skip
          rintro v186 w44 ⟨h0_, h1_, h2_, h3_, h4_, h5_, h6_, h7_, h8_, h9_⟩
          replace HO0 : Aside0 (Kd.V (Kd.int .u8) 5 w44 w.heap.size (fun k_ => ((P0_ k_ ∨ P1_ k_) ∨ w.heap.size ≤ k_) ∧ some k_ ≠ (.slice Ao29 y161.length co29 : Value).ownBlock ∧ some k_ ≠ (v166 : Value).ownBlock ∧ some k_ ≠ (.slice Ao33 y172.length co33 : Value).ownBlock ∧ some k_ ≠ (.slice Ao37 y177.length co37 : Value).ownBlock ∧ some k_ ≠ (v183 : Value).ownBlock ∧ some k_ ≠ (v186 : Value).ownBlock) (.slice A0 l0.length c0) l0) := ⟨h0_⟩
          replace HO1 : Aside0 (Kd.V (Kd.int .u8) 5 w44 w.heap.size (fun k_ => ((P0_ k_ ∨ P1_ k_) ∨ w.heap.size ≤ k_) ∧ some k_ ≠ (.slice Ao29 y161.length co29 : Value).ownBlock ∧ some k_ ≠ (v166 : Value).ownBlock ∧ some k_ ≠ (.slice Ao33 y172.length co33 : Value).ownBlock ∧ some k_ ≠ (.slice Ao37 y177.length co37 : Value).ownBlock ∧ some k_ ≠ (v183 : Value).ownBlock ∧ some k_ ≠ (v186 : Value).ownBlock) (.slice A1 l1.length c1) l1) := ⟨h1_⟩
          replace HO163 : Aside0 (Kd.R (Kd.int .u8) 5 w44 w.heap.size (fun k_ => (w.heap.size ≤ k_) ∧ some k_ ≠ (v166 : Value).ownBlock ∧ some k_ ≠ (v183 : Value).ownBlock ∧ some k_ ≠ (v186 : Value).ownBlock) (.slice Ao29 y161.length co29) y161) := ⟨h2_⟩
          replace HO167 : Aside0 (Kd.R (Kd.int .u8) 5 w44 w.heap.size (fun k_ => (w.heap.size ≤ k_) ∧ some k_ ≠ (.slice Ao29 y161.length co29 : Value).ownBlock ∧ some k_ ≠ (v183 : Value).ownBlock ∧ some k_ ≠ (v186 : Value).ownBlock) v166 t164) := ⟨h3_⟩
          replace HO170 : Aside0 (Kd.V (Kd.int .u8) 5 w44 w.heap.size (fun k_ => ((P0_ k_ ∨ P1_ k_) ∨ w.heap.size ≤ k_) ∧ some k_ ≠ (.slice Ao29 y161.length co29 : Value).ownBlock ∧ some k_ ≠ (v166 : Value).ownBlock ∧ some k_ ≠ (.slice Ao33 y172.length co33 : Value).ownBlock ∧ some k_ ≠ (.slice Ao37 y177.length co37 : Value).ownBlock ∧ some k_ ≠ (v183 : Value).ownBlock ∧ some k_ ≠ (v186 : Value).ownBlock) v169 t168) := ⟨h4_⟩
          have HO174 : Aside0 (Kd.N (Kd.slice 5 (Kd.int .u8)) 22 w44 w.heap.size (fun k_ => ((P0_ k_ ∨ P1_ k_) ∨ w.heap.size ≤ k_) ∧ some k_ ≠ (v166 : Value).ownBlock ∧ some k_ ≠ (.slice Ao37 y177.length co37 : Value).ownBlock ∧ some k_ ≠ (v183 : Value).ownBlock ∧ some k_ ≠ (v186 : Value).ownBlock) (.slice Ao33 y172.length co33) y172) := ⟨h5_⟩
          have HO179 : Aside0 (Kd.N (Kd.slice 5 (Kd.int .u8)) 22 w44 w.heap.size (fun k_ => ((P0_ k_ ∨ P1_ k_) ∨ w.heap.size ≤ k_) ∧ some k_ ≠ (.slice Ao29 y161.length co29 : Value).ownBlock ∧ some k_ ≠ (v166 : Value).ownBlock ∧ some k_ ≠ (.slice Ao33 y172.length co33 : Value).ownBlock ∧ some k_ ≠ (v183 : Value).ownBlock ∧ some k_ ≠ (v186 : Value).ownBlock) (.slice Ao37 y177.length co37) y177) := ⟨h6_⟩
          have HO184 : Aside0 (Kd.R (Kd.int .u8) 5 w44 w.heap.size (fun k_ => (w.heap.size ≤ k_) ∧ some k_ ≠ (.slice Ao29 y161.length co29 : Value).ownBlock ∧ some k_ ≠ (v166 : Value).ownBlock ∧ some k_ ≠ (v186 : Value).ownBlock) v183 t182) := ⟨h7_⟩
          have HO187 : Aside0 (Kd.R (Kd.int .u8) 5 w44 w.heap.size (fun k_ => (w.heap.size ≤ k_) ∧ some k_ ≠ (.slice Ao29 y161.length co29 : Value).ownBlock ∧ some k_ ≠ (v166 : Value).ownBlock ∧ some k_ ≠ (v183 : Value).ownBlock) v186 t185) := ⟨h8_⟩
          replace HB : Aside0 (Below w.heap.size w w44) := ⟨h9_⟩
          clear h0_ h1_ h2_ h3_ h4_ h5_ h6_ h7_ h8_ h9_
          have hHeld := trivial
          refine norm_ (a' := ?_) ?_ ?_
          rotate_left
          ·simp only [putAll, Act.put, List.setIfInBounds_toArray, List.set_cons_zero, List.set_cons_succ]
           rfl
          refine one_ (i := 26) (N := some 58) u_t29f12 rfl rfl (one_of HT_.out (by kernel_rfl)) (by decide) (fun K hK => ?_)
          have hcv45 := own_string (P := Tryd.prog) Tryd.underlying22 Tryd.underlying5 Tryd.underlying9 (Kd.own_of_R HO167.out)
          refine value_ (w1 := ?_) (v := ?_) (by rfl) rfl ?_ ?_
          rotate_left 2
          ·go_simp
           constructor
           ·rfl
           rfl
          clear hcv45
          refine hK.out _ _ trivial (fun hHeld => ?_)
          clear hK K
          refine norm_ (a' := ?_) ?_ ?_
          rotate_left
          ·show Act.put _ (some 58) _ = _
           exact uP
          exact norm_ (by first | (simp only [putAll, Act.put, List.setIfInBounds_toArray, List.set_cons_zero, List.set_cons_succ]; done) | (simp only [putAll, Act.put, List.setIfInBounds_toArray, List.set_cons_zero, List.set_cons_succ]; rfl)) (hJ18_20_21_26_28 (v186) _ ⟨(uV HO0), (uV HO1), (uR HO163), (uR HO167), (uV HO170), (uN HO174), (uN HO179), (uR HO184), (uR HO187), (uB0 HB)⟩)
         skip
         rintro v186 w44 ⟨h0_, h1_, h2_, h3_, h4_, h5_, h6_, h7_, h8_, h9_⟩
         replace HO0 : Aside0 (Kd.V (Kd.int .u8) 5 w44 w.heap.size (fun k_ => ((P0_ k_ ∨ P1_ k_) ∨ w.heap.size ≤ k_) ∧ some k_ ≠ (.slice Ao29 y161.length co29 : Value).ownBlock ∧ some k_ ≠ (v166 : Value).ownBlock ∧ some k_ ≠ (.slice Ao33 y172.length co33 : Value).ownBlock ∧ some k_ ≠ (.slice Ao37 y177.length co37 : Value).ownBlock ∧ some k_ ≠ (v183 : Value).ownBlock ∧ some k_ ≠ (v186 : Value).ownBlock) (.slice A0 l0.length c0) l0) := ⟨h0_⟩
         replace HO1 : Aside0 (Kd.V (Kd.int .u8) 5 w44 w.heap.size (fun k_ => ((P0_ k_ ∨ P1_ k_) ∨ w.heap.size ≤ k_) ∧ some k_ ≠ (.slice Ao29 y161.length co29 : Value).ownBlock ∧ some k_ ≠ (v166 : Value).ownBlock ∧ some k_ ≠ (.slice Ao33 y172.length co33 : Value).ownBlock ∧ some k_ ≠ (.slice Ao37 y177.length co37 : Value).ownBlock ∧ some k_ ≠ (v183 : Value).ownBlock ∧ some k_ ≠ (v186 : Value).ownBlock) (.slice A1 l1.length c1) l1) := ⟨h1_⟩
         replace HO163 : Aside0 (Kd.R (Kd.int .u8) 5 w44 w.heap.size (fun k_ => (w.heap.size ≤ k_) ∧ some k_ ≠ (v166 : Value).ownBlock ∧ some k_ ≠ (v183 : Value).ownBlock ∧ some k_ ≠ (v186 : Value).ownBlock) (.slice Ao29 y161.length co29) y161) := ⟨h2_⟩
         replace HO167 : Aside0 (Kd.R (Kd.int .u8) 5 w44 w.heap.size (fun k_ => (w.heap.size ≤ k_) ∧ some k_ ≠ (.slice Ao29 y161.length co29 : Value).ownBlock ∧ some k_ ≠ (v183 : Value).ownBlock ∧ some k_ ≠ (v186 : Value).ownBlock) v166 t164) := ⟨h3_⟩
         replace HO170 : Aside0 (Kd.V (Kd.int .u8) 5 w44 w.heap.size (fun k_ => ((P0_ k_ ∨ P1_ k_) ∨ w.heap.size ≤ k_) ∧ some k_ ≠ (.slice Ao29 y161.length co29 : Value).ownBlock ∧ some k_ ≠ (v166 : Value).ownBlock ∧ some k_ ≠ (.slice Ao33 y172.length co33 : Value).ownBlock ∧ some k_ ≠ (.slice Ao37 y177.length co37 : Value).ownBlock ∧ some k_ ≠ (v183 : Value).ownBlock ∧ some k_ ≠ (v186 : Value).ownBlock) v169 t168) := ⟨h4_⟩
         have HO174 : Aside0 (Kd.N (Kd.slice 5 (Kd.int .u8)) 22 w44 w.heap.size (fun k_ => ((P0_ k_ ∨ P1_ k_) ∨ w.heap.size ≤ k_) ∧ some k_ ≠ (v166 : Value).ownBlock ∧ some k_ ≠ (.slice Ao37 y177.length co37 : Value).ownBlock ∧ some k_ ≠ (v183 : Value).ownBlock ∧ some k_ ≠ (v186 : Value).ownBlock) (.slice Ao33 y172.length co33) y172) := ⟨h5_⟩
         have HO179 : Aside0 (Kd.N (Kd.slice 5 (Kd.int .u8)) 22 w44 w.heap.size (fun k_ => ((P0_ k_ ∨ P1_ k_) ∨ w.heap.size ≤ k_) ∧ some k_ ≠ (.slice Ao29 y161.length co29 : Value).ownBlock ∧ some k_ ≠ (v166 : Value).ownBlock ∧ some k_ ≠ (.slice Ao33 y172.length co33 : Value).ownBlock ∧ some k_ ≠ (v183 : Value).ownBlock ∧ some k_ ≠ (v186 : Value).ownBlock) (.slice Ao37 y177.length co37) y177) := ⟨h6_⟩
         have HO184 : Aside0 (Kd.R (Kd.int .u8) 5 w44 w.heap.size (fun k_ => (w.heap.size ≤ k_) ∧ some k_ ≠ (.slice Ao29 y161.length co29 : Value).ownBlock ∧ some k_ ≠ (v166 : Value).ownBlock ∧ some k_ ≠ (v186 : Value).ownBlock) v183 t182) := ⟨h7_⟩
         have HO187 : Aside0 (Kd.R (Kd.int .u8) 5 w44 w.heap.size (fun k_ => (w.heap.size ≤ k_) ∧ some k_ ≠ (.slice Ao29 y161.length co29 : Value).ownBlock ∧ some k_ ≠ (v166 : Value).ownBlock ∧ some k_ ≠ (v183 : Value).ownBlock) v186 t185) := ⟨h8_⟩
         replace HB : Aside0 (Below w.heap.size w w44) := ⟨h9_⟩
         clear h0_ h1_ h2_ h3_ h4_ h5_ h6_ h7_ h8_ h9_
         have hHeld := trivial
         refine norm_ (a' := ?_) ?_ ?_
         rotate_left
         ·simp only [putAll, Act.put, List.setIfInBounds_toArray, List.set_cons_zero, List.set_cons_succ]
          rfl
         refine one_ (i := 28) (N := some 60) u_t29f12 rfl rfl (one_of HT_.out (by kernel_rfl)) (by decide) (fun K hK => ?_)
         have hcv45 := uVS (P := Tryd.prog) Tryd.underlying22 Tryd.underlying5 Tryd.underlying9 HO170.out
         refine value_ (w1 := ?_) (v := ?_) (by rfl) rfl ?_ ?_
         rotate_left 2
         ·go_simp
          constructor
          ·rfl
          rfl
         clear hcv45
         refine hK.out _ _ trivial (fun hHeld => ?_)
         clear hK K
         refine norm_ (a' := ?_) ?_ ?_
         rotate_left
         ·show Act.put _ (some 60) _ = _
          exact uP
         exact norm_ (by first | (simp only [putAll, Act.put, List.setIfInBounds_toArray, List.set_cons_zero, List.set_cons_succ]; done) | (simp only [putAll, Act.put, List.setIfInBounds_toArray, List.set_cons_zero, List.set_cons_succ]; rfl)) (hJ18_20_21_26_28 (v186) _ ⟨(uV HO0), (uV HO1), (uR HO163), (uR HO167), (uV HO170), (uN HO174), (uN HO179), (uR HO184), (uR HO187), (uB0 HB)⟩)
        rintro v186 w45 ⟨h0_, h1_, h2_, h3_, h4_, h5_, h6_, h7_, h8_, h9_⟩
        replace HO0 : Aside0 (Kd.V (Kd.int .u8) 5 w45 w.heap.size (fun k_ => ((P0_ k_ ∨ P1_ k_) ∨ w.heap.size ≤ k_) ∧ some k_ ≠ (.slice Ao29 y161.length co29 : Value).ownBlock ∧ some k_ ≠ (v166 : Value).ownBlock ∧ some k_ ≠ (.slice Ao33 y172.length co33 : Value).ownBlock ∧ some k_ ≠ (.slice Ao37 y177.length co37 : Value).ownBlock ∧ some k_ ≠ (v183 : Value).ownBlock ∧ some k_ ≠ (v186 : Value).ownBlock) (.slice A0 l0.length c0) l0) := ⟨h0_⟩
        replace HO1 : Aside0 (Kd.V (Kd.int .u8) 5 w45 w.heap.size (fun k_ => ((P0_ k_ ∨ P1_ k_) ∨ w.heap.size ≤ k_) ∧ some k_ ≠ (.slice Ao29 y161.length co29 : Value).ownBlock ∧ some k_ ≠ (v166 : Value).ownBlock ∧ some k_ ≠ (.slice Ao33 y172.length co33 : Value).ownBlock ∧ some k_ ≠ (.slice Ao37 y177.length co37 : Value).ownBlock ∧ some k_ ≠ (v183 : Value).ownBlock ∧ some k_ ≠ (v186 : Value).ownBlock) (.slice A1 l1.length c1) l1) := ⟨h1_⟩
        replace HO163 : Aside0 (Kd.R (Kd.int .u8) 5 w45 w.heap.size (fun k_ => (w.heap.size ≤ k_) ∧ some k_ ≠ (v166 : Value).ownBlock ∧ some k_ ≠ (v183 : Value).ownBlock ∧ some k_ ≠ (v186 : Value).ownBlock) (.slice Ao29 y161.length co29) y161) := ⟨h2_⟩
        replace HO167 : Aside0 (Kd.R (Kd.int .u8) 5 w45 w.heap.size (fun k_ => (w.heap.size ≤ k_) ∧ some k_ ≠ (.slice Ao29 y161.length co29 : Value).ownBlock ∧ some k_ ≠ (v183 : Value).ownBlock ∧ some k_ ≠ (v186 : Value).ownBlock) v166 t164) := ⟨h3_⟩
        replace HO170 : Aside0 (Kd.V (Kd.int .u8) 5 w45 w.heap.size (fun k_ => ((P0_ k_ ∨ P1_ k_) ∨ w.heap.size ≤ k_) ∧ some k_ ≠ (.slice Ao29 y161.length co29 : Value).ownBlock ∧ some k_ ≠ (v166 : Value).ownBlock ∧ some k_ ≠ (.slice Ao33 y172.length co33 : Value).ownBlock ∧ some k_ ≠ (.slice Ao37 y177.length co37 : Value).ownBlock ∧ some k_ ≠ (v183 : Value).ownBlock ∧ some k_ ≠ (v186 : Value).ownBlock) v169 t168) := ⟨h4_⟩
        have HO174 : Aside0 (Kd.N (Kd.slice 5 (Kd.int .u8)) 22 w45 w.heap.size (fun k_ => ((P0_ k_ ∨ P1_ k_) ∨ w.heap.size ≤ k_) ∧ some k_ ≠ (v166 : Value).ownBlock ∧ some k_ ≠ (.slice Ao37 y177.length co37 : Value).ownBlock ∧ some k_ ≠ (v183 : Value).ownBlock ∧ some k_ ≠ (v186 : Value).ownBlock) (.slice Ao33 y172.length co33) y172) := ⟨h5_⟩
        have HO179 : Aside0 (Kd.N (Kd.slice 5 (Kd.int .u8)) 22 w45 w.heap.size (fun k_ => ((P0_ k_ ∨ P1_ k_) ∨ w.heap.size ≤ k_) ∧ some k_ ≠ (.slice Ao29 y161.length co29 : Value).ownBlock ∧ some k_ ≠ (v166 : Value).ownBlock ∧ some k_ ≠ (.slice Ao33 y172.length co33 : Value).ownBlock ∧ some k_ ≠ (v183 : Value).ownBlock ∧ some k_ ≠ (v186 : Value).ownBlock) (.slice Ao37 y177.length co37) y177) := ⟨h6_⟩
        have HO184 : Aside0 (Kd.R (Kd.int .u8) 5 w45 w.heap.size (fun k_ => (w.heap.size ≤ k_) ∧ some k_ ≠ (.slice Ao29 y161.length co29 : Value).ownBlock ∧ some k_ ≠ (v166 : Value).ownBlock ∧ some k_ ≠ (v186 : Value).ownBlock) v183 t182) := ⟨h7_⟩
        have HO187 : Aside0 (Kd.R (Kd.int .u8) 5 w45 w.heap.size (fun k_ => (w.heap.size ≤ k_) ∧ some k_ ≠ (.slice Ao29 y161.length co29 : Value).ownBlock ∧ some k_ ≠ (v166 : Value).ownBlock ∧ some k_ ≠ (v183 : Value).ownBlock) v186 t185) := ⟨h8_⟩
        replace HB : Aside0 (Below w.heap.size w w45) := ⟨h9_⟩
        clear h0_ h1_ h2_ h3_ h4_ h5_ h6_ h7_ h8_ h9_
        have hHeld := trivial
        have CA20 := fun W hg_ => colloquylaw05_num.calls t165 t188 W hg_ A20.out
        refine norm_ (a' := ?_) ?_ ?_
        rotate_left
        ·simp only [putAll, Act.put, List.setIfInBounds_toArray, List.set_cons_zero, List.set_cons_succ]
         rfl
        refine pure_ (i := 29) (N := some 61) (v := ?_) (a' := ?_) u_t30f11 rfl rfl (any_of HT_.out (by kernel_rfl)) (fun _ _ _ h => h) (Or.inl ⟨by rfl, ?_⟩) ?_ ?_
        rotate_left
        ·intro w'
         go_simp
         with_reducible rfl
        rotate_left
        ·exact uP
        refine pure_ (i := 30) (N := some 62) (v := ?_) (a' := ?_) u_t31f10 rfl rfl (any_of HT_.out (by kernel_rfl)) (fun _ _ _ h => h) (Or.inl ⟨by rfl, ?_⟩) ?_ ?_
        rotate_left
        ·intro w'
         go_simp
         with_reducible rfl
        rotate_left
        ·exact uP
        refine pure_ (i := 31) (N := some 63) (v := ?_) (a' := ?_) u_t32f9 rfl rfl (any_of HT_.out (by kernel_rfl)) (fun _ _ _ h => h) (Or.inl ⟨by rfl, ?_⟩) ?_ ?_
        rotate_left
        ·intro w'
         go_simp
         with_reducible rfl
        rotate_left
        ·exact uP
        refine pure_ (i := 32) (N := some 64) (v := ?_) (a' := ?_) u_t33f8 rfl rfl (any_of HT_.out (by kernel_rfl)) (fun _ _ _ h => h) (Or.inl ⟨by rfl, ?_⟩) ?_ ?_
        rotate_left
        ·intro w'
         go_simp
         with_reducible rfl
        rotate_left
        ·exact uP
        refine pure_ (i := 34) (N := some 66) (v := ?_) (a' := ?_) u_t33f1t1f6 rfl rfl (any_of HT_.out (by kernel_rfl)) (fun _ _ _ h => h) (Or.inl ⟨by rfl, ?_⟩) ?_ ?_
        rotate_left
        ·intro w'
         go_simp
         with_reducible rfl
        rotate_left
        ·exact uP
        refine one_ (i := 33) (N := some 65) u_t35f6 rfl rfl (one_of HT_.out (by kernel_rfl)) (by decide) (fun K hK => ?_)
        refine goes_ Tryd.func13 (by kernel_rfl) rfl #[errW t165] (by rfl) rfl rfl uC ?_
        with_reducible refine (CA20 _ ?side1).mono ?_
        (case side1 => exact HG.out.below (uB0 HB))
        rintro e w46 ⟨rfl, hb⟩
        refine ⟨_, rfl, ?_⟩
        replace HO0 := Aside0.mk (Kd.V_below (uV HO0) hb)
        replace HO1 := Aside0.mk (Kd.V_below (uV HO1) hb)
        replace HO163 := Aside0.mk (Kd.R_below (uR HO163) hb)
        replace HO167 := Aside0.mk (Kd.R_below (uR HO167) hb)
        replace HO170 := Aside0.mk (Kd.V_below (uV HO170) hb)
        replace HO174 := Aside0.mk (Kd.N_below (uN HO174) hb)
        replace HO179 := Aside0.mk (Kd.N_below (uN HO179) hb)
        replace HO184 := Aside0.mk (Kd.R_below (uR HO184) hb)
        replace HO187 := Aside0.mk (Kd.R_below (uR HO187) hb)
        replace HB := Aside0.mk (below_step (uB0 HB) hb)
        (try clear hb)
        (try clear hb2)
        (try clear hk)
        (try clear hi)
        refine hK.out _ _ trivial (fun hHeld => ?_)
        clear hK K
        refine norm_ (a' := ?_) ?_ ?_
        rotate_left
        ·show Act.put _ (some 65) _ = _
         exact uP
        refine pure_ (i := 35) (N := some 67) (v := ?_) (a' := ?_) u_t36f5 rfl rfl (any_of HT_.out (by kernel_rfl)) (fun _ _ _ h => h) (Or.inl ⟨by rfl, ?_⟩) ?_ ?_
        rotate_left
        ·intro w'
         go_simp
         with_reducible rfl
        rotate_left
        ·exact uP
        refine pure_ (i := 36) (N := some 68) (v := ?_) (a' := ?_) u_t37f4 rfl rfl (any_of HT_.out (by kernel_rfl)) (fun _ _ _ h => h) (Or.inl ⟨by rfl, ?_⟩) ?_ ?_
        rotate_left
        ·intro w'
         go_simp
         with_reducible rfl
        rotate_left
        ·exact uP
        refine pure_ (i := 37) (N := some 69) (v := ?_) (a' := ?_) u_t38f3 rfl rfl (any_of HT_.out (by kernel_rfl)) (fun _ _ _ h => h) (Or.inl ⟨by rfl, ?_⟩) ?_ ?_
        rotate_left
        ·intro w'
         go_simp
         with_reducible rfl
        rotate_left
        ·exact uP
        refine one_ (i := 38) (N := some 70) u_t39f2 rfl rfl (one_of HT_.out (by kernel_rfl)) (by decide) (fun K hK => ?_)
        refine goes_ Tryd.func6 (by kernel_rfl) rfl #[] (by rfl) rfl rfl uC ?_
        with_reducible refine (colloquylaw05_sure.calls  t189 _ ?side1 A22.out).mono ?_
        (case side1 => exact HG.out.below (uB0 HB))
        rintro e w47 ⟨rfl, hb⟩
        refine ⟨_, rfl, ?_⟩
        replace HO0 := Aside0.mk (Kd.V_below (uV HO0) hb)
        replace HO1 := Aside0.mk (Kd.V_below (uV HO1) hb)
        replace HO163 := Aside0.mk (Kd.R_below (uR HO163) hb)
        replace HO167 := Aside0.mk (Kd.R_below (uR HO167) hb)
        replace HO170 := Aside0.mk (Kd.V_below (uV HO170) hb)
        replace HO174 := Aside0.mk (Kd.N_below (uN HO174) hb)
        replace HO179 := Aside0.mk (Kd.N_below (uN HO179) hb)
        replace HO184 := Aside0.mk (Kd.R_below (uR HO184) hb)
        replace HO187 := Aside0.mk (Kd.R_below (uR HO187) hb)
        replace HB := Aside0.mk (below_step (uB0 HB) hb)
        (try clear hb)
        (try clear hb2)
        (try clear hk)
        (try clear hi)
        refine hK.out _ _ trivial (fun hHeld => ?_)
        clear hK K
        refine norm_ (a' := ?_) ?_ ?_
        rotate_left
        ·show Act.put _ (some 70) _ = _
         exact uP
        refine pure_ (i := 39) (N := some 71) (v := ?_) (a' := ?_) u_t40f1 rfl rfl (any_of HT_.out (by kernel_rfl)) (fun _ _ _ h => h) (Or.inl ⟨by rfl, ?_⟩) ?_ ?_
        rotate_left
        ·intro w'
         go_simp
         with_reducible rfl
        rotate_left
        ·exact uP
        refine pure_ (i := 40) (N := some 4) (v := ?_) (a' := ?_) u_t41 rfl rfl (any_of HT_.out (by kernel_rfl)) (fun _ _ _ h => h) (Or.inl ⟨by rfl, ?_⟩) ?_ ?_
        rotate_left
        ·intro w'
         go_simp
         with_reducible rfl
        rotate_left
        ·exact uP
        refine done_ (done_of HT_.out (by kernel_rfl)) ?_
        try go_wp2
        go_ret
        exact ⟨by first | rfl | (simp [errW_none, errW_some] <;> rfl) | (simp [*, errW_none, errW_some] <;> rfl), uB0 HB⟩
       rw [if_neg c21] at H
       have c21b0 : (t188 == t171) = false := beq_eq_false_iff_ne.mpr c21
       have c21b1 : (t188 != t171) = true := bne_iff_ne.mpr c21
       exact absurd H (by simp)
      rw [if_neg c19] at H
      have c19b0 : ((strOfNums t164).toList == (strOfNums t168).toList) = false := beq_eq_false_iff_ne.mpr c19
      have c19b1 : ((strOfNums t164).toList != (strOfNums t168).toList) = true := bne_iff_ne.mpr c19
      exact absurd H (by simp)
     rw [if_neg c18] at H
     have c18b0 : ((strOfNums t182).toList == (strOfNums t185).toList) = false := beq_eq_false_iff_ne.mpr c18
     have c18b1 : ((strOfNums t182).toList != (strOfNums t185).toList) = true := bne_iff_ne.mpr c18
     exact absurd H (by simp)
    rw [if_neg c15] at H
    have c15b0 : (t180 == t181) = false := beq_eq_false_iff_ne.mpr c15
    have c15b1 : (t180 != t181) = true := bne_iff_ne.mpr c15
    exact absurd H (by simp)
   rw [if_neg c12] at H
   have c12b0 : (t175 == t176) = false := beq_eq_false_iff_ne.mpr c12
   have c12b1 : (t175 != t176) = true := bne_iff_ne.mpr c12
   exact absurd H (by simp)
  rw [if_neg c7] at H
  exact absurd H (by simp)
 rw [if_neg c6] at H
 exact absurd H (by simp)

/-- THE ONE PURE STATEMENT of colloquylaw05_SumTells: yours. -/
def colloquylaw05_SumTells.Pure : Prop := ∀ (l0 : List Int) (l1 : List Int), l0.length ≤ maxLen → l0.length * 1 ≤ 140737488351232 → (∀ x ∈ l0, (Lit.int .u8 x).wf = true) → l1.length ≤ maxLen → l1.length * 1 ≤ 140737488351232 → (∀ x ∈ l1, (Lit.int .u8 x).wf = true) → ∃ k, colloquylaw05_SumTells.f k l0 l1 = some true
theorem colloquylaw05_SumTells.walk (P : colloquylaw05_SumTells.Pure) (a0 : Option Addr) (len0 cap0 : Nat) (z0 : List Int) (a1 : Option Addr) (len1 cap1 : Nat) (z1 : List Int) (w : World) (hg : Go.Proofs.YtachjpkpgbofaaaDoor.AsNum.GP w) (w0 : (a0 = none ∧ len0 = 0 ∧ cap0 = 0 ∧ z0 = []) ∨ ∃ x, a0 = some x ∧ len0 ≤ cap0 ∧ cap0 ≤ maxLen ∧ z0.length = cap0 ∧ (∀ i, i < z0.length → w.cell? (x.add i) = some (.int .u8 (z0.getD i 0))) ∧ ∀ n ∈ z0, (Lit.int .u8 n).wf = true) (y0 : len0 * 1 ≤ 140737488351232) (w1 : (a1 = none ∧ len1 = 0 ∧ cap1 = 0 ∧ z1 = []) ∨ ∃ x, a1 = some x ∧ len1 ≤ cap1 ∧ cap1 ≤ maxLen ∧ z1.length = cap1 ∧ (∀ i, i < z1.length → w.cell? (x.add i) = some (.int .u8 (z1.getD i 0))) ∧ ∀ n ∈ z1, (Lit.int .u8 n).wf = true) (y1 : len1 * 1 ≤ 140737488351232) :
  Calls Tryd.prog 3 #[.slice a0 len0 cap0, .slice a1 len1 cap1] w fun e w' => e = .returned (.bool true) ∧ Below w.heap.size w w' := by
 obtain ⟨l0, rfl, hr0, hm0, hw0, hc0⟩ := ReadsInt.ofRowC w0
 obtain ⟨l1, rfl, hr1, hm1, hw1, hc1⟩ := ReadsInt.ofRowC w1
 obtain ⟨k, h⟩ := P l0 l1 hm0 y0 hw0 hm1 y1 hw1
 refine (colloquylaw05_SumTells.calls k (fun k_ => k_ < w.heap.size) _ _ l0 (fun k_ => k_ < w.heap.size) _ _ l1 true w (Kd.V_mk hc0 (Kd.C_F (Kd.heap_int .u8) (Kd.C_of_reads (d := (0 : Int)) (h1 := fun _ => rfl) hr0))) (Kd.V_mk hc1 (Kd.C_F (Kd.heap_int .u8) (Kd.C_of_reads (d := (0 : Int)) (h1 := fun _ => rfl) hr1))) hg h).mono ?_
 rintro e w' ⟨rfl, hd⟩
 exact ⟨rfl, hd⟩

end Go.Proofs.YtachjpkpgbofaaaDoor.PSumTells
