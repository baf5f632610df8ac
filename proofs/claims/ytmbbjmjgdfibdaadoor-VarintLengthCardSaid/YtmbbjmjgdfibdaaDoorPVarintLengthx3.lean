/- The functions that the law reaches, as plain functions of lists and numbers, and that a call of the Go code comes to just their answers; laid by this repo's own program over the seat's translation. Conditions: each contract's own premises. -/
import Derived.Test.YtmbbjmjgdfibdaaDoorPVarintLengthx0
import Derived.Test.YtmbbjmjgdfibdaaDoorPVarintLengthx1
import Derived.Test.YtmbbjmjgdfibdaaDoorPVarintLengthx2
namespace Go.Proofs.YtmbbjmjgdfibdaaDoor.PVarintLength
open Go.RowKit Go.Proofs.YtmbbjmjgdfibdaaDoorW.PrintWords Go.Proofs.YtmbbjmjgdfibdaaDoorW.PrintLast Go.Proofs.YtmbbjmjgdfibdaaDoorW.PrintMore
attribute [local go_sem] max2_int min2_int max_two min_two max_three min_three max_four min_four   -- for this text's walks alone
set_option linter.unusedVariables false
set_option linter.unusedSimpArgs false

/-! ### colloquylaw04_VarintLength: function 5 -/
def colloquylaw04_VarintLength.j0 : Nat → Int → Int → Bool → Option (Bool)
  | 0, _, _, _ => none
  | k + 1, x0, x3, x12 => if x12 = true then (some false) else (if x3 < 10 then (if 0 ≤ (IntKind.u64.wrap (wrap64 ((wrap64 (7 * x3)) - 1))) then (if x0 < (shl .i64 (-1) (IntKind.u64.wrap (wrap64 ((wrap64 (7 * x3)) - 1)))) then (some false) else (if x0 ≥ (shl .i64 1 (IntKind.u64.wrap (wrap64 ((wrap64 (7 * x3)) - 1)))) then (some false) else (if x3 > 1 then (if 0 ≤ (IntKind.u64.wrap (wrap64 ((wrap64 (7 * x3)) - 8))) then (if x0 ≥ (shl .i64 (-1) (IntKind.u64.wrap (wrap64 ((wrap64 (7 * x3)) - 8)))) then (if (x0 < (shl .i64 1 (IntKind.u64.wrap (wrap64 ((wrap64 (7 * x3)) - 8))))) then (some false) else ((colloquylaw04_sure.f k).bind fun t169 => (some t169))) else ((colloquylaw04_sure.f k).bind fun t170 => (some t170))) else (none)) else ((colloquylaw04_sure.f k).bind fun t171 => (some t171))))) else (none)) else (if x3 > 1 then (if 0 ≤ (IntKind.u64.wrap (wrap64 ((wrap64 (7 * x3)) - 8))) then (if x0 ≥ (shl .i64 (-1) (IntKind.u64.wrap (wrap64 ((wrap64 (7 * x3)) - 8)))) then (if (x0 < (shl .i64 1 (IntKind.u64.wrap (wrap64 ((wrap64 (7 * x3)) - 8))))) then (some false) else ((colloquylaw04_sure.f k).bind fun t172 => (some t172))) else ((colloquylaw04_sure.f k).bind fun t173 => (some t173))) else (none)) else ((colloquylaw04_sure.f k).bind fun t174 => (some t174))))
def colloquylaw04_VarintLength.f (k : Nat) (a0 : Int) : Option (Bool) := (varint_Put.f k ([] : List Int) a0).bind fun t166 => (if (t166.length : Int) < 1 then (colloquylaw04_VarintLength.j0 k a0 (t166.length : Int) true) else (colloquylaw04_VarintLength.j0 k a0 (t166.length : Int) (decide ((t166.length : Int) > 10))))
theorem colloquylaw04_VarintLength.mono_l : ∀ k, (∀ y0 y1 y2, LeO (colloquylaw04_VarintLength.j0 k y0 y1 y2) (colloquylaw04_VarintLength.j0 (k + 1) y0 y1 y2))
  | 0 => fun _ _ _ r h => by simp [colloquylaw04_VarintLength.j0] at h
  | k + 1 => by
    have ih0 := colloquylaw04_VarintLength.mono_l k
    · intro y0 y1 y2
      unfold colloquylaw04_VarintLength.j0
      repeat' first
      | (with_reducible exact ih0 _ _ _)
      | (with_reducible exact colloquylaw04_sure.mono _)
      | (with_reducible exact varint_Put.mono _ _ _)
      | (with_reducible exact LeO.refl _)
      | (with_reducible exact LeO.none _)
      | (with_reducible refine LeO.ite ?_ ?_)
      | (with_reducible refine LeO.bind ?_ (fun _ => ?_))
      | exact ih0 _ _ _
      | exact colloquylaw04_sure.mono _
      | exact varint_Put.mono _ _ _
      | exact LeO.none _
      | refine LeO.ite ?_ ?_
      | refine LeO.bind ?_ (fun _ => ?_)
theorem colloquylaw04_VarintLength.mono : ∀ a0 k, LeO (colloquylaw04_VarintLength.f k a0) (colloquylaw04_VarintLength.f (k + 1) a0) := by
  intro a0 k
  have ih0 := colloquylaw04_VarintLength.mono_l k
  unfold colloquylaw04_VarintLength.f
  repeat' first
      | (with_reducible exact ih0 _ _ _)
      | (with_reducible exact colloquylaw04_sure.mono _)
      | (with_reducible exact varint_Put.mono _ _ _)
      | (with_reducible exact LeO.refl _)
      | (with_reducible exact LeO.none _)
      | (with_reducible refine LeO.ite ?_ ?_)
      | (with_reducible refine LeO.bind ?_ (fun _ => ?_))
      | exact ih0 _ _ _
      | exact colloquylaw04_sure.mono _
      | exact varint_Put.mono _ _ _
      | exact LeO.none _
      | refine LeO.ite ?_ ?_
      | refine LeO.bind ?_ (fun _ => ?_)
set_option maxHeartbeats 8000000 in
set_option maxRecDepth 100000 in
theorem colloquylaw04_VarintLength.calls (k : Nat) (a0 : Int) (r : Bool) (w : World) (hg : Go.Proofs.YtmbbjmjgdfibdaaDoor.AsNum.GP w) (h : colloquylaw04_VarintLength.f k a0 = some r) :
    Calls Tryd.prog 5 #[.int .i64 a0] w fun e w' => e = .returned (.bool r) ∧ Below w.heap.size w w' := by
  have HG := Aside0.mk hg
  clear hg
  have HB := Aside0.mk (Below.refl w.heap.size w)
  have H : ((varint_Put.f k ([] : List Int) a0).bind fun t166 => (if (t166.length : Int) < 1 then (colloquylaw04_VarintLength.j0 k a0 (t166.length : Int) true) else (colloquylaw04_VarintLength.j0 k a0 (t166.length : Int) (decide ((t166.length : Int) > 10))))) = some r := h
  clear h
  replace H := Option.bind_eq_some_iff.mp H
  obtain ⟨t166, A20, H⟩ := H
  replace H : (if (t166.length : Int) < 1 then (colloquylaw04_VarintLength.j0 k a0 (t166.length : Int) true) else (colloquylaw04_VarintLength.j0 k a0 (t166.length : Int) (decide ((t166.length : Int) > 10)))) = some r := H
  have A2 := Aside0.mk A20
  clear A20
  have HC3 := Aside0.mk H
  clear H
  go_enter Tryd.func5, Tryd.ntmps5
  go_upto_region 2 with (first | ((with_reducible refine gate_callee (f := 11) rfl ?_); refine goesL_ (some 5) rfl rfl Tryd.func11 (by kernel_rfl) rfl #[.slice none 0 0, .int .i64 a0] rfl (by (try simp only [List.map_toArray, List.map_cons, List.map_nil]); first | done | rfl | (simp only [List.length_drop, List.length_take]; rfl)) ?_; (refine (varint_Put.calls k _ _ ([] : List Int) a0 t166 _ ?side1 ?side2 A2.out).mono ?_); (case side1 => exact Kd.C_nil _ _); (case side2 => exact Nat.le_refl _); rintro e w4 ⟨v167, rfl, ho0, hb⟩; refine ⟨_, rfl, ?_⟩; have n0_ := Aside0.mk (Kd.R_lower ho0 (below_size (by repeat (first | (with_reducible first | exact HB.out | apply below_alloc | apply pw_below_drewN | apply below_drew1) | exact HB.out)))); have n1_ := Aside0.mk (below_step (by repeat (first | (with_reducible first | exact HB.out | apply below_alloc | apply pw_below_drewN | apply below_drew1) | exact HB.out)) hb); clear HB; have HO168 := n0_; have HB := n1_; clear n0_ n1_; (try clear hb); (try clear hb2); (try clear hk); (try clear hi); (try clear ho0); obtain ⟨Ao5, co5, eo5⟩ := Kd.R_slice HO168.out; subst eo5))
  (try simp only [Act.put, List.setIfInBounds_toArray, List.set_cons_zero, List.set_cons_succ])
  go_cut [12] (fun v12 wc => ∃ (kq : Nat) (x12_2 : Bool), v12 = .bool x12_2 ∧ Aside0 (colloquylaw04_VarintLength.j0 kq a0 (t166.length : Int) x12_2 = some r) ∧ Aside0 (kq ≤ k) ∧ Aside0 (Below w.heap.size w wc))
  case first =>
    have H := HC3.out
    clear HC3
    by_cases c6 : (t166.length : Int) < 1
    · rw [if_pos c6] at H
      have c6b0 : decide ((t166.length : Int) < 1) = true := decide_eq_true c6
      have c6b1 : decide (t166.length < 1) = true := decide_eq_true (by omega)
      clear c6
      (first | rw [c6b0] | (simp only [i64_w, i32_w]; rw [c6b0]) | skip)
      have H' := Aside0.mk H
      clear H
      go_wp2
      go_meet
      case rel => exact ⟨_, (true), (by first | rfl | (simp; done) | (simp [*]; done)), H', ⟨by first | omega | exact Nat.le_refl _⟩, ⟨by repeat (first | (with_reducible first | exact HB.out | apply below_alloc | apply pw_below_drewN | apply below_drew1) | exact HB.out)⟩⟩
    · rw [if_neg c6] at H
      have c6b0 : decide ((t166.length : Int) < 1) = false := decide_eq_false c6
      have c6b1 : decide (t166.length < 1) = false := decide_eq_false (by omega)
      clear c6
      (first | rw [c6b0] | (simp only [i64_w, i32_w]; rw [c6b0]) | skip)
      have H' := Aside0.mk H
      clear H
      go_wp2
      go_meet
      case rel => exact ⟨_, (decide ((t166.length : Int) > 10)), (by first | rfl | (simp; done) | (simp [*]; done)), H', ⟨by first | omega | exact Nat.le_refl _⟩, ⟨by repeat (first | (with_reducible first | exact HB.out | apply below_alloc | apply pw_below_drewN | apply below_drew1) | exact HB.out)⟩⟩
  case rest =>
    clear HC3
    try clear c1
    try clear p2
    try clear c5
    try clear c6
    try clear c6b0
    try clear c6b1
    obtain ⟨kq, x12_2, rfl, HA, HJ2, HB⟩ := hcut
    cases kq with
    | zero => exact absurd HA.out (by simp [colloquylaw04_VarintLength.j0])
    | succ kj2 =>
      have H := HA.out
      clear HA
      simp only [colloquylaw04_VarintLength.j0] at H
      by_cases c7 : x12_2 = true
      · subst c7
        have H1 : (some false) = some r := by rw [if_pos rfl] at H; exact H
        clear H
        have H := H1
        clear H1
        obtain rfl := Option.some.inj H
        go_wp2
        go_ret
        exact ⟨by first | rfl | (simp [errW_none, errW_some] <;> rfl) | (simp [*, errW_none, errW_some] <;> rfl), by repeat (first | (with_reducible first | exact HB.out | apply below_alloc | apply pw_below_drewN | apply below_drew1) | exact HB.out)⟩
      · replace c7 := Bool.eq_false_iff.mpr c7
        subst c7
        have H1 : (if (t166.length : Int) < 10 then (if 0 ≤ (IntKind.u64.wrap (wrap64 ((wrap64 (7 * (t166.length : Int))) - 1))) then (if a0 < (shl .i64 (-1) (IntKind.u64.wrap (wrap64 ((wrap64 (7 * (t166.length : Int))) - 1)))) then (some false) else (if a0 ≥ (shl .i64 1 (IntKind.u64.wrap (wrap64 ((wrap64 (7 * (t166.length : Int))) - 1)))) then (some false) else (if (t166.length : Int) > 1 then (if 0 ≤ (IntKind.u64.wrap (wrap64 ((wrap64 (7 * (t166.length : Int))) - 8))) then (if a0 ≥ (shl .i64 (-1) (IntKind.u64.wrap (wrap64 ((wrap64 (7 * (t166.length : Int))) - 8)))) then (if (a0 < (shl .i64 1 (IntKind.u64.wrap (wrap64 ((wrap64 (7 * (t166.length : Int))) - 8))))) then (some false) else ((colloquylaw04_sure.f kj2).bind fun t169 => (some t169))) else ((colloquylaw04_sure.f kj2).bind fun t170 => (some t170))) else (none)) else ((colloquylaw04_sure.f kj2).bind fun t171 => (some t171))))) else (none)) else (if (t166.length : Int) > 1 then (if 0 ≤ (IntKind.u64.wrap (wrap64 ((wrap64 (7 * (t166.length : Int))) - 8))) then (if a0 ≥ (shl .i64 (-1) (IntKind.u64.wrap (wrap64 ((wrap64 (7 * (t166.length : Int))) - 8)))) then (if (a0 < (shl .i64 1 (IntKind.u64.wrap (wrap64 ((wrap64 (7 * (t166.length : Int))) - 8))))) then (some false) else ((colloquylaw04_sure.f kj2).bind fun t172 => (some t172))) else ((colloquylaw04_sure.f kj2).bind fun t173 => (some t173))) else (none)) else ((colloquylaw04_sure.f kj2).bind fun t174 => (some t174)))) = some r := by rw [if_neg (show ¬ (false = true) by decide)] at H; exact H
        clear H
        have H := H1
        clear H1
        by_cases c8 : (t166.length : Int) < 10
        · rw [if_pos c8] at H
          have c8b0 : decide ((t166.length : Int) < 10) = true := decide_eq_true c8
          have c8b1 : decide (t166.length < 10) = true := decide_eq_true (by omega)
          clear c8
          obtain ⟨ji9, hji9⟩ : ∃ j_ : Int, (IntKind.u64.wrap (wrap64 ((wrap64 (7 * (t166.length : Int))) - 1))) = j_ := ⟨_, rfl⟩
          replace H : (if 0 ≤ (ji9) then (if a0 < (shl .i64 (-1) (ji9)) then (some false) else (if a0 ≥ (shl .i64 1 (ji9)) then (some false) else (if (t166.length : Int) > 1 then (if 0 ≤ (IntKind.u64.wrap (wrap64 ((wrap64 (7 * (t166.length : Int))) - 8))) then (if a0 ≥ (shl .i64 (-1) (IntKind.u64.wrap (wrap64 ((wrap64 (7 * (t166.length : Int))) - 8)))) then (if (a0 < (shl .i64 1 (IntKind.u64.wrap (wrap64 ((wrap64 (7 * (t166.length : Int))) - 8))))) then (some false) else ((colloquylaw04_sure.f kj2).bind fun t169 => (some t169))) else ((colloquylaw04_sure.f kj2).bind fun t170 => (some t170))) else (none)) else ((colloquylaw04_sure.f kj2).bind fun t171 => (some t171))))) else (none)) = some r := by first | (rw [hji9] at H; exact H) | (simp only [hji9] at H ⊢; exact H)
          by_cases c10 : 0 ≤ (ji9)
          · rw [if_pos c10] at H
            have c10b0 := eq_true c10
            have c10b1 : decide (0 ≤ (ji9)) = true := decide_eq_true c10
            clear c10
            obtain ⟨ji11, hji11⟩ : ∃ j_ : Int, (shl .i64 (-1) (ji9)) = j_ := ⟨_, rfl⟩
            replace H : (if a0 < (ji11) then (some false) else (if a0 ≥ (shl .i64 1 (ji9)) then (some false) else (if (t166.length : Int) > 1 then (if 0 ≤ (IntKind.u64.wrap (wrap64 ((wrap64 (7 * (t166.length : Int))) - 8))) then (if a0 ≥ (shl .i64 (-1) (IntKind.u64.wrap (wrap64 ((wrap64 (7 * (t166.length : Int))) - 8)))) then (if (a0 < (shl .i64 1 (IntKind.u64.wrap (wrap64 ((wrap64 (7 * (t166.length : Int))) - 8))))) then (some false) else ((colloquylaw04_sure.f kj2).bind fun t169 => (some t169))) else ((colloquylaw04_sure.f kj2).bind fun t170 => (some t170))) else (none)) else ((colloquylaw04_sure.f kj2).bind fun t171 => (some t171))))) = some r := by first | (rw [hji11] at H; exact H) | (simp only [hji11] at H ⊢; exact H)
            have hji11_ : (IntKind.i64.wrap ((-1) * 2 ^ min (ji9).toNat 64)) = ji11 := hji11
            have hji11z : (ji9) ≤ 64 → (IntKind.i64.wrap ((-1) * 2 ^ (ji9).toNat)) = ji11 := shl_small hji11
            have hji11m : (IntKind.i64.wrap (-(2 ^ min (ji9).toNat 64))) = ji11 := by have h_ := hji11_; rw [(by omega : ∀ q_ : Int, (-1) * q_ = -q_) _] at h_; exact h_
            have hji11n : (ji9) ≤ 64 → (IntKind.i64.wrap (-(2 ^ (ji9).toNat))) = ji11 := fun hle_ => by have h_ := hji11z hle_; rw [(by omega : ∀ q_ : Int, (-1) * q_ = -q_) _] at h_; exact h_
            have hji11o : (wrap64 (-(2 ^ min (ji9).toNat 64))) = ji11 := (i64_w _).symm.trans hji11m
            have hji11l : (ji9) ≤ 64 → (wrap64 (-(2 ^ (ji9).toNat))) = ji11 := fun h_ => (i64_w _).symm.trans (hji11n h_)
            have hji11y : (wrap64 ((-1) * 2 ^ min (ji9).toNat 64)) = ji11 := (i64_w _).symm.trans hji11_
            have hji11x : (ji9) ≤ 64 → (wrap64 ((-1) * 2 ^ (ji9).toNat)) = ji11 := fun h_ => (i64_w _).symm.trans (hji11z h_)
            by_cases c12 : a0 < (ji11)
            · rw [if_pos c12] at H
              have c12b0 : decide (a0 < (ji11)) = true := decide_eq_true c12
              clear c12
              obtain rfl := Option.some.inj H
              go_wp2
              go_ret
              exact ⟨by first | rfl | (simp [errW_none, errW_some] <;> rfl) | (simp only [← hji9, ← hji11]; first | rfl | (simp [errW_none, errW_some] <;> rfl)) | (simp [*, errW_none, errW_some] <;> rfl), by repeat (first | (with_reducible first | exact HB.out | apply below_alloc | apply pw_below_drewN | apply below_drew1) | exact HB.out)⟩
            · rw [if_neg c12] at H
              have c12b0 : decide (a0 < (ji11)) = false := decide_eq_false c12
              clear c12
              have c13b0 := eq_true (of_decide_eq_true (by first | (with_reducible assumption) | assumption) : 0 ≤ (ji9))
              obtain ⟨ji14, hji14⟩ : ∃ j_ : Int, (shl .i64 1 (ji9)) = j_ := ⟨_, rfl⟩
              replace H : (if a0 ≥ (ji14) then (some false) else (if (t166.length : Int) > 1 then (if 0 ≤ (IntKind.u64.wrap (wrap64 ((wrap64 (7 * (t166.length : Int))) - 8))) then (if a0 ≥ (shl .i64 (-1) (IntKind.u64.wrap (wrap64 ((wrap64 (7 * (t166.length : Int))) - 8)))) then (if (a0 < (shl .i64 1 (IntKind.u64.wrap (wrap64 ((wrap64 (7 * (t166.length : Int))) - 8))))) then (some false) else ((colloquylaw04_sure.f kj2).bind fun t169 => (some t169))) else ((colloquylaw04_sure.f kj2).bind fun t170 => (some t170))) else (none)) else ((colloquylaw04_sure.f kj2).bind fun t171 => (some t171)))) = some r := by first | (rw [hji14] at H; exact H) | (simp only [hji14] at H ⊢; exact H)
              have hji14_ : (IntKind.i64.wrap (1 * 2 ^ min (ji9).toNat 64)) = ji14 := hji14
              have hji14z : (ji9) ≤ 64 → (IntKind.i64.wrap (1 * 2 ^ (ji9).toNat)) = ji14 := shl_small hji14
              have hji14u : (IntKind.i64.wrap (2 ^ min (ji9).toNat 64)) = ji14 := by have h_ := hji14_; rw [Int.one_mul] at h_; exact h_
              have hji14v : (ji9) ≤ 64 → (IntKind.i64.wrap (2 ^ (ji9).toNat)) = ji14 := fun hle_ => by have h_ := hji14z hle_; rw [Int.one_mul] at h_; exact h_
              have hji14y : (wrap64 (1 * 2 ^ min (ji9).toNat 64)) = ji14 := (i64_w _).symm.trans hji14_
              have hji14x : (ji9) ≤ 64 → (wrap64 (1 * 2 ^ (ji9).toNat)) = ji14 := fun h_ => (i64_w _).symm.trans (hji14z h_)
              by_cases c15 : a0 ≥ (ji14)
              · rw [if_pos c15] at H
                have c15b0 : decide ((ji14) ≤ a0) = true := decide_eq_true c15
                clear c15
                obtain rfl := Option.some.inj H
                go_wp2
                go_ret
                exact ⟨by first | rfl | (simp [errW_none, errW_some] <;> rfl) | (simp only [← hji9, ← hji11, ← hji14]; first | rfl | (simp [errW_none, errW_some] <;> rfl)) | (simp [*, errW_none, errW_some] <;> rfl), by repeat (first | (with_reducible first | exact HB.out | apply below_alloc | apply pw_below_drewN | apply below_drew1) | exact HB.out)⟩
              · rw [if_neg c15] at H
                have c15b0 : decide ((ji14) ≤ a0) = false := decide_eq_false c15
                clear c15
                by_cases c16 : (t166.length : Int) > 1
                · rw [if_pos c16] at H
                  have c16b0 : decide (1 < (t166.length : Int)) = true := decide_eq_true c16
                  have c16b1 : decide (1 < t166.length) = true := decide_eq_true (by omega)
                  clear c16
                  obtain ⟨ji17, hji17⟩ : ∃ j_ : Int, (IntKind.u64.wrap (wrap64 ((wrap64 (7 * (t166.length : Int))) - 8))) = j_ := ⟨_, rfl⟩
                  replace H : (if 0 ≤ (ji17) then (if a0 ≥ (shl .i64 (-1) (ji17)) then (if (a0 < (shl .i64 1 (ji17))) then (some false) else ((colloquylaw04_sure.f kj2).bind fun t169 => (some t169))) else ((colloquylaw04_sure.f kj2).bind fun t170 => (some t170))) else (none)) = some r := by first | (rw [hji17] at H; exact H) | (simp only [hji17] at H ⊢; exact H)
                  by_cases c18 : 0 ≤ (ji17)
                  · rw [if_pos c18] at H
                    have c18b0 := eq_true c18
                    have c18b1 : decide (0 ≤ (ji17)) = true := decide_eq_true c18
                    clear c18
                    obtain ⟨ji19, hji19⟩ : ∃ j_ : Int, (shl .i64 (-1) (ji17)) = j_ := ⟨_, rfl⟩
                    replace H : (if a0 ≥ (ji19) then (if (a0 < (shl .i64 1 (ji17))) then (some false) else ((colloquylaw04_sure.f kj2).bind fun t169 => (some t169))) else ((colloquylaw04_sure.f kj2).bind fun t170 => (some t170))) = some r := by first | (rw [hji19] at H; exact H) | (simp only [hji19] at H ⊢; exact H)
                    have hji19_ : (IntKind.i64.wrap ((-1) * 2 ^ min (ji17).toNat 64)) = ji19 := hji19
                    have hji19z : (ji17) ≤ 64 → (IntKind.i64.wrap ((-1) * 2 ^ (ji17).toNat)) = ji19 := shl_small hji19
                    have hji19m : (IntKind.i64.wrap (-(2 ^ min (ji17).toNat 64))) = ji19 := by have h_ := hji19_; rw [(by omega : ∀ q_ : Int, (-1) * q_ = -q_) _] at h_; exact h_
                    have hji19n : (ji17) ≤ 64 → (IntKind.i64.wrap (-(2 ^ (ji17).toNat))) = ji19 := fun hle_ => by have h_ := hji19z hle_; rw [(by omega : ∀ q_ : Int, (-1) * q_ = -q_) _] at h_; exact h_
                    have hji19o : (wrap64 (-(2 ^ min (ji17).toNat 64))) = ji19 := (i64_w _).symm.trans hji19m
                    have hji19l : (ji17) ≤ 64 → (wrap64 (-(2 ^ (ji17).toNat))) = ji19 := fun h_ => (i64_w _).symm.trans (hji19n h_)
                    have hji19y : (wrap64 ((-1) * 2 ^ min (ji17).toNat 64)) = ji19 := (i64_w _).symm.trans hji19_
                    have hji19x : (ji17) ≤ 64 → (wrap64 ((-1) * 2 ^ (ji17).toNat)) = ji19 := fun h_ => (i64_w _).symm.trans (hji19z h_)
                    by_cases c20 : a0 ≥ (ji19)
                    · rw [if_pos c20] at H
                      have c20b0 : decide ((ji19) ≤ a0) = true := decide_eq_true c20
                      clear c20
                      have c21b0 := eq_true (of_decide_eq_true (by first | (with_reducible assumption) | assumption) : 0 ≤ (ji17))
                      obtain ⟨ji22, hji22⟩ : ∃ j_ : Int, (shl .i64 1 (ji17)) = j_ := ⟨_, rfl⟩
                      replace H : (if (a0 < (ji22)) then (some false) else ((colloquylaw04_sure.f kj2).bind fun t169 => (some t169))) = some r := by first | (rw [hji22] at H; exact H) | (simp only [hji22] at H ⊢; exact H)
                      have hji22_ : (IntKind.i64.wrap (1 * 2 ^ min (ji17).toNat 64)) = ji22 := hji22
                      have hji22z : (ji17) ≤ 64 → (IntKind.i64.wrap (1 * 2 ^ (ji17).toNat)) = ji22 := shl_small hji22
                      have hji22u : (IntKind.i64.wrap (2 ^ min (ji17).toNat 64)) = ji22 := by have h_ := hji22_; rw [Int.one_mul] at h_; exact h_
                      have hji22v : (ji17) ≤ 64 → (IntKind.i64.wrap (2 ^ (ji17).toNat)) = ji22 := fun hle_ => by have h_ := hji22z hle_; rw [Int.one_mul] at h_; exact h_
                      have hji22y : (wrap64 (1 * 2 ^ min (ji17).toNat 64)) = ji22 := (i64_w _).symm.trans hji22_
                      have hji22x : (ji17) ≤ 64 → (wrap64 (1 * 2 ^ (ji17).toNat)) = ji22 := fun h_ => (i64_w _).symm.trans (hji22z h_)
                      by_cases c23 : (a0 < (ji22))
                      · rw [if_pos c23] at H
                        have c23b0 : decide (a0 < (ji22)) = true := decide_eq_true c23
                        clear c23
                        obtain rfl := Option.some.inj H
                        go_wp2
                        go_ret
                        exact ⟨by first | rfl | (simp [errW_none, errW_some] <;> rfl) | (simp only [← hji9, ← hji11, ← hji14, ← hji17, ← hji19, ← hji22]; first | rfl | (simp [errW_none, errW_some] <;> rfl)) | (simp [*, errW_none, errW_some] <;> rfl), by repeat (first | (with_reducible first | exact HB.out | apply below_alloc | apply pw_below_drewN | apply below_drew1) | exact HB.out)⟩
                      · rw [if_neg c23] at H
                        have c23b0 : decide (a0 < (ji22)) = false := decide_eq_false c23
                        clear c23
                        replace H := Option.bind_eq_some_iff.mp H
                        obtain ⟨t169, A240, H⟩ := H
                        replace H : (some t169) = some r := H
                        have A24 := Aside0.mk A240
                        clear A240
                        obtain rfl := Option.some.inj H
                        go_wp2_with (first | (go_at_call 7; (with_reducible refine (colloquylaw04_sure.calls kj2  t169 _ ?side1 A24.out).mono ?_); (case side1 => exact HG.out.below (by repeat (first | (with_reducible first | exact HB.out | apply below_alloc | apply pw_below_drewN | apply below_drew1) | exact HB.out))); rintro e w25 ⟨rfl, hb⟩; have n0_ := Aside0.mk (below_step (by repeat (first | (with_reducible first | exact HB.out | apply below_alloc | apply pw_below_drewN | apply below_drew1) | exact HB.out)) hb); clear HB; have HB := n0_; clear n0_; (try clear hb); (try clear hb2); (try clear hk); (try clear hi)))
                        go_ret
                        exact ⟨by first | rfl | (simp [errW_none, errW_some] <;> rfl) | (simp only [← hji9, ← hji11, ← hji14, ← hji17, ← hji19, ← hji22]; first | rfl | (simp [errW_none, errW_some] <;> rfl)) | (simp [*, errW_none, errW_some] <;> rfl), by repeat (first | (with_reducible first | exact HB.out | apply below_alloc | apply pw_below_drewN | apply below_drew1) | exact HB.out)⟩
                    · rw [if_neg c20] at H
                      have c20b0 : decide ((ji19) ≤ a0) = false := decide_eq_false c20
                      clear c20
                      replace H := Option.bind_eq_some_iff.mp H
                      obtain ⟨t170, A260, H⟩ := H
                      replace H : (some t170) = some r := H
                      have A26 := Aside0.mk A260
                      clear A260
                      obtain rfl := Option.some.inj H
                      go_wp2_with (first | (go_at_call 7; (with_reducible refine (colloquylaw04_sure.calls kj2  t170 _ ?side1 A26.out).mono ?_); (case side1 => exact HG.out.below (by repeat (first | (with_reducible first | exact HB.out | apply below_alloc | apply pw_below_drewN | apply below_drew1) | exact HB.out))); rintro e w27 ⟨rfl, hb⟩; have n0_ := Aside0.mk (below_step (by repeat (first | (with_reducible first | exact HB.out | apply below_alloc | apply pw_below_drewN | apply below_drew1) | exact HB.out)) hb); clear HB; have HB := n0_; clear n0_; (try clear hb); (try clear hb2); (try clear hk); (try clear hi)))
                      go_ret
                      exact ⟨by first | rfl | (simp [errW_none, errW_some] <;> rfl) | (simp only [← hji9, ← hji11, ← hji14, ← hji17, ← hji19]; first | rfl | (simp [errW_none, errW_some] <;> rfl)) | (simp [*, errW_none, errW_some] <;> rfl), by repeat (first | (with_reducible first | exact HB.out | apply below_alloc | apply pw_below_drewN | apply below_drew1) | exact HB.out)⟩
                  · rw [if_neg c18] at H
                    exact absurd H (by simp)
                · rw [if_neg c16] at H
                  have c16b0 : decide (1 < (t166.length : Int)) = false := decide_eq_false c16
                  have c16b1 : decide (1 < t166.length) = false := decide_eq_false (by omega)
                  clear c16
                  replace H := Option.bind_eq_some_iff.mp H
                  obtain ⟨t171, A280, H⟩ := H
                  replace H : (some t171) = some r := H
                  have A28 := Aside0.mk A280
                  clear A280
                  obtain rfl := Option.some.inj H
                  go_wp2_with (first | (go_at_call 7; (with_reducible refine (colloquylaw04_sure.calls kj2  t171 _ ?side1 A28.out).mono ?_); (case side1 => exact HG.out.below (by repeat (first | (with_reducible first | exact HB.out | apply below_alloc | apply pw_below_drewN | apply below_drew1) | exact HB.out))); rintro e w29 ⟨rfl, hb⟩; have n0_ := Aside0.mk (below_step (by repeat (first | (with_reducible first | exact HB.out | apply below_alloc | apply pw_below_drewN | apply below_drew1) | exact HB.out)) hb); clear HB; have HB := n0_; clear n0_; (try clear hb); (try clear hb2); (try clear hk); (try clear hi)))
                  go_ret
                  exact ⟨by first | rfl | (simp [errW_none, errW_some] <;> rfl) | (simp only [← hji9, ← hji11, ← hji14]; first | rfl | (simp [errW_none, errW_some] <;> rfl)) | (simp [*, errW_none, errW_some] <;> rfl), by repeat (first | (with_reducible first | exact HB.out | apply below_alloc | apply pw_below_drewN | apply below_drew1) | exact HB.out)⟩
          · rw [if_neg c10] at H
            exact absurd H (by simp)
        · rw [if_neg c8] at H
          have c8b0 : decide ((t166.length : Int) < 10) = false := decide_eq_false c8
          have c8b1 : decide (t166.length < 10) = false := decide_eq_false (by omega)
          clear c8
          by_cases c30 : (t166.length : Int) > 1
          · rw [if_pos c30] at H
            have c30b0 : decide (1 < (t166.length : Int)) = true := decide_eq_true c30
            have c30b1 : decide (1 < t166.length) = true := decide_eq_true (by omega)
            clear c30
            obtain ⟨ji31, hji31⟩ : ∃ j_ : Int, (IntKind.u64.wrap (wrap64 ((wrap64 (7 * (t166.length : Int))) - 8))) = j_ := ⟨_, rfl⟩
            replace H : (if 0 ≤ (ji31) then (if a0 ≥ (shl .i64 (-1) (ji31)) then (if (a0 < (shl .i64 1 (ji31))) then (some false) else ((colloquylaw04_sure.f kj2).bind fun t172 => (some t172))) else ((colloquylaw04_sure.f kj2).bind fun t173 => (some t173))) else (none)) = some r := by first | (rw [hji31] at H; exact H) | (simp only [hji31] at H ⊢; exact H)
            by_cases c32 : 0 ≤ (ji31)
            · rw [if_pos c32] at H
              have c32b0 := eq_true c32
              have c32b1 : decide (0 ≤ (ji31)) = true := decide_eq_true c32
              clear c32
              obtain ⟨ji33, hji33⟩ : ∃ j_ : Int, (shl .i64 (-1) (ji31)) = j_ := ⟨_, rfl⟩
              replace H : (if a0 ≥ (ji33) then (if (a0 < (shl .i64 1 (ji31))) then (some false) else ((colloquylaw04_sure.f kj2).bind fun t172 => (some t172))) else ((colloquylaw04_sure.f kj2).bind fun t173 => (some t173))) = some r := by first | (rw [hji33] at H; exact H) | (simp only [hji33] at H ⊢; exact H)
              have hji33_ : (IntKind.i64.wrap ((-1) * 2 ^ min (ji31).toNat 64)) = ji33 := hji33
              have hji33z : (ji31) ≤ 64 → (IntKind.i64.wrap ((-1) * 2 ^ (ji31).toNat)) = ji33 := shl_small hji33
              have hji33m : (IntKind.i64.wrap (-(2 ^ min (ji31).toNat 64))) = ji33 := by have h_ := hji33_; rw [(by omega : ∀ q_ : Int, (-1) * q_ = -q_) _] at h_; exact h_
              have hji33n : (ji31) ≤ 64 → (IntKind.i64.wrap (-(2 ^ (ji31).toNat))) = ji33 := fun hle_ => by have h_ := hji33z hle_; rw [(by omega : ∀ q_ : Int, (-1) * q_ = -q_) _] at h_; exact h_
              have hji33o : (wrap64 (-(2 ^ min (ji31).toNat 64))) = ji33 := (i64_w _).symm.trans hji33m
              have hji33l : (ji31) ≤ 64 → (wrap64 (-(2 ^ (ji31).toNat))) = ji33 := fun h_ => (i64_w _).symm.trans (hji33n h_)
              have hji33y : (wrap64 ((-1) * 2 ^ min (ji31).toNat 64)) = ji33 := (i64_w _).symm.trans hji33_
              have hji33x : (ji31) ≤ 64 → (wrap64 ((-1) * 2 ^ (ji31).toNat)) = ji33 := fun h_ => (i64_w _).symm.trans (hji33z h_)
              by_cases c34 : a0 ≥ (ji33)
              · rw [if_pos c34] at H
                have c34b0 : decide ((ji33) ≤ a0) = true := decide_eq_true c34
                clear c34
                have c35b0 := eq_true (of_decide_eq_true (by first | (with_reducible assumption) | assumption) : 0 ≤ (ji31))
                obtain ⟨ji36, hji36⟩ : ∃ j_ : Int, (shl .i64 1 (ji31)) = j_ := ⟨_, rfl⟩
                replace H : (if (a0 < (ji36)) then (some false) else ((colloquylaw04_sure.f kj2).bind fun t172 => (some t172))) = some r := by first | (rw [hji36] at H; exact H) | (simp only [hji36] at H ⊢; exact H)
                have hji36_ : (IntKind.i64.wrap (1 * 2 ^ min (ji31).toNat 64)) = ji36 := hji36
                have hji36z : (ji31) ≤ 64 → (IntKind.i64.wrap (1 * 2 ^ (ji31).toNat)) = ji36 := shl_small hji36
                have hji36u : (IntKind.i64.wrap (2 ^ min (ji31).toNat 64)) = ji36 := by have h_ := hji36_; rw [Int.one_mul] at h_; exact h_
                have hji36v : (ji31) ≤ 64 → (IntKind.i64.wrap (2 ^ (ji31).toNat)) = ji36 := fun hle_ => by have h_ := hji36z hle_; rw [Int.one_mul] at h_; exact h_
                have hji36y : (wrap64 (1 * 2 ^ min (ji31).toNat 64)) = ji36 := (i64_w _).symm.trans hji36_
                have hji36x : (ji31) ≤ 64 → (wrap64 (1 * 2 ^ (ji31).toNat)) = ji36 := fun h_ => (i64_w _).symm.trans (hji36z h_)
                by_cases c37 : (a0 < (ji36))
                · rw [if_pos c37] at H
                  have c37b0 : decide (a0 < (ji36)) = true := decide_eq_true c37
                  clear c37
                  obtain rfl := Option.some.inj H
                  go_wp2
                  go_ret
                  exact ⟨by first | rfl | (simp [errW_none, errW_some] <;> rfl) | (simp only [← hji31, ← hji33, ← hji36]; first | rfl | (simp [errW_none, errW_some] <;> rfl)) | (simp [*, errW_none, errW_some] <;> rfl), by repeat (first | (with_reducible first | exact HB.out | apply below_alloc | apply pw_below_drewN | apply below_drew1) | exact HB.out)⟩
                · rw [if_neg c37] at H
                  have c37b0 : decide (a0 < (ji36)) = false := decide_eq_false c37
                  clear c37
                  replace H := Option.bind_eq_some_iff.mp H
                  obtain ⟨t172, A380, H⟩ := H
                  replace H : (some t172) = some r := H
                  have A38 := Aside0.mk A380
                  clear A380
                  obtain rfl := Option.some.inj H
                  go_wp2_with (first | (go_at_call 7; (with_reducible refine (colloquylaw04_sure.calls kj2  t172 _ ?side1 A38.out).mono ?_); (case side1 => exact HG.out.below (by repeat (first | (with_reducible first | exact HB.out | apply below_alloc | apply pw_below_drewN | apply below_drew1) | exact HB.out))); rintro e w39 ⟨rfl, hb⟩; have n0_ := Aside0.mk (below_step (by repeat (first | (with_reducible first | exact HB.out | apply below_alloc | apply pw_below_drewN | apply below_drew1) | exact HB.out)) hb); clear HB; have HB := n0_; clear n0_; (try clear hb); (try clear hb2); (try clear hk); (try clear hi)))
                  go_ret
                  exact ⟨by first | rfl | (simp [errW_none, errW_some] <;> rfl) | (simp only [← hji31, ← hji33, ← hji36]; first | rfl | (simp [errW_none, errW_some] <;> rfl)) | (simp [*, errW_none, errW_some] <;> rfl), by repeat (first | (with_reducible first | exact HB.out | apply below_alloc | apply pw_below_drewN | apply below_drew1) | exact HB.out)⟩
              · rw [if_neg c34] at H
                have c34b0 : decide ((ji33) ≤ a0) = false := decide_eq_false c34
                clear c34
                replace H := Option.bind_eq_some_iff.mp H
                obtain ⟨t173, A400, H⟩ := H
                replace H : (some t173) = some r := H
                have A40 := Aside0.mk A400
                clear A400
                obtain rfl := Option.some.inj H
                go_wp2_with (first | (go_at_call 7; (with_reducible refine (colloquylaw04_sure.calls kj2  t173 _ ?side1 A40.out).mono ?_); (case side1 => exact HG.out.below (by repeat (first | (with_reducible first | exact HB.out | apply below_alloc | apply pw_below_drewN | apply below_drew1) | exact HB.out))); rintro e w41 ⟨rfl, hb⟩; have n0_ := Aside0.mk (below_step (by repeat (first | (with_reducible first | exact HB.out | apply below_alloc | apply pw_below_drewN | apply below_drew1) | exact HB.out)) hb); clear HB; have HB := n0_; clear n0_; (try clear hb); (try clear hb2); (try clear hk); (try clear hi)))
                go_ret
                exact ⟨by first | rfl | (simp [errW_none, errW_some] <;> rfl) | (simp only [← hji31, ← hji33]; first | rfl | (simp [errW_none, errW_some] <;> rfl)) | (simp [*, errW_none, errW_some] <;> rfl), by repeat (first | (with_reducible first | exact HB.out | apply below_alloc | apply pw_below_drewN | apply below_drew1) | exact HB.out)⟩
            · rw [if_neg c32] at H
              exact absurd H (by simp)
          · rw [if_neg c30] at H
            have c30b0 : decide (1 < (t166.length : Int)) = false := decide_eq_false c30
            have c30b1 : decide (1 < t166.length) = false := decide_eq_false (by omega)
            clear c30
            replace H := Option.bind_eq_some_iff.mp H
            obtain ⟨t174, A420, H⟩ := H
            replace H : (some t174) = some r := H
            have A42 := Aside0.mk A420
            clear A420
            obtain rfl := Option.some.inj H
            go_wp2_with (first | (go_at_call 7; (with_reducible refine (colloquylaw04_sure.calls kj2  t174 _ ?side1 A42.out).mono ?_); (case side1 => exact HG.out.below (by repeat (first | (with_reducible first | exact HB.out | apply below_alloc | apply pw_below_drewN | apply below_drew1) | exact HB.out))); rintro e w43 ⟨rfl, hb⟩; have n0_ := Aside0.mk (below_step (by repeat (first | (with_reducible first | exact HB.out | apply below_alloc | apply pw_below_drewN | apply below_drew1) | exact HB.out)) hb); clear HB; have HB := n0_; clear n0_; (try clear hb); (try clear hb2); (try clear hk); (try clear hi)))
            go_ret
            exact ⟨by first | rfl | (simp [errW_none, errW_some] <;> rfl) | (simp [*, errW_none, errW_some] <;> rfl), by repeat (first | (with_reducible first | exact HB.out | apply below_alloc | apply pw_below_drewN | apply below_drew1) | exact HB.out)⟩

/-- THE ONE PURE STATEMENT of colloquylaw04_VarintLength: yours. -/
def colloquylaw04_VarintLength.Pure : Prop := ∀ (a0 : Int), (Lit.int .i64 a0).wf = true → ∃ k, colloquylaw04_VarintLength.f k a0 = some true
theorem colloquylaw04_VarintLength.walk (P : colloquylaw04_VarintLength.Pure) (a0 : Int) (w : World) (hg : Go.Proofs.YtmbbjmjgdfibdaaDoor.AsNum.GP w) (w0 : (Lit.int .i64 a0).wf = true) :
    Calls Tryd.prog 5 #[.int .i64 a0] w fun e w' => e = .returned (.bool true) ∧ Below w.heap.size w w' := by
  obtain ⟨k, h⟩ := P a0 w0
  refine (colloquylaw04_VarintLength.calls k a0 true w hg h).mono ?_
  rintro e w' ⟨rfl, hd⟩
  exact ⟨rfl, hd⟩

end Go.Proofs.YtmbbjmjgdfibdaaDoor.PVarintLength
