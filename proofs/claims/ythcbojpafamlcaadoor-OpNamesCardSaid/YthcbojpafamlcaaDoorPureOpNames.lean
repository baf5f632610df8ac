/-
  The plain law of OpNames: what the law's Go functions compute, as lists and numbers, answers true at every input. Condition: none beyond the numbers' kinds and the slices' bounds.
-/
import Derived.Test.YthcbojpafamlcaaDoorPOpNamesx0
import Derived.Test.YthcbojpafamlcaaDoorPOpNamesx1
import Derived.Test.YthcbojpafamlcaaDoorPOpNamesx2
import Derived.Test.YthcbojpafamlcaaDoorPOpNamesx3
import Derived.Test.YthcbojpafamlcaaDoorPOpNamesx4
import Derived.Test.YthcbojpafamlcaaDoorPOpNamesx5
import Derived.Lib.Bytes
import Derived.Laws.BitsLemmas
import Derived.DataShut
namespace Go.Proofs.YthcbojpafamlcaaDoor.Pure
open Go Go.RowKit Go.Proofs.YthcbojpafamlcaaDoor.POpNames Go.Proofs.YthcbojpafamlcaaDoorW.PrintWords Go.Proofs.YthcbojpafamlcaaDoorW.PrintLast Go.Proofs.YthcbojpafamlcaaDoorW.PrintMore
set_option linter.unusedVariables false
set_option linter.unusedSimpArgs false
-- what package op computes (this repo's own)
theorem wf_u8 {x : Int} (h : (Lit.int .u8 x).wf = true) : 0 ≤ x ∧ x < 256 := by
  have := (Lit.wf_int_iff .u8 x).1 h; simp [IntKind.min, IntKind.max, IntKind.signed, IntKind.bits] at this; omega
theorem of_high (a : Int) (h : 21 ≤ a) (h2 : a < 256) : op_of.f a = some (⟨#[]⟩, ⟨#[]⟩, false) := by
  rw [op_of.f, if_pos ⟨by omega, h2⟩]
  repeat (rw [if_neg (by omega)])
theorem form_high (a : Int) (h : 21 ≤ a) (h2 : a < 256) : op_Form.f a = some (⟨#[]⟩, false) := by
  rw [op_Form.f, of_high a h h2]; rfl
theorem name_high (a : Int) (h : 21 ≤ a) (h2 : a < 256) : op_Name.f a = some ⟨#[]⟩ := by
  rw [op_Name.f, of_high a h h2]; rfl
theorem size_high (a : Int) (h : 21 ≤ a) (h2 : a < 256) : op_Size.f a = some 0 := by
  rw [op_Size.f, form_high a h h2]; rfl
theorem sure_f : ∀ n, colloquylaw07_sure.f (n + 30) = some true
  | 0 => by decide +kernel
  | n + 1 => colloquylaw07_sure.mono (n + 30) _ (sure_f n)

theorem names_low (a b : Fin 21) : colloquylaw07_OpNames.f 40 (a.val : Int) (b.val : Int) = some true := by
  revert a b
  decide +kernel
theorem names_l0_false (k : Nat) : ∀ (a b c : Int) (f : ByteArray) (p : Bool) (n i : Int), colloquylaw07_OpNames.l0 k a b f p false n i = colloquylaw07_OpNames.l0 k a c f p false n i := by
  induction k with
  | zero => intro a b c f p n i; rfl
  | succ k ih =>
    intro a b c f p n i
    simp only [colloquylaw07_OpNames.l0, Bool.false_eq_true, if_false, ih a b c]
theorem names_half (a : Fin 21) : colloquylaw07_OpNames.f 40 (a.val : Int) 21 = some true := by
  revert a
  decide +kernel
theorem names_high (a b : Int) (h : 21 ≤ a) (h2 : a < 256) (h3 : 0 ≤ b) (h4 : b < 256) : ∃ k, colloquylaw07_OpNames.f k a b = some true := by
  have hb : ∃ s p, op_Form.f b = some (s, p) := by
    by_cases hb : b < 21
    · have : ∀ i : Fin 21, (op_Form.f (i.val : Int)).isSome = true := by decide +kernel
      have h5 := this ⟨b.toNat, by omega⟩
      have h6 : ((b.toNat : Nat) : Int) = b := by omega
      simp only [h6] at h5
      obtain ⟨⟨s, p⟩, hx⟩ := Option.isSome_iff_exists.1 h5
      exact ⟨s, p, hx⟩
    · exact ⟨_, _, form_high b (by omega) h4⟩
  obtain ⟨s, p, hb⟩ := hb
  obtain ⟨k, hk⟩ : ∃ k, k = 0 + 30 := ⟨_, rfl⟩
  have s1 := sure_f 0
  rw [← hk] at s1
  refine ⟨k + 1, ?_⟩
  have hz : (⟨#[]⟩ : ByteArray).size = 0 := rfl
  have hd : (⟨#[]⟩ : ByteArray).toList = [] := by decide +kernel
  simp [colloquylaw07_OpNames.f, form_high a h h2, hb, colloquylaw07_OpNames.l0, name_high a h h2, size_high a h h2, s1, hz, hd]
theorem OpNames : colloquylaw07_OpNames.Pure := by
  intro a b ha hb
  obtain ⟨a0, a1⟩ := wf_u8 ha
  obtain ⟨b0, b1⟩ := wf_u8 hb
  by_cases h : 21 ≤ a
  · exact names_high a b h a1 b0 b1
  · have ea : ((a.toNat : Nat) : Int) = a := by omega
    by_cases h2 : 21 ≤ b
    · refine ⟨40, ?_⟩
      have h3 := names_half ⟨a.toNat, by omega⟩
      simp only [ea] at h3
      rw [← h3]
      simp only [colloquylaw07_OpNames.f, form_high b h2 b1, form_high 21 (by omega) (by omega)]
      congr 1
      try (funext x; exact names_l0_false _ _ _ _ _ _ _ _)
    · refine ⟨40, ?_⟩
      have eb : ((b.toNat : Nat) : Int) = b := by omega
      have h3 := names_low ⟨a.toNat, by omega⟩ ⟨b.toNat, by omega⟩
      simp only [ea, eb] at h3
      exact h3

end Go.Proofs.YthcbojpafamlcaaDoor.Pure
