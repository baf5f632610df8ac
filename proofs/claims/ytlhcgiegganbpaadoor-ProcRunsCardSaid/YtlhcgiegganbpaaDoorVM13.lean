/-
  Several texts in one: What ProcKeeps' parameters read as. No condition but each lemma's own premises. | ProcRuns' answer, whatever its parameters read as. No condition but each lemma's own premises.
-/
import Derived.Test.YtlhcgiegganbpaaDoorVM12
set_option linter.unusedVariables false
set_option linter.unusedSimpArgs false
namespace Go.Proofs.YtlhcgiegganbpaaDoorVs
theorem op23 : ROp Tryd.prog 23 (fun ys => ∃ p : Pr, ys = p.vs ∧ True) := by
  refine ROp.weaken (rop_struct Tryd.underlying23 rfl (ropF_cons (rop_i64 Tryd.underlying3) (nx := 1) (by kernel_rfl) (ropF_cons (rop_i64 Tryd.underlying3) (nx := 2) (by kernel_rfl) (ropF_last (rop_i64 Tryd.underlying3) (by kernel_rfl))))) ?_
  rintro ys ⟨_, _, rfl, ⟨a, rfl, _⟩, _, _, rfl, ⟨b, rfl, _⟩, ⟨c, rfl, _⟩⟩
  exact ⟨⟨a, b, c⟩, rfl, trivial⟩
theorem op63 : ROp Tryd.prog 63 (fun ys => ∃ l : List Int, ys = [ints l] ∧ l.length < 2 ^ 60) := by
  refine (rop_map1 Tryd.underlying63 (B := 8) (by kernel_rfl) (by kernel_rfl) (by kernel_rfl) (by kernel_rfl) (rop_i64 Tryd.underlying3)).weaken ?_
  rintro ys ⟨l, rfl, ⟨h1, h2⟩, _⟩
  exact ⟨l, rfl, by omega⟩
theorem op25 : ROp Tryd.prog 25 (fun ys => ∃ l : List (List Int), ys = [tks l] ∧ l.length < 2 ^ 60 ∧ ∀ t ∈ l, t.length < 2 ^ 60) := by
  refine (rop_map1 Tryd.underlying25 (B := 24) (by kernel_rfl) (by kernel_rfl) (by kernel_rfl) (by kernel_rfl) op63).weaken ?_
  rintro ys ⟨l, rfl, ⟨h1, h2⟩, h3⟩
  exact ⟨l, rfl, by omega, h3⟩
theorem op24 : ROp Tryd.prog 24 (fun ys => ∃ l : List Pr, ys = [prs 23 l] ∧ l.length < 2 ^ 60) := by
  refine (rop_mapA Tryd.underlying24 (B := 24) (by kernel_rfl) (k := 3) (by kernel_rfl) (by decide) (by kernel_rfl) (by kernel_rfl) op23).weaken ?_
  rintro ys ⟨l, rfl, ⟨h1, h2⟩, _⟩
  exact ⟨l, rfl, by omega⟩
/-- what can be read is not too much -/
structure Sc.Rd (s : Sc) : Prop where
  h1 : s.ready.length < 2 ^ 60
  h2 : s.waits.length < 2 ^ 60
  h3 : s.ticks.length < 2 ^ 60
  h4 : ∀ t ∈ s.ticks, t.length < 2 ^ 60
theorem op27 : ROp Tryd.prog 27 (fun ys => ∃ s : Sc, ys = s.vs 23 ∧ s.Rd) := by
  refine ROp.weaken (rop_struct Tryd.underlying27 rfl (ropF_cons (rop_bool Tryd.underlying4) (nx := 1) (by kernel_rfl) (ropF_cons op23 (nx := 4) (by kernel_rfl) (ropF_cons (rop_i64 Tryd.underlying3) (nx := 5) (by kernel_rfl)
    (ropF_cons op24 (nx := 6) (by kernel_rfl) (ropF_cons op24 (nx := 7) (by kernel_rfl) (ropF_last op25 (by kernel_rfl)))))))) ?_
  rintro ys ⟨_, _, rfl, ⟨a, rfl⟩, _, _, rfl, ⟨p, rfl, _⟩, _, _, rfl, ⟨n, rfl, _⟩, _, _, rfl, ⟨l, rfl, h1⟩, _, _, rfl, ⟨m, rfl, h2⟩, ⟨t, rfl, h3, h4⟩⟩
  exact ⟨⟨a, p, n, l, m, t⟩, rfl, ⟨h1, h2, h3, h4⟩⟩
theorem op52 : ROp Tryd.prog 52 (fun ys => ∃ a : Ac, ys = a.vs ∧ (0 ≤ a.kind ∧ a.kind < 256)) := by
  refine ROp.weaken (rop_struct Tryd.underlying52 rfl (ropF_cons (rop_u8 Tryd.underlying5) (nx := 1) (by kernel_rfl) (ropF_cons (rop_i64 Tryd.underlying3) (nx := 2) (by kernel_rfl) (ropF_cons (rop_i64 Tryd.underlying3) (nx := 3) (by kernel_rfl)
    (ropF_cons (rop_i64 Tryd.underlying3) (nx := 4) (by kernel_rfl) (ropF_last (rop_bool Tryd.underlying4) (by kernel_rfl))))))) ?_
  rintro ys ⟨_, _, rfl, ⟨a, rfl, h⟩, _, _, rfl, ⟨b, rfl, _⟩, _, _, rfl, ⟨c, rfl, _⟩, _, _, rfl, ⟨d, rfl, _⟩, ⟨e, rfl⟩⟩
  exact ⟨⟨a, b, c, d, e⟩, rfl, h⟩
theorem op28 : ROp Tryd.prog 28 (fun ys => ∃ l : List Ac, ys = [acs l] ∧ l.length < 2 ^ 60) := by
  refine (rop_mapA Tryd.underlying28 (B := 40) (by kernel_rfl) (k := 5) (by kernel_rfl) (by decide) (by kernel_rfl) (by kernel_rfl) op52).weaken ?_
  rintro ys ⟨l, rfl, ⟨h1, h2⟩, _⟩
  exact ⟨l, rfl, by omega⟩
theorem ProcKeeps_fin (ys0 ys1 : List V) : (∃ s : Sc, ys0 = s.vs 23 ∧ s.Rd) → (∃ l : List Ac, ys1 = [acs l] ∧ l.length < 2 ^ 60) → Fix T 4 0 [ys0, ys1] = some [[.bool true]] := by
  rintro ⟨s, rfl, h⟩ ⟨l, rfl, hl⟩
  exact ProcKeeps_ok s l h.h1 h.h2 h.h3 h.h4 hl
end Go.Proofs.YtlhcgiegganbpaaDoorVs
set_option linter.unusedVariables false
namespace Go.Proofs.YtlhcgiegganbpaaDoorVs
theorem ProcRuns_fin (ys0 ys1 : List V) : (∃ s : Sc, ys0 = s.vs 23 ∧ s.Rd) → (∃ l : List Ac, ys1 = [acs l] ∧ l.length < 2 ^ 60) → Fix T 3 0 [ys0, ys1] = some [[.bool true]] := by
  rintro ⟨s, rfl, h⟩ ⟨l, rfl, hl⟩
  exact ProcRuns_ok s l h.h1 h.h2 h.h3 h.h4 hl
end Go.Proofs.YtlhcgiegganbpaaDoorVs
