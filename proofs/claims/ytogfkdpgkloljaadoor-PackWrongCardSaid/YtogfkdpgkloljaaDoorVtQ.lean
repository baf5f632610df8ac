/-
  From a law's answer to its call. Conditions: each lemma's own premises.
-/
import Derived.Test.YtogfkdpgkloljaaDoorVtP
import Derived.Below
set_option linter.unusedVariables false
set_option linter.unusedSimpArgs false
namespace Go.Proofs.YtogfkdpgkloljaaDoorVs
open Go.RowKit (Below)
theorem law_calls {P : Program} {GW : World → Prop} {f : FuncId} {ps : List PSh} {φ : List (List V) → Option (List (List V))} (hs : Sim P GW f ⟨ps, [.one .fz]⟩ φ) {w : World} {xss : List (List V)} {cs : List Value} (hg : GW w)
    (hA : PArgs P (fun b => b < w.heap.size) (fun b => b < w.heap.size) w ps xss cs) (hB : argsB w ps cs = []) (hφ : φ xss = some [[.bool true]]) :
    Calls P f cs.toArray w fun e w' => e = .returned (.bool true) ∧ Below w.heap.size w w' := by
  refine (hs.calls _ _ w xss cs _ (fun b h => h) (fun b h => h) hA (by rw [hB]; exact List.nodup_nil) (by rw [hB]; simp) hg (by rw [hB]; simp) hφ).mono ?_
  rintro e w' ⟨vs, F', rfl, SP⟩
  obtain ⟨raw1, raw2, hr, hl, hres, _⟩ := SP.res
  have : vs = [.bool true] := by
    match raw1, hl, hres with
    | [xs], _, hres =>
      match vs, hres with
      | [v], ⟨h1, _⟩ =>
        have hx : xs = [.bool true] := by
          simp only [List.cons_append, List.nil_append, List.cons.injEq] at hr
          exact hr.1.symm
        subst hx
        have h2 : PCells P F' F' w' [.fz] [.bool true] [v] := h1
        obtain ⟨_, h3⟩ := h2.ok 0 (by simp) (by simp) (by simp)
        have h4 : Rd P F' w' (.bool true) v := h3
        cases h4
        rfl
      | [], h => exact h.elim
      | _ :: _ :: _, h => exact h.2.elim
  subst this
  refine ⟨rfl, ?_⟩
  have hw := SP.hw
  exact ⟨hw.os, hw.tape, hw.output, hw.size, fun k hk => hw.block k hk (by rw [hB]; simp)⟩
/-- a function that answers one plain value, by its contract -/
theorem sim_plain {P : Program} {GW : World → Prop} {f : FuncId} {ps : List PSh} {φ : List (List V) → Option (List (List V))} (en : ∃ fn, P.funcs[f]? = some fn ∧ (fn.name == "runtime.NumGoroutine") = false ∧ fn.body.isNone = false)
    (h : ∀ (F S : Nat → Prop) (w : World) (xss : List (List V)) (cs : List Value) (raw : List (List V)), PArgs P F S w ps xss cs → GW w → φ xss = some raw → argsB w ps cs = [] ∧ backsOf ps cs = [] ∧ ∃ x v, raw = [[x]] ∧ x ≠ .undef ∧ blkG [.fz] [v] = [] ∧ (∀ F w, Rd P F w x v) ∧
      Calls P f cs.toArray w fun e w' => e = .returned v ∧ Below w.heap.size w w') : Sim P GW f ⟨ps, [.one .fz]⟩ φ := by
  refine ⟨en, fun F S w xss cs raw hFS hS hA hnd hB hg h0 hr => ?_⟩
  obtain ⟨hB0, hbk, x, v, rfl, hx, hbl, hrd, hc⟩ := h F S w xss cs raw hA hg hr
  refine hc.mono ?_
  rintro e w' ⟨rfl, bel⟩
  refine ⟨[v], F, rfl, ?_⟩
  exact {
    hw := ⟨bel.os, bel.tape, bel.output, bel.size, fun b hb _ => bel.block b hb⟩
    hF := fun b hb => hb
    hF' := fun b hb => .inl hb
    res := ⟨[[x]], [], rfl, rfl, ⟨PCells.cons hx (hrd _ _) PCells.nil, trivial⟩, by rw [hbk]; trivial⟩
    nd := by simp only [ressB, resB, hbl, hbk, backsB]; simp
    bl := fun b hb => by simp only [ressB, resB, hbl, hbk, backsB] at hb; simp at hb }
/-- the number of an error -/
def numφ (E : TypeId) : List (List V) → Option (List (List V))
  | [[.nilI]] => some [[.int .i64 0]]
  | [[.iface t (.int .i64 k)]] => if t = E then some [[.int .i64 k]] else none
  | _ => none
theorem sim_num {P : Program} {GW : World → Prop} {f : FuncId} {E : TypeId} (en : ∃ fn, P.funcs[f]? = some fn ∧ (fn.name == "runtime.NumGoroutine") = false ∧ fn.body.isNone = false)
    (h0 : ∀ w, Calls P f #[.nilIface] w fun e w' => e = .returned (.int .i64 0) ∧ Below w.heap.size w w') (h1 : ∀ (k : Int) (w : World), GW w → Calls P f #[.iface E (.int .i64 k)] w fun e w' => e = .returned (.int .i64 k) ∧ Below w.heap.size w w') : Sim P GW f ⟨[.one .fz], [.one .fz]⟩ (numφ E) := by
  refine sim_plain en fun F S w xss cs raw hA hg hr => ?_
  have one : ∀ x, xss = [[x]] → ∃ c, cs = [c] ∧ Rd P F w x c := by
    rintro x rfl
    match cs, hA with
    | [c], ⟨hA1, _⟩ =>
      have h2 : PCells P F S w [.fz] [x] [c] := hA1
      obtain ⟨_, h3⟩ := h2.ok 0 (by simp) (by simp) (by simp)
      exact ⟨c, rfl, h3⟩
  unfold numφ at hr
  split at hr
  · cases hr
    obtain ⟨c, rfl, hc⟩ := one _ rfl
    cases hc
    exact ⟨rfl, rfl, .int .i64 0, .int .i64 0, rfl, by simp, rfl, fun _ _ => .int _ _, h0 w⟩
  · rename_i t k
    split at hr
    · rename_i ht
      subst ht
      cases hr
      obtain ⟨c, rfl, hc⟩ := one _ rfl
      cases hc with
      | iface _ _ c2 hc2 =>
        cases hc2
        exact ⟨rfl, rfl, .int .i64 k, .int .i64 k, rfl, by simp, rfl, fun _ _ => .int _ _, h1 k w hg⟩
    · cases hr
  · cases hr
end Go.Proofs.YtogfkdpgkloljaaDoorVs
