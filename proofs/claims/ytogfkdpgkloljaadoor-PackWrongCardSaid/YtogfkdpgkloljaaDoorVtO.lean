/-
  A seat's functions, told: what the texts of a seat use. Conditions: each lemma's own premises.
-/
import Derived.Test.YtogfkdpgkloljaaDoorVtN
set_option linter.unusedVariables false
set_option linter.unusedSimpArgs false
namespace Go.Proofs.YtogfkdpgkloljaaDoorVs
def sgL (L : List (Nat × Nat × Sig)) : Sigs := fun f => L.filterMap fun e => if e.1 = f then some e.2 else none
theorem sgL_mem {L : List (Nat × Nat × Sig)} {f k : Nat} {g : Sig} (h : (k, g) ∈ sgL L f) : (f, k, g) ∈ L := by
  simp only [sgL, List.mem_filterMap] at h
  obtain ⟨⟨f', e⟩, h1, h2⟩ := h
  simp only at h2
  split at h2
  · rename_i hf; subst hf; cases h2; exact h1
  · cases h2
/-- the cuts that keep a row own: region and operation -/
def hsOf (cut : List Nat) : Nat → Nat → Nat := fun r i => if cut.contains (r * 1000 + i) then 1 else 0
/-- a function's text -/
def textE (P : Program) (sg : Sigs) (cut : List Nat) (fn : Func) (g : Sig) : Option Tm := (compF P sg (hsOf cut) fn g).bind fun c => tmOf c g.ps
def vcOf (P : Program) (sg : Sigs) (cut : List Nat) (fn : Func) (g : Sig) : VC := (compF P sg (hsOf cut) fn g).getD .stuck
theorem textE_ok {P : Program} {sg : Sigs} {cut : List Nat} {fn : Func} {g : Sig} {t : Tm} (h : textE P sg cut fn g = some t) : compF P sg (hsOf cut) fn g = some (vcOf P sg cut fn g) ∧ tmOf (vcOf P sg cut fn g) g.ps = some t := by
  simp only [textE, Option.bind_eq_some_iff] at h
  obtain ⟨c, h1, h2⟩ := h
  unfold vcOf
  rw [h1]
  exact ⟨rfl, h2⟩
theorem compF_64 {P : Program} {sg : Sigs} {hs : Nat → Nat → Nat} {fn : Func} {g : Sig} {c : VC} (h : compF P sg hs fn g = some c) : g.ps.all (fun p => ms64 0 p.ms) = true := by
  unfold compF at h
  split at h
  · rename_i hc
    rw [Bool.and_eq_true] at hc
    exact hc.2
  · cases h
def tabV : List (Nat × Nat × VC × List PSh) → Nat → Nat → Option (VC × List PSh)
  | [], _, _ => none
  | e :: r, f, k => if e.1 = f ∧ e.2.1 = k then some e.2.2 else tabV r f k
def tabG : List (Nat × Nat × (List (List V) → Option (List (List V)))) → Nat → Nat → Option (List (List V) → Option (List (List V)))
  | [], _, _ => none
  | e :: r, f, k => if e.1 = f ∧ e.2.1 = k then some e.2.2 else tabG r f k
theorem told_ok {P : Program} {sg : Sigs} {cut : List Nat} {fn : Func} {g : Sig} {Φ : Funs} {n : Nat} {vs : List V} {F : TR} (hx : (textE P sg cut fn g).map (fun t => t.eval Φ n vs) = some F) : compF P sg (hsOf cut) fn g = some (vcOf P sg cut fn g) := by
  obtain ⟨t, ht, _⟩ := Option.map_eq_some_iff.1 hx
  exact (textE_ok ht).1
/-- a function's answer out of its text -/
theorem fix_text {P : Program} {sg : Sigs} {cut : List Nat} {fn : Func} {g : Sig} {T : Tab} {f k n : Nat} {xss raw : List (List V)} {F : TR} {vs : List V} (hg : T.gv f k = none) (hv : T.vc f k = some (vcOf P sg cut fn g, g.ps)) (hx : (textE P sg cut fn g).map (fun t => t.eval (Fix T) n vs) = some F)
    (hvs : vs = xss.flatten.reverse) (hL : LensOK g.ps xss) (he : F = some (.ret raw)) : Fix T f k xss = some raw := by
  obtain ⟨t, ht, h1⟩ := Option.map_eq_some_iff.1 hx
  obtain ⟨h2, h3⟩ := textE_ok ht
  exact fix_intro hg hv (tm_ok h3 hL (compF_64 h2) (by rw [← hvs, h1, he]))
end Go.Proofs.YtogfkdpgkloljaaDoorVs
