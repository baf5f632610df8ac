/-
  A program of values: what its functions answer, whoever calls whom. Conditions: each lemma's own premises.
-/
import Derived.Test.YtogfkdpgkloljaaDoorVtI
set_option linter.unusedVariables false
set_option linter.unusedSimpArgs false
namespace Go.Proofs.YtogfkdpgkloljaaDoorVs
/-! ### more answers -/
def FLe (Φ Ψ : Funs) : Prop := ∀ f k xss raw, Φ f k xss = some raw → Ψ f k xss = some raw
theorem FLe.refl (Φ : Funs) : FLe Φ Φ := fun _ _ _ _ h => h
theorem FLe.trans {Φ Ψ Χ : Funs} (h : FLe Φ Ψ) (h' : FLe Ψ Χ) : FLe Φ Χ := fun f k xss raw e => h' f k xss raw (h f k xss raw e)
def isCall : VF → Bool
  | .call .. => true
  | _ => false
theorem sem_cases {Φ : Funs} {f : VF} {args r : List (List V)} (h : f.sem Φ args = some r) : (∀ Ψ : Funs, f.sem Ψ args = some r) ∨ ∃ k w ins outs, f = .call k w ins outs := by
  unfold VF.sem at h
  split at h <;> first
    | exact .inr ⟨_, _, _, _, rfl⟩
    | cases h; done
    | exact .inl fun Ψ => h
theorem sem_mono {Φ Ψ : Funs} (hl : FLe Φ Ψ) {f : VF} {args r : List (List V)} (h : f.sem Φ args = some r) : f.sem Ψ args = some r := by
  rcases sem_cases h with h1 | ⟨k, w, ins, outs, rfl⟩
  · exact h1 Ψ
  · simp only [VF.sem, Option.bind_eq_some_iff] at h ⊢
    obtain ⟨xss, h1, raw, h2, h3⟩ := h
    exact ⟨xss, h1, raw, hl _ _ _ _ h2, h3⟩
theorem vi_mono {Φ Ψ : Funs} (hl : FLe Φ Ψ) {i : VI} {ν ν' : Env} (h : i.run Φ ν = some ν') : i.run Ψ ν = some ν' := by
  unfold VI.run at h ⊢
  split at h
  · rename_i hc
    rw [if_pos hc]
    simp only [Option.bind_eq_some_iff] at h ⊢
    obtain ⟨r, h1, h2⟩ := h
    exact ⟨r, sem_mono hl h1, h2⟩
  · cases h
theorem runIs_mono {Φ Ψ : Funs} (hl : FLe Φ Ψ) : ∀ {is : List VI} {ν ν' : Env}, runIs Φ is ν = some ν' → runIs Ψ is ν = some ν'
  | [], _, _, h => h
  | i :: r, ν, ν', h => by
    simp only [runIs, Option.bind_eq_some_iff] at h ⊢
    obtain ⟨ν1, h1, h2⟩ := h
    exact ⟨ν1, vi_mono hl h1, runIs_mono hl h2⟩
theorem vg_mono {Φ Ψ : Funs} (hl : FLe Φ Ψ) {g : VG} {ν ν' : Env} (h : g.run Φ ν = some ν') : g.run Ψ ν = some ν' := by
  unfold VG.run at h ⊢
  split at h
  · exact runIs_mono hl h
  · split at h
    · split at h
      · rename_i hb
        simp only [if_pos hb, Option.bind_eq_some_iff] at h ⊢
        obtain ⟨ν1, h1, h2⟩ := h
        exact ⟨ν1, runIs_mono hl h1, h2⟩
      · rename_i hb
        rw [if_neg hb]; exact h
    · exact h
    · cases h
theorem runGs_mono {Φ Ψ : Funs} (hl : FLe Φ Ψ) : ∀ {gs : List VG} {ν ν' : Env}, runGs Φ gs ν = some ν' → runGs Ψ gs ν = some ν'
  | [], _, _, h => h
  | g :: r, ν, ν', h => by
    simp only [runGs, Option.bind_eq_some_iff] at h ⊢
    obtain ⟨ν1, h1, h2⟩ := h
    exact ⟨ν1, vg_mono hl h1, runGs_mono hl h2⟩
theorem loopN_mono {f g : Env → Option Out} (hl : ∀ ν out, f ν = some out → g ν = some out) : ∀ {n m : Nat} {ν : Env} {out : Out}, n ≤ m → loopN f n ν = some out → loopN g m ν = some out
  | 0, m, ν, out, _, h => by cases h
  | n + 1, 0, ν, out, hm, h => by omega
  | n + 1, m + 1, ν, out, hm, h => by
    simp only [loopN, Option.bind_eq_some_iff] at h ⊢
    obtain ⟨o1, h1, h2⟩ := h
    refine ⟨o1, hl _ _ h1, ?_⟩
    cases o1 with
    | norm ν' => exact loopN_mono hl (by omega) h2
    | exit id ν' => exact h2
    | ret raw => exact h2
theorem run_mono {Φ Ψ : Funs} (hl : FLe Φ Ψ) {n m : Nat} (hn : n ≤ m) : ∀ (c : VC) {ν : Env} {out : Out}, c.run Φ n ν = some out → c.run Ψ m ν = some out
  | .ins gs, ν, out, h => by
    simp only [VC.run, Option.map_eq_some_iff] at h ⊢
    obtain ⟨ν1, h1, h2⟩ := h
    exact ⟨ν1, runGs_mono hl h1, h2⟩
  | .seq a b, ν, out, h => by
    simp only [VC.run, Option.bind_eq_some_iff] at h ⊢
    obtain ⟨o1, h1, h2⟩ := h
    refine ⟨o1, run_mono hl hn a h1, ?_⟩
    cases o1 with
    | norm ν' => exact run_mono hl hn b h2
    | exit id ν' => exact h2
    | ret raw => exact h2
  | .cond c J x y, ν, out, h => by
    simp only [VC.run] at h ⊢
    split at h
    · split at h
      · rename_i hb; rw [if_pos hb]; exact run_mono hl hn x h
      · rename_i hb; rw [if_neg hb]; exact run_mono hl hn y h
    · cases h
  | .block id J b, ν, out, h => by
    simp only [VC.run, Option.map_eq_some_iff] at h ⊢
    obtain ⟨o1, h1, h2⟩ := h
    exact ⟨o1, run_mono hl hn b h1, h2⟩
  | .loop b, ν, out, h => by
    simp only [VC.run] at h ⊢
    exact loopN_mono (fun ν out h => run_mono hl hn b h) hn h
  | .exit id, ν, out, h => h
  | .ret i, ν, out, h => by
    simp only [VC.run] at h ⊢
    split at h
    · rename_i hb
      rw [if_pos hb]
      simp only [Option.map_eq_some_iff] at h ⊢
      obtain ⟨r, h1, h2⟩ := h
      exact ⟨r, sem_mono hl h1, h2⟩
    · cases h
  | .ren t u, ν, out, h => h
  | .stuck, ν, out, h => by cases h

/-! ### a program -/
structure Tab where
  vc : Nat → Nat → Option (VC × List PSh)
  gv : Nat → Nat → Option (List (List V) → Option (List (List V)))
def ev1 (T : Tab) (Φ : Funs) (n : Nat) : Funs := fun f k xss => match T.gv f k with
  | some φ => φ xss
  | none => match T.vc f k with
    | some (c, ps) => match c.run Φ n (env0 ps xss) with
      | some (.ret raw) => some raw
      | _ => none
    | none => none
def evalF (T : Tab) : Nat → Funs
  | 0 => fun _ _ _ => none
  | n + 1 => ev1 T (evalF T n) n
theorem ev1_mono {T : Tab} {Φ Ψ : Funs} (hl : FLe Φ Ψ) {n m : Nat} (hn : n ≤ m) : FLe (ev1 T Φ n) (ev1 T Ψ m) := by
  intro f k xss raw h
  unfold ev1 at h ⊢
  split at h
  · exact h
  · split at h
    · split at h
      · rename_i r hr
        cases h
        simp only [run_mono hl hn _ hr]
      · cases h
    · cases h
theorem evalF_succ {T : Tab} : ∀ (n : Nat), FLe (evalF T n) (evalF T (n + 1))
  | 0 => fun f k xss raw h => by cases h
  | n + 1 => ev1_mono (evalF_succ n) (by omega)
theorem evalF_mono {T : Tab} {n m : Nat} (h : n ≤ m) : FLe (evalF T n) (evalF T m) := by
  induction m with
  | zero =>
    have : n = 0 := by omega
    subst this; exact FLe.refl _
  | succ m ih =>
    by_cases e : n = m + 1
    · subst e; exact FLe.refl _
    · exact (ih (by omega)).trans (evalF_succ m)
open Classical in
/-- what the program's functions answer -/
noncomputable def Fix (T : Tab) : Funs := fun f k xss => if h : ∃ raw n, evalF T n f k xss = some raw then some h.choose else none
theorem fix_iff {T : Tab} {f k : Nat} {xss raw : List (List V)} : Fix T f k xss = some raw ↔ ∃ n, evalF T n f k xss = some raw := by
  unfold Fix
  constructor
  · intro h
    split at h
    · rename_i hh
      cases h
      exact hh.choose_spec
    · cases h
  · rintro ⟨n, h⟩
    have hh : ∃ raw n, evalF T n f k xss = some raw := ⟨raw, n, h⟩
    rw [dif_pos hh]
    obtain ⟨m, h2⟩ := hh.choose_spec
    have h3 := evalF_mono (Nat.le_max_left n m) _ _ _ _ h
    have h4 := evalF_mono (Nat.le_max_right n m) _ _ _ _ h2
    rw [h3] at h4
    exact h4.symm
theorem fle_fix {T : Tab} (n : Nat) : FLe (evalF T n) (Fix T) := fun f k xss raw h => fix_iff.2 ⟨n, h⟩
/-- an answer needs finitely many calls -/
def Cpt {β γ : Type} (f : Funs → γ → Option β) (T : Tab) : Prop := ∀ x r, f (Fix T) x = some r → ∃ n, f (evalF T n) x = some r
section
variable {T : Tab}
theorem sem_cpt (f : VF) : Cpt (fun Φ args => f.sem Φ args) T := by
  intro args r h
  rcases sem_cases h with h1 | ⟨k, w, ins, outs, rfl⟩
  · exact ⟨0, h1 _⟩
  · simp only [VF.sem, Option.bind_eq_some_iff] at h ⊢
    obtain ⟨xss, h1, raw, h2, h3⟩ := h
    obtain ⟨n, h4⟩ := fix_iff.1 h2
    exact ⟨n, xss, h1, raw, h4, h3⟩
theorem vi_cpt (i : VI) : Cpt (fun Φ ν => i.run Φ ν) T := by
  intro ν r h
  simp only [VI.run] at h ⊢
  split at h
  · rename_i hc
    simp only [if_pos hc, Option.bind_eq_some_iff] at h ⊢
    obtain ⟨q, h1, h2⟩ := h
    obtain ⟨n, h3⟩ := sem_cpt i.f _ _ h1
    exact ⟨n, q, h3, h2⟩
  · cases h
theorem runIs_cpt : ∀ (is : List VI), Cpt (fun Φ ν => runIs Φ is ν) T
  | [], ν, r, h => ⟨0, h⟩
  | i :: is, ν, r, h => by
    simp only [runIs, Option.bind_eq_some_iff] at h ⊢
    obtain ⟨ν1, h1, h2⟩ := h
    obtain ⟨n, h3⟩ := vi_cpt i _ _ h1
    obtain ⟨m, h4⟩ := runIs_cpt is _ _ h2
    exact ⟨max n m, ν1, vi_mono (evalF_mono (Nat.le_max_left n m)) h3, runIs_mono (evalF_mono (Nat.le_max_right n m)) h4⟩
theorem vg_cpt (g : VG) : Cpt (fun Φ ν => g.run Φ ν) T := by
  intro ν r h
  simp only [VG.run] at h ⊢
  split at h
  · exact runIs_cpt _ _ _ h
  · split at h
    · split at h
      · rename_i hb
        simp only [if_pos hb, Option.bind_eq_some_iff] at h ⊢
        obtain ⟨ν1, h1, h2⟩ := h
        obtain ⟨n, h3⟩ := runIs_cpt _ _ _ h1
        exact ⟨n, ν1, h3, h2⟩
      · rename_i hb
        exact ⟨0, by rw [if_neg hb]; exact h⟩
    · exact ⟨0, h⟩
    · cases h
theorem runGs_cpt : ∀ (gs : List VG), Cpt (fun Φ ν => runGs Φ gs ν) T
  | [], ν, r, h => ⟨0, h⟩
  | i :: is, ν, r, h => by
    simp only [runGs, Option.bind_eq_some_iff] at h ⊢
    obtain ⟨ν1, h1, h2⟩ := h
    obtain ⟨n, h3⟩ := vg_cpt i _ _ h1
    obtain ⟨m, h4⟩ := runGs_cpt is _ _ h2
    exact ⟨max n m, ν1, vg_mono (evalF_mono (Nat.le_max_left n m)) h3, runGs_mono (evalF_mono (Nat.le_max_right n m)) h4⟩
theorem loopN_cpt {f : Funs → Env → Option Out} (hf : Cpt f T) (hm : ∀ {Φ Ψ : Funs}, FLe Φ Ψ → ∀ ν out, f Φ ν = some out → f Ψ ν = some out) : ∀ (k : Nat), Cpt (fun Φ ν => loopN (f Φ) k ν) T
  | 0, ν, r, h => by cases h
  | k + 1, ν, r, h => by
    simp only [loopN, Option.bind_eq_some_iff] at h ⊢
    obtain ⟨o1, h1, h2⟩ := h
    obtain ⟨n, h3⟩ := hf _ _ h1
    cases o1 with
    | norm ν' =>
      obtain ⟨m, h4⟩ := loopN_cpt hf hm k _ _ h2
      exact ⟨max n m, _, hm (evalF_mono (Nat.le_max_left n m)) _ _ h3, loopN_mono (hm (evalF_mono (Nat.le_max_right n m))) (Nat.le_refl _) h4⟩
    | exit id ν' => exact ⟨n, _, h3, h2⟩
    | ret raw => exact ⟨n, _, h3, h2⟩
theorem run_cpt (n0 : Nat) : ∀ (c : VC), Cpt (fun Φ ν => c.run Φ n0 ν) T
  | .ins gs, ν, out, h => by
    simp only [VC.run, Option.map_eq_some_iff] at h ⊢
    obtain ⟨ν1, h1, h2⟩ := h
    obtain ⟨n, h3⟩ := runGs_cpt gs _ _ h1
    exact ⟨n, ν1, h3, h2⟩
  | .seq a b, ν, out, h => by
    simp only [VC.run, Option.bind_eq_some_iff] at h ⊢
    obtain ⟨o1, h1, h2⟩ := h
    obtain ⟨n, h3⟩ := run_cpt n0 a _ _ h1
    cases o1 with
    | norm ν' =>
      obtain ⟨m, h4⟩ := run_cpt n0 b _ _ h2
      exact ⟨max n m, _, run_mono (evalF_mono (Nat.le_max_left n m)) (Nat.le_refl _) a h3, run_mono (evalF_mono (Nat.le_max_right n m)) (Nat.le_refl _) b h4⟩
    | exit id ν' => exact ⟨n, _, h3, h2⟩
    | ret raw => exact ⟨n, _, h3, h2⟩
  | .cond c J x y, ν, out, h => by
    simp only [VC.run] at h ⊢
    split at h
    · split at h
      · rename_i hb; simp only [if_pos hb]; exact run_cpt n0 x _ _ h
      · rename_i hb; simp only [if_neg hb]; exact run_cpt n0 y _ _ h
    · cases h
  | .block id J b, ν, out, h => by
    simp only [VC.run, Option.map_eq_some_iff] at h ⊢
    obtain ⟨o1, h1, h2⟩ := h
    obtain ⟨n, h3⟩ := run_cpt n0 b _ _ h1
    exact ⟨n, o1, h3, h2⟩
  | .loop b, ν, out, h => loopN_cpt (f := fun Φ ν => b.run Φ n0 ν) (run_cpt n0 b) (fun hl ν out h => run_mono hl (Nat.le_refl _) b h) n0 ν out h
  | .exit id, ν, out, h => ⟨0, h⟩
  | .ret i, ν, out, h => by
    simp only [VC.run] at h ⊢
    split at h
    · rename_i hb
      simp only [if_pos hb, Option.map_eq_some_iff] at h ⊢
      obtain ⟨r, h1, h2⟩ := h
      obtain ⟨n, h3⟩ := sem_cpt i.f _ _ h1
      exact ⟨n, r, h3, h2⟩
    · cases h
  | .ren t u, ν, out, h => ⟨0, h⟩
  | .stuck, ν, out, h => by cases h
/-- a function's answer out of its text -/
theorem fix_intro {f k n : Nat} {c : VC} {ps : List PSh} {xss raw : List (List V)} (hg : T.gv f k = none) (hc : T.vc f k = some (c, ps)) (h : c.run (Fix T) n (env0 ps xss) = some (.ret raw)) : Fix T f k xss = some raw := by
  obtain ⟨m, h1⟩ := run_cpt n c _ _ h
  refine fix_iff.2 ⟨max n m + 1, ?_⟩
  have h2 := run_mono (evalF_mono (T := T) (Nat.le_max_right n m)) (Nat.le_max_left n m) c h1
  simp only [evalF, ev1, hg, hc, h2]
theorem fix_given {f k : Nat} {φ : List (List V) → Option (List (List V))} {xss raw : List (List V)} (hg : T.gv f k = some φ) (h : φ xss = some raw) : Fix T f k xss = some raw :=
  fix_iff.2 ⟨1, by simp only [evalF, ev1, hg, h]⟩

/-! ### the program's contracts -/
inductive Entry (P : Program) (GW : World → Prop) (sg : Sigs) (T : Tab) (f k : Nat) (g : Sig) : Prop
  | given (φ : List (List V) → Option (List (List V))) (h : T.gv f k = some φ) (hs : Sim P GW f g φ)
  | told (fn : Func) (hs : Nat → Nat → Nat) (c : VC) (hg : T.gv f k = none) (hf : P.funcs[f]? = some fn) (hn : (fn.name == "runtime.NumGoroutine") = false) (hc : compF P sg hs fn g = some c) (ht : T.vc f k = some (c, g.ps))
theorem sims_fix {P : Program} {GW : World → Prop} {sg : Sigs} (hG : GWDep GW) (hm : P.follows .mixedOrders = true) (H : ∀ f k g, (k, g) ∈ sg f → Entry P GW sg T f k g) : ∀ f k g, (k, g) ∈ sg f → Sim P GW f g (Fix T f k) := by
  have key : ∀ n f k g, (k, g) ∈ sg f → Sim P GW f g (evalF T n f k) := by
    intro n
    induction n with
    | zero =>
      intro f k g h
      refine ⟨?_, fun F S w xss cs raw _ _ _ _ _ _ _ hr => by cases hr⟩
      cases H f k g h with
      | given φ _ hs => exact hs.en
      | told fn hs c hg hf hn hc ht =>
        refine ⟨fn, hf, hn, ?_⟩
        unfold compF at hc
        split at hc
        · split at hc
          · rename_i b hb; rw [hb]; rfl
          · cases hc
        · cases hc
    | succ n ih =>
      intro f k g h
      cases H f k g h with
      | given φ h1 hs =>
        refine ⟨hs.en, fun F S w xss cs raw a1 a2 a3 a4 a5 a6 a7 hr => hs.calls F S w xss cs raw a1 a2 a3 a4 a5 a6 a7 ?_⟩
        simp only [evalF, ev1, h1] at hr
        exact hr
      | told fn hs c hg hf hn hc ht =>
        refine sim_of_body hG hm hf hn hc ih (fun xss raw hr => ⟨n, ?_⟩)
        simp only [evalF, ev1, hg, ht] at hr
        split at hr
        · rename_i r hr1
          cases hr
          exact hr1
        · cases hr
  intro f k g h
  refine ⟨(key 0 f k g h).en, fun F S w xss cs raw a1 a2 a3 a4 a5 a6 a7 hr => ?_⟩
  obtain ⟨n, hn⟩ := fix_iff.1 hr
  exact (key n f k g h).calls F S w xss cs raw a1 a2 a3 a4 a5 a6 a7 hn
end
end Go.Proofs.YtogfkdpgkloljaaDoorVs
