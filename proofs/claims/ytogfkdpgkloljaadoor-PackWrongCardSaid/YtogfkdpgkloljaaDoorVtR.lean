/-
  Closed answers are reckoned out by the texts; slices.Clone. Conditions: each lemma's own premises.
-/
import Derived.Test.YtogfkdpgkloljaaDoorVtQ
set_option linter.unusedVariables false
set_option linter.unusedSimpArgs false
namespace Go.Proofs.YtogfkdpgkloljaaDoorVs
def TLe (f g : TR) : Prop := ∀ o, f = some o → g = some o
theorem app_mono : ∀ {m : Nat} {F G : List V → TR}, (∀ zs, TLe (F zs) (G zs)) → ∀ zs, TLe (app m (cur m F) zs) (app m (cur m G) zs) := fun {m F G} h zs o ho => by
  obtain ⟨h1, h2⟩ := app_cur ho
  have h3 := h zs o h2
  clear h2 ho h
  induction m generalizing F G zs with
  | zero =>
    cases zs with
    | nil => exact h3
    | cons => simp at h1
  | succ m ih =>
    cases zs with
    | nil => simp at h1
    | cons z zs =>
      show app m (cur m fun l => G (z :: l)) zs = some o
      exact ih (F := fun l => F (z :: l)) zs (by simpa using h1) h3
theorem eval_mono {Φ Ψ : Funs} (hl : FLe Φ Ψ) {n : Nat} : ∀ (t : Tm) (vs : List V), TLe (t.eval Φ n vs) (t.eval Ψ n vs)
  | .op1 f args k, vs, o, h => by
    simp only [Tm.eval, op1V, Option.bind_eq_some_iff] at h ⊢
    obtain ⟨r, h1, h2⟩ := h
    refine ⟨r, sem_mono hl h1, ?_⟩
    unfold k1 at h2 ⊢
    split at h2
    · exact eval_mono hl k _ o h2
    · cases h2
  | .opn f args m k, vs, o, h => by
    simp only [Tm.eval, opnV, Option.bind_eq_some_iff] at h ⊢
    obtain ⟨r, h1, h2⟩ := h
    refine ⟨r, sem_mono hl h1, ?_⟩
    unfold kn at h2 ⊢
    split at h2
    · exact app_mono (fun zs => eval_mono hl k _) _ o h2
    · cases h2
  | .call f w ins ps k, vs, o, h => by
    simp only [Tm.eval, callV, Option.bind_eq_some_iff] at h ⊢
    obtain ⟨raw, h1, zs, h2, h3⟩ := h
    exact ⟨raw, hl _ _ _ _ h1, zs, h2, app_mono (fun zs => eval_mono hl k _) _ o h3⟩
  | .chk kd a k, vs, o, h => by
    simp only [Tm.eval] at h ⊢
    unfold chkV at h ⊢
    split at h <;> first | exact eval_mono hl k _ o h | cases h
  | .ite c a b, vs, o, h => by
    simp only [Tm.eval] at h ⊢
    unfold iteV at h ⊢
    split at h <;> first | exact eval_mono hl a _ o h | exact eval_mono hl b _ o h | cases h
  | .gd c want ud a b, vs, o, h => by
    simp only [Tm.eval] at h ⊢
    unfold gdV at h ⊢
    split at h
    · split at h
      · rename_i hb; rw [if_pos hb]; exact eval_mono hl a _ o h
      · rename_i hb; rw [if_neg hb]; exact eval_mono hl b _ o h
    · split at h
      · rename_i hb; rw [if_pos hb]; exact eval_mono hl b _ o h
      · cases h
    · cases h
  | .norm lens as, vs, o, h => h
  | .exit id lens as, vs, o, h => h
  | .ret rs, vs, o, h => h
  | .blk id b lens k, vs, o, h => by
    simp only [Tm.eval] at h ⊢
    obtain ⟨o1, h1, h2⟩ := blk_inv h
    have h3 := eval_mono hl b vs o1 h1
    simp only [blkV, h3, Option.bind_some]
    rcases h2 with ⟨l, zs, rfl, rfl, h2⟩ | ⟨j, l, zs, rfl, ⟨hj, rfl, h2⟩ | ⟨hj, rfl⟩⟩ | ⟨rs, rfl, rfl⟩
    · simp only [if_true]; exact app_mono (fun zs => eval_mono hl k _) _ o h2
    · simp only [hj, if_true]; exact app_mono (fun zs => eval_mono hl k _) _ o h2
    · simp only [if_neg hj]
    · rfl
  | .lp lens init b, vs, o, h => by
    simp only [Tm.eval] at h ⊢
    have key : ∀ (k : Nat) (zs : List V), TLe (lpV lens (app (total lens) (cur (total lens) fun zs => b.eval Φ n (zs.reverse ++ vs))) k zs) (lpV lens (app (total lens) (cur (total lens) fun zs => b.eval Ψ n (zs.reverse ++ vs))) k zs) := by
      intro k
      induction k with
      | zero => intro zs o h; cases h
      | succ k ih =>
        intro zs o h
        simp only [lpV, Option.bind_eq_some_iff] at h ⊢
        obtain ⟨o1, h1, h2⟩ := h
        refine ⟨o1, app_mono (fun zs => eval_mono hl b _) _ o1 h1, ?_⟩
        cases o1 with
        | norm l vs' =>
          simp only at h2 ⊢
          split at h2
          · rename_i hl2; rw [if_pos hl2]; exact ih _ o h2
          · cases h2
        | exit j l vs' => exact h2
        | ret rs => exact h2
    exact key n _ o h
  | .fail, vs, o, h => by cases h
abbrev FT := List (Nat × Nat × (Funs → Nat → List (List V) → TR))
def lkF : FT → Nat → Nat → Option (Funs → Nat → List (List V) → TR)
  | [], _, _ => none
  | e :: r, f, k => if e.1 = f ∧ e.2.1 = k then some e.2.2 else lkF r f k
theorem lkF_mem : ∀ {l : FT} {f k : Nat} {F : Funs → Nat → List (List V) → TR}, lkF l f k = some F → (f, k, F) ∈ l
  | e :: r, f, k, F, h => by
    simp only [lkF] at h
    split at h
    · rename_i he
      cases h
      obtain ⟨rfl, rfl⟩ := he
      exact List.mem_cons_self
    · exact List.mem_cons_of_mem _ (lkF_mem h)
/-- what the texts answer -/
def evT (gv : Nat → Nat → Option (List (List V) → Option (List (List V)))) (ft : FT) : Nat → Funs
  | 0 => fun _ _ _ => none
  | n + 1 => fun f k xss => match gv f k with
    | some φ => φ xss
    | none => match lkF ft f k with
      | some F => match F (evT gv ft n) n xss with
        | some (.ret raw) => some raw
        | _ => none
      | none => none
theorem evT_ok {T : Tab} {ft : FT} (h : ∀ f k F, lkF ft f k = some F → ∀ (Φ : Funs) n xss raw, FLe Φ (Fix T) → F Φ n xss = some (.ret raw) → T.gv f k = none → Fix T f k xss = some raw) : ∀ n, FLe (evT T.gv ft n) (Fix T)
  | 0 => fun f k xss raw h => by cases h
  | n + 1 => fun f k xss raw hr => by
    simp only [evT] at hr
    split at hr
    · rename_i φ hg; exact fix_given hg hr
    · rename_i hg
      split at hr
      · rename_i F hF
        split at hr
        · rename_i r hr2
          cases hr
          exact h f k F hF _ n xss raw (evT_ok h n) hr2 hg
        · cases hr
      · cases hr
/-- a text that comes to an answer does so with more answers at hand -/
theorem text_mono {P : Program} {sg : Sigs} {cut : List Nat} {fn : Func} {g : Sig} {Φ Ψ : Funs} {n : Nat} {vs : List V} {F G : TR} (hl : FLe Φ Ψ) (h1 : (textE P sg cut fn g).map (fun t => t.eval Φ n vs) = some F) (h2 : (textE P sg cut fn g).map (fun t => t.eval Ψ n vs) = some G) : TLe F G := by
  obtain ⟨t, ht, rfl⟩ := Option.map_eq_some_iff.1 h1
  rw [ht] at h2
  cases h2
  exact eval_mono hl t vs

/-! ### slices.Clone -/
def cl1 (fn : Func) : Code := match fn.body with
  | some (.seq _ (.seq (.seq _ (.cond _ c1 _)) _)) => c1
  | _ => .skip
def cl2 (fn : Func) : Code := match fn.body with
  | some (.seq _ (.seq (.seq _ (.cond _ _ _)) c2)) => c2
  | _ => .skip
def cloneφ (E : TypeId) (bs : Nat) (sc : Bool) : List (List V) → Option (List (List V))
  | [[.list e xs]] => if ((e = E) ∧ (sc = true → xs.all scalarE = true)) ∧ xs.length * bs ≤ 140737488355328 then some [[.list E xs]] else none
  | _ => none
theorem sim_clone {P : Program} {GW : World → Prop} (hG : GWDep GW) (hm : P.follows .mixedOrders = true) {f : FuncId} {fn : Func} {m : PM} {id0 id1 : Nat} {T E t0 t1 t2 T' : TypeId} {p0 p1 p2 : String} {e0 e1 e2 : Array Edge} {bs : Nat} {sc : Bool}
    (hf : P.funcs[f]? = some fn) (hname : (fn.name == "runtime.NumGoroutine") = false) (hb : fn.body = some (nilBody id0 id1 T t0 t1 t2 T' p0 p1 p2 e0 e1 e2 (cl1 fn) (cl2 fn))) (hu : P.underlying T = some (.slice E)) (hN : 4 < fn.ntmps) (hmo : m ≠ .own)
    (hA2 : ((comp (cxOf P (sgL []) (hsOf []) { fn with body := some (cl1 fn) } ⟨[.one m], [.one .own]⟩) (cl1 fn) (inAl fn.ntmps [.one m])).map fun r => r.nm.isNone) = some true)
    (hA : ∀ (Φ : Funs) (n : Nat) (v0 : V), (textE P (sgL []) [] { fn with body := some (cl1 fn) } ⟨[.one m], [.one .own]⟩).map (fun t => t.eval Φ n [v0]) = some (some (.ret [[.list E []]])))
    (hB : ∀ (Φ : Funs) (n : Nat) (v0 : V), (textE P (sgL []) [] { fn with body := some (cl2 fn) } ⟨[.one m], [.one .own]⟩).map (fun t => t.eval Φ n [v0]) = some (op1V Φ (.mk E []) [] fun v1 => chkV 2 v0 <| op1V Φ (.app E bs sc) [[v1], [v0]] fun v2 => some (.ret [[v2]]))) : Sim P GW f ⟨[.one m], [.one .own]⟩ (cloneφ E bs sc) := by
  let Φ : Funs := fun _ _ _ => none
  obtain ⟨tA, htA, _⟩ := Option.map_eq_some_iff.1 (hA Φ 0 .unit)
  obtain ⟨tB, htB, _⟩ := Option.map_eq_some_iff.1 (hB Φ 0 .unit)
  obtain ⟨hcA, hmA⟩ := textE_ok htA
  obtain ⟨hcB, hmB⟩ := textE_ok htB
  refine sim_nil (Φ := Φ) hG hm hf hname hb hu hN hmo hcA hA2 hcB (fun f k g h => by simp [sgL] at h) (fun xss raw hr => ?_)
  unfold cloneφ at hr
  split at hr
  · rename_i e xs
    split at hr
    · rename_i hc
      cases hr
      obtain ⟨⟨rfl, hs⟩, hsz⟩ := hc
      refine ⟨e, xs, rfl, fun hx => ⟨0, ?_⟩, ⟨0, ?_⟩⟩
      · subst hx
        refine tm_ok hmA ⟨rfl, trivial⟩ (compF_64 hcA) ?_
        have := hA Φ 0 (.list e [])
        rw [htA] at this
        exact Option.some.inj this
      · refine tm_ok hmB ⟨rfl, trivial⟩ (compF_64 hcB) ?_
        have := hB Φ 0 (.list e xs)
        rw [htB] at this
        have h2 : tB.eval Φ 0 [.list e xs] = _ := Option.some.inj this
        show tB.eval Φ 0 [.list e xs] = _
        rw [h2]
        simp only [op1V, VF.sem, List.mapM_nil, Option.pure_def, Option.map_some, Option.bind_some, k1, chkV]
        rw [if_pos ⟨⟨⟨trivial, trivial⟩, hs⟩, by simpa using hsz⟩]
        rfl
    · cases hr
  · cases hr
end Go.Proofs.YtogfkdpgkloljaaDoorVs
