/-
  A function that asks whether its slice is nil, and else begins (slices.Clone). Conditions: each lemma's own premises.
-/
import Derived.Test.YtogfkdpgkloljaaDoorVtO
import Derived.Lib.LazyBuf
set_option linter.unusedVariables false
set_option linter.unusedSimpArgs false
namespace Go.Proofs.YtogfkdpgkloljaaDoorVs
section
variable {P : Program} {w0 : World} {M : Nat → Prop} {N : Fr} {α α' β : Al} {ν ν' : Env} {L : Lay} {a : Act} {w w' : World} {Φ : Funs}
theorem op_value {o : Oper} {v : Value} {K : Act → World → Prop} {Q : Exit → Act → World → Prop} (h : (execOp a.eval o).run P w = .ok (.value v) w) (hK : K (a.put o.dst v) w) : o.wp P a w K Q := by
  unfold Oper.wp
  rw [h]
  exact hK
/-- a body that asks first whether its slice is nil -/
def nilBody (id0 id1 : Nat) (T t0 t1 t2 T' : TypeId) (p0 p1 p2 : String) (e0 e1 e2 : Array Edge) (c1 c2 : Code) : Code :=
  .seq (.region id0 #[⟨some 2, .assign (.const (.slice none 0 0)), t0, p0, e0, none⟩] false)
    (.seq (.seq (.region id1 #[⟨some 3, .move (.tmp 0), t1, p1, e1, none⟩, ⟨some 4, .binOp .eql T (.tmp 3) (.const (.slice none 0 0)) T', t2, p2, e2, none⟩] false) (.cond (.tmp 4) c1 .skip)) c2)
theorem sim_nil {GW : World → Prop} (hG : GWDep GW) (hm : P.follows .mixedOrders = true) {f : FuncId} {fn : Func} {rs : List RSh} {sg : Sigs} {hs : Nat → Nat → Nat} {cA cB : VC} {φ : List (List V) → Option (List (List V))} {m : PM}
    {id0 id1 : Nat} {T E t0 t1 t2 T' : TypeId} {p0 p1 p2 : String} {e0 e1 e2 : Array Edge} {c1 c2 : Code}
    (hf : P.funcs[f]? = some fn) (hname : (fn.name == "runtime.NumGoroutine") = false) (hb : fn.body = some (nilBody id0 id1 T t0 t1 t2 T' p0 p1 p2 e0 e1 e2 c1 c2)) (hu : P.underlying T = some (.slice E)) (hN : 4 < fn.ntmps) (hmo : m ≠ .own)
    (hA : compF P sg hs { fn with body := some c1 } ⟨[.one m], rs⟩ = some cA) (hA2 : ((comp (cxOf P sg hs { fn with body := some c1 } ⟨[.one m], rs⟩) c1 (inAl fn.ntmps [.one m])).map fun r => r.nm.isNone) = some true)
    (hB : compF P sg hs { fn with body := some c2 } ⟨[.one m], rs⟩ = some cB) (hsim : ∀ f k g, (k, g) ∈ sg f → Sim P GW f g (Φ f k))
    (hφ : ∀ xss raw, φ xss = some raw → ∃ e xs, xss = [[.list e xs]] ∧ (xs = [] → ∃ n, cA.run Φ n (env0 [.one m] xss) = some (.ret raw)) ∧ ∃ n, cB.run Φ n (env0 [.one m] xss) = some (.ret raw)) : Sim P GW f ⟨[.one m], rs⟩ φ := by
  obtain ⟨h1, h2, _⟩ := compF_chk hA
  refine ⟨⟨fn, hf, hname, by rw [hb]; rfl⟩, fun F S w xss cs raw hFS hS hPA hnd hB0 hgw h0n hr => ?_⟩
  obtain ⟨e, xs, rfl, hφA, n2, hn2⟩ := hφ xss raw hr
  refine calls_of_wp hf hb ?_
  have R := entry (P := P) (kl := keepS 0 [.one m]) hFS hS hPA hnd hB0 h1 h2
  have hkl : keepS 0 [PSh.one m] = [] := rfl
  have hdead : ∀ d, 0 < d → (inAl fn.ntmps [.one m]).slot d = .one .dead := fun d hd => by
    simp only [inAl, Al.slot, List.getD_eq_getElem?_getD]
    rw [List.getElem?_append_right (by rw [inSl_len]; exact hd), List.getElem?_replicate]
    split <;> rfl
  have hW : ∀ d, d < fn.ntmps → (frN fn ⟨[.one m], rs⟩ cs F).W d := fun d hd => ⟨hd, by simp [frN, hkl]⟩
  have R1 := R.putDead (hW 2 (by omega)) (hdead 2 (by omega)) (.slice none 0 0)
  refine wp_seq (wp_region ?_)
  refine .inl (op_value (v := .slice none 0 0) (by simp [execOp, Act.eval]) ?_)
  show Code.wp P _ _ (Act.put { tmps := cs.toArray ++ Array.replicate (fn.ntmps - cs.toArray.size) undef, defers := [] } (some 2) (.slice none 0 0)) w
  generalize hac : Act.put { tmps := cs.toArray ++ Array.replicate (fn.ntmps - cs.toArray.size) undef, defers := [] } (some 2) (.slice none 0 0) = ac
  refine wp_seq (wp_seq (wp_region ?_))
  have R1' : Rel P w (· ∈ argsB w [.one m] cs) (frN fn ⟨[.one m], rs⟩ cs F) (inAl fn.ntmps [.one m]) (env0 [.one m] [[.list e xs]]) (L0 w [.one m] [[.list e xs]] cs F S) ac w := by rw [← hac]; exact R1
  have hsize : ac.tmps.size = fn.ntmps := R1'.nt.size
  -- what the slot of the parameter holds
  have hsl : ∃ (a0 : Option Addr) (l cap : Nat), ac.tmps.getD 0 undef = .slice a0 l cap ∧ (a0 = none → xs = []) := by
    have H := R1'.slots 0
    have hs0 : ∃ s, (inAl fn.ntmps [.one m]).slot 0 = .one (.v s) := by
      cases m with
      | own => exact absurd rfl hmo
      | fz => exact ⟨.fz, rfl⟩
      | lent => exact ⟨.lent, rfl⟩
    obtain ⟨s, hs0⟩ := hs0
    rw [hs0] at H
    obtain ⟨y, hy, hr0⟩ := RAs.single H
    have hy' : y = .list e xs := by
      have : env0 [.one m] [[.list e xs]] (sC 0) = [inV m (.list e xs)] := rfl
      rw [this] at hy
      cases m with
      | own => exact absurd rfl hmo
      | fz => simpa [inV] using hy.symm
      | lent => simpa [inV] using hy.symm
    subst hy'
    rcases hr0 with hr0 | hr0
    · cases hr0
    have hr0' : Rd P _ w (.list e xs) (ac.tmps.getD 0 undef) := hr0
    rcases hr0'.inv e xs rfl with ⟨hx, a0, cap, hc⟩ | ⟨b, o, cap, sz, ag, f, hc, _⟩
    · exact ⟨a0, 0, cap, hc, fun _ => hx⟩
    · exact ⟨_, _, cap, hc, fun h => by cases h⟩
  obtain ⟨a0, l, cap, hc0, hnil⟩ := hsl
  refine .inl (op_value (v := .slice a0 l cap) ?_ ?_)
  · have : ac.eval (.tmp 0) = .slice a0 l cap := hc0
    simp [execOp, this]
  have R2 := R1'.putDead (hW 3 (by omega)) (hdead 3 (by omega)) (.slice a0 l cap)
  have h3 : (ac.put (some 3) (.slice a0 l cap)).eval (.tmp 3) = .slice a0 l cap := by
    have := getD_put ac 3 (.slice a0 l cap) 3 (by omega)
    rw [if_pos rfl] at this
    exact this
  refine .inl (op_value (v := .bool a0.isNone) ?_ ?_)
  · show (execOp (ac.put (some 3) (.slice a0 l cap)).eval _).run P w = _
    have hk : (ac.put (some 3) (.slice a0 l cap)).eval (.const (.slice none 0 0)) = .slice none 0 0 := rfl
    have hg : (eqGuard .eql T (.tmp 3) (.const (.slice none 0 0)) (.slice a0 l cap) (.slice none 0 0)).run P w = .ok () w := eqGuard_scalar ⟨fun cs e => (by cases e), fun e => (by cases e)⟩
    simp [execOp, h3, hk, hg, run_eql_slice_nil w T E a0 l cap hu]
  have R3 := R2.putDead (hW 4 (by omega)) (hdead 4 (by omega)) (.bool a0.isNone)
  have h4 : ((ac.put (some 3) (.slice a0 l cap)).put (some 4) (.bool a0.isNone)).eval (.tmp 4) = .bool a0.isNone := by
    have := getD_put (ac.put (some 3) (.slice a0 l cap)) 4 (.bool a0.isNone) 4 (by have := R2.nt.size; simp only [frN] at this; omega)
    rw [if_pos rfl] at this
    exact this
  show Code.wp P _ _ _ _
  refine wp_cond h4 ?_
  cases hn : a0.isNone with
  | true =>
    have hx : xs = [] := hnil (by simpa using hn)
    obtain ⟨n1, hn1⟩ := hφA hx
    rw [hn] at R3
    refine wp_mono (body_wp (fn0 := fn) hG hm (fn := { fn with body := some c1 }) rfl rfl rfl hA hsim hPA hgw h0n R3 hn1) fun e a w' hp => ?_
    obtain ⟨hp1, hp2⟩ := hp
    have := hp2 hA2
    subst this
    exact hp1
  | false =>
    rw [hn] at R3
    refine wp_skip ?_
    exact wp_mono (body_wp (fn0 := fn) hG hm (fn := { fn with body := some c2 }) rfl rfl rfl hB hsim hPA hgw h0n R3 hn2) fun e a w' hp => hp.1
end
end Go.Proofs.YtogfkdpgkloljaaDoorVs
