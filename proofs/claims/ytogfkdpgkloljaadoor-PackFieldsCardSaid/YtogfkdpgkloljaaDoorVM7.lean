/-
  Several texts in one: Closed answers are reckoned out by the texts; slices.Clone. Conditions: each lemma's own premises. | How texts are reckoned: each operation at values that are told. No condition but each lemma's own premises.
-/
import Derived.Test.YtogfkdpgkloljaaDoorVM6
import Derived.Laws.Entries
set_option linter.unusedVariables false
set_option linter.unusedSimpArgs false
namespace Go.Proofs.YtogfkdpgkloljaaDoorVs
def TLe (f g : TR) : Prop := ∀ o, f = some o → g = some o
theorem app_mono : ∀ {m : Nat} {F G : List V → TR}, (∀ zs, TLe (F zs) (G zs)) → ∀ zs, TLe (app m (cur m F) zs) (app m (cur m G) zs) := fun {m F G} h zs o ho => by
  obtain ⟨h1, h2⟩ := app_cur ho
  have h3 := h zs o h2
  clear h2 ho h
  induction m generalizing F G zs with
  | zero =>
    cases zs with
    | nil => exact h3
    | cons => simp at h1
  | succ m ih =>
    cases zs with
    | nil => simp at h1
    | cons z zs =>
      show app m (cur m fun l => G (z :: l)) zs = some o
      exact ih (F := fun l => F (z :: l)) zs (by simpa using h1) h3
theorem eval_mono {Φ Ψ : Funs} (hl : FLe Φ Ψ) {n : Nat} : ∀ (t : Tm) (vs : List V), TLe (t.eval Φ n vs) (t.eval Ψ n vs)
  | .op1 f args k, vs, o, h => by
    simp only [Tm.eval, op1V, Option.bind_eq_some_iff] at h ⊢
    obtain ⟨r, h1, h2⟩ := h
    refine ⟨r, sem_mono hl h1, ?_⟩
    unfold k1 at h2 ⊢
    split at h2
    · exact eval_mono hl k _ o h2
    · cases h2
  | .opn f args m k, vs, o, h => by
    simp only [Tm.eval, opnV, Option.bind_eq_some_iff] at h ⊢
    obtain ⟨r, h1, h2⟩ := h
    refine ⟨r, sem_mono hl h1, ?_⟩
    unfold kn at h2 ⊢
    split at h2
    · exact app_mono (fun zs => eval_mono hl k _) _ o h2
    · cases h2
  | .call f w ins ps k, vs, o, h => by
    simp only [Tm.eval, callV, Option.bind_eq_some_iff] at h ⊢
    obtain ⟨raw, h1, zs, h2, h3⟩ := h
    exact ⟨raw, hl _ _ _ _ h1, zs, h2, app_mono (fun zs => eval_mono hl k _) _ o h3⟩
  | .chk kd a k, vs, o, h => by
    simp only [Tm.eval] at h ⊢
    unfold chkV at h ⊢
    split at h <;> first | exact eval_mono hl k _ o h | cases h
  | .ite c a b, vs, o, h => by
    simp only [Tm.eval] at h ⊢
    unfold iteV at h ⊢
    split at h <;> first | exact eval_mono hl a _ o h | exact eval_mono hl b _ o h | cases h
  | .gd c want ud a b, vs, o, h => by
    simp only [Tm.eval] at h ⊢
    unfold gdV at h ⊢
    split at h
    · split at h
      · rename_i hb; rw [if_pos hb]; exact eval_mono hl a _ o h
      · rename_i hb; rw [if_neg hb]; exact eval_mono hl b _ o h
    · split at h
      · rename_i hb; rw [if_pos hb]; exact eval_mono hl b _ o h
      · cases h
    · cases h
  | .norm lens as, vs, o, h => h
  | .exit id lens as, vs, o, h => h
  | .ret rs, vs, o, h => h
  | .blk id b lens k, vs, o, h => by
    simp only [Tm.eval] at h ⊢
    obtain ⟨o1, h1, h2⟩ := blk_inv h
    have h3 := eval_mono hl b vs o1 h1
    simp only [blkV, h3, Option.bind_some]
    rcases h2 with ⟨l, zs, rfl, rfl, h2⟩ | ⟨j, l, zs, rfl, ⟨hj, rfl, h2⟩ | ⟨hj, rfl⟩⟩ | ⟨rs, rfl, rfl⟩
    · simp only [if_true]; exact app_mono (fun zs => eval_mono hl k _) _ o h2
    · simp only [hj, if_true]; exact app_mono (fun zs => eval_mono hl k _) _ o h2
    · simp only [if_neg hj]
    · rfl
  | .lp lens init b, vs, o, h => by
    simp only [Tm.eval] at h ⊢
    have key : ∀ (k : Nat) (zs : List V), TLe (lpV lens (app (total lens) (cur (total lens) fun zs => b.eval Φ n (zs.reverse ++ vs))) k zs) (lpV lens (app (total lens) (cur (total lens) fun zs => b.eval Ψ n (zs.reverse ++ vs))) k zs) := by
      intro k
      induction k with
      | zero => intro zs o h; cases h
      | succ k ih =>
        intro zs o h
        simp only [lpV, Option.bind_eq_some_iff] at h ⊢
        obtain ⟨o1, h1, h2⟩ := h
        refine ⟨o1, app_mono (fun zs => eval_mono hl b _) _ o1 h1, ?_⟩
        cases o1 with
        | norm l vs' =>
          simp only at h2 ⊢
          split at h2
          · rename_i hl2; rw [if_pos hl2]; exact ih _ o h2
          · cases h2
        | exit j l vs' => exact h2
        | ret rs => exact h2
    exact key n _ o h
  | .fail, vs, o, h => by cases h
abbrev FT := List (Nat × Nat × (Funs → Nat → List (List V) → TR))
def lkF : FT → Nat → Nat → Option (Funs → Nat → List (List V) → TR)
  | [], _, _ => none
  | e :: r, f, k => if e.1 = f ∧ e.2.1 = k then some e.2.2 else lkF r f k
theorem lkF_mem : ∀ {l : FT} {f k : Nat} {F : Funs → Nat → List (List V) → TR}, lkF l f k = some F → (f, k, F) ∈ l
  | e :: r, f, k, F, h => by
    simp only [lkF] at h
    split at h
    · rename_i he
      cases h
      obtain ⟨rfl, rfl⟩ := he
      exact List.mem_cons_self
    · exact List.mem_cons_of_mem _ (lkF_mem h)
/-- what the texts answer -/
def evT (gv : Nat → Nat → Option (List (List V) → Option (List (List V)))) (ft : FT) : Nat → Funs
  | 0 => fun _ _ _ => none
  | n + 1 => fun f k xss => match gv f k with
    | some φ => φ xss
    | none => match lkF ft f k with
      | some F => match F (evT gv ft n) n xss with
        | some (.ret raw) => some raw
        | _ => none
      | none => none
theorem evT_ok {T : Tab} {ft : FT} (h : ∀ f k F, lkF ft f k = some F → ∀ (Φ : Funs) n xss raw, FLe Φ (Fix T) → F Φ n xss = some (.ret raw) → T.gv f k = none → Fix T f k xss = some raw) : ∀ n, FLe (evT T.gv ft n) (Fix T)
  | 0 => fun f k xss raw h => by cases h
  | n + 1 => fun f k xss raw hr => by
    simp only [evT] at hr
    split at hr
    · rename_i φ hg; exact fix_given hg hr
    · rename_i hg
      split at hr
      · rename_i F hF
        split at hr
        · rename_i r hr2
          cases hr
          exact h f k F hF _ n xss raw (evT_ok h n) hr2 hg
        · cases hr
      · cases hr
/-- a text that comes to an answer does so with more answers at hand -/
theorem text_mono {P : Program} {sg : Sigs} {cut : List Nat} {fn : Func} {g : Sig} {Φ Ψ : Funs} {n : Nat} {vs : List V} {F G : TR} (hl : FLe Φ Ψ) (h1 : (textE P sg cut fn g).map (fun t => t.eval Φ n vs) = some F) (h2 : (textE P sg cut fn g).map (fun t => t.eval Ψ n vs) = some G) : TLe F G := by
  obtain ⟨t, ht, rfl⟩ := Option.map_eq_some_iff.1 h1
  rw [ht] at h2
  cases h2
  exact eval_mono hl t vs

/-! ### slices.Clone -/
def cl1 (fn : Func) : Code := match fn.body with
  | some (.seq _ (.seq (.seq _ (.cond _ c1 _)) _)) => c1
  | _ => .skip
def cl2 (fn : Func) : Code := match fn.body with
  | some (.seq _ (.seq (.seq _ (.cond _ _ _)) c2)) => c2
  | _ => .skip
def cloneφ (E : TypeId) (bs : Nat) (sc : Bool) : List (List V) → Option (List (List V))
  | [[.list e xs]] => if ((e = E) ∧ (sc = true → xs.all scalarE = true)) ∧ xs.length * bs ≤ 140737488355328 then some [[.list E xs]] else none
  | _ => none
theorem sim_clone {P : Program} {GW : World → Prop} (hG : GWDep GW) (hm : P.follows .mixedOrders = true) {f : FuncId} {fn : Func} {m : PM} {id0 id1 : Nat} {T E t0 t1 t2 T' : TypeId} {p0 p1 p2 : String} {e0 e1 e2 : Array Edge} {bs : Nat} {sc : Bool}
    (hf : P.funcs[f]? = some fn) (hname : (fn.name == "runtime.NumGoroutine") = false) (hb : fn.body = some (nilBody id0 id1 T t0 t1 t2 T' p0 p1 p2 e0 e1 e2 (cl1 fn) (cl2 fn))) (hu : P.underlying T = some (.slice E)) (hN : 4 < fn.ntmps) (hmo : m ≠ .own)
    (hA2 : ((comp (cxOf P (sgL []) (hsOf []) { fn with body := some (cl1 fn) } ⟨[.one m], [.one .own]⟩) (cl1 fn) (inAl fn.ntmps [.one m])).map fun r => r.nm.isNone) = some true)
    (hA : ∀ (Φ : Funs) (n : Nat) (v0 : V), (textE P (sgL []) [] { fn with body := some (cl1 fn) } ⟨[.one m], [.one .own]⟩).map (fun t => t.eval Φ n [v0]) = some (some (.ret [[.list E []]])))
    (hB : ∀ (Φ : Funs) (n : Nat) (v0 : V), (textE P (sgL []) [] { fn with body := some (cl2 fn) } ⟨[.one m], [.one .own]⟩).map (fun t => t.eval Φ n [v0]) = some (op1V Φ (.mk E []) [] fun v1 => chkV 2 v0 <| op1V Φ (.app E bs sc) [[v1], [v0]] fun v2 => some (.ret [[v2]]))) : Sim P GW f ⟨[.one m], [.one .own]⟩ (cloneφ E bs sc) := by
  let Φ : Funs := fun _ _ _ => none
  obtain ⟨tA, htA, _⟩ := Option.map_eq_some_iff.1 (hA Φ 0 .unit)
  obtain ⟨tB, htB, _⟩ := Option.map_eq_some_iff.1 (hB Φ 0 .unit)
  obtain ⟨hcA, hmA⟩ := textE_ok htA
  obtain ⟨hcB, hmB⟩ := textE_ok htB
  refine sim_nil (Φ := Φ) hG hm hf hname hb hu hN hmo hcA hA2 hcB (fun f k g h => by simp [sgL] at h) (fun xss raw hr => ?_)
  unfold cloneφ at hr
  split at hr
  · rename_i e xs
    split at hr
    · rename_i hc
      cases hr
      obtain ⟨⟨rfl, hs⟩, hsz⟩ := hc
      refine ⟨e, xs, rfl, fun hx => ⟨0, ?_⟩, ⟨0, ?_⟩⟩
      · subst hx
        refine tm_ok hmA ⟨rfl, trivial⟩ (compF_64 hcA) ?_
        have := hA Φ 0 (.list e [])
        rw [htA] at this
        exact Option.some.inj this
      · refine tm_ok hmB ⟨rfl, trivial⟩ (compF_64 hcB) ?_
        have := hB Φ 0 (.list e xs)
        rw [htB] at this
        have h2 : tB.eval Φ 0 [.list e xs] = _ := Option.some.inj this
        show tB.eval Φ 0 [.list e xs] = _
        rw [h2]
        simp only [op1V, VF.sem, List.mapM_nil, Option.pure_def, Option.map_some, Option.bind_some, k1, chkV]
        rw [if_pos ⟨⟨⟨trivial, trivial⟩, hs⟩, by simpa using hsz⟩]
        rfl
    · cases hr
  · cases hr
end Go.Proofs.YtogfkdpgkloljaaDoorVs
set_option linter.unusedVariables false
set_option linter.unusedSimpArgs false
namespace Go.Proofs.YtogfkdpgkloljaaDoorVs
section
variable {Φ : Funs} {k k' : IntKind} {a b : Int} {f : V → TR} {e : TypeId} {xs ys : List V} {s t : ByteArray} {r x y : TR} {l : List Nat} {K : List V → TR} {vs : List V}
theorem o_add : op1V Φ (.bin .add 0) [[.int k a], [.int k b]] f = f (.int k (k.wrap (a + b))) := by simp [op1V, VF.sem, vbin, isShift, vint, k1]
theorem o_sub : op1V Φ (.bin .sub 0) [[.int k a], [.int k b]] f = f (.int k (k.wrap (a - b))) := by simp [op1V, VF.sem, vbin, isShift, vint, k1]
theorem o_mul : op1V Φ (.bin .mul 0) [[.int k a], [.int k b]] f = f (.int k (k.wrap (a * b))) := by simp [op1V, VF.sem, vbin, isShift, vint, k1]
theorem o_quo : op1V Φ (.bin .quo 0) [[.int k a], [.int k b]] f = if b = 0 then none else f (.int k (k.wrap (a.tdiv b))) := by
  by_cases h : b = 0 <;> simp [op1V, VF.sem, vbin, isShift, vint, k1, h]
theorem o_rem : op1V Φ (.bin .rem 0) [[.int k a], [.int k b]] f = if b = 0 then none else f (.int k (a.tmod b)) := by
  by_cases h : b = 0 <;> simp [op1V, VF.sem, vbin, isShift, vint, k1, h]
theorem o_and : op1V Φ (.bin .and 0) [[.int k a], [.int k b]] f = f (.int k (Go.bits .and k a b)) := by simp only [op1V, VF.sem, vbin, isShift, vint]; rfl
theorem o_or : op1V Φ (.bin .or 0) [[.int k a], [.int k b]] f = f (.int k (Go.bits .or k a b)) := by simp only [op1V, VF.sem, vbin, isShift, vint]; rfl
theorem o_eql : op1V Φ (.bin .eql 0) [[.int k a], [.int k b]] f = f (.bool (decide (a = b))) := by simp [op1V, VF.sem, vbin, isShift, vint, vcmp, k1]; rfl
theorem o_neq : op1V Φ (.bin .neq 0) [[.int k a], [.int k b]] f = f (.bool (decide (a ≠ b))) := by
  have : (a != b) = decide (a ≠ b) := by by_cases h : a = b <;> simp [h]
  simp [op1V, VF.sem, vbin, isShift, vint, vcmp, k1, this]
theorem o_lss : op1V Φ (.bin .lss 0) [[.int k a], [.int k b]] f = f (.bool (decide (a < b))) := by simp [op1V, VF.sem, vbin, isShift, vint, vcmp, k1]
theorem o_leq : op1V Φ (.bin .leq 0) [[.int k a], [.int k b]] f = f (.bool (decide (a ≤ b))) := by simp [op1V, VF.sem, vbin, isShift, vint, vcmp, k1]
theorem o_gtr : op1V Φ (.bin .gtr 0) [[.int k a], [.int k b]] f = f (.bool (decide (b < a))) := by simp [op1V, VF.sem, vbin, isShift, vint, vcmp, k1]
theorem o_geq : op1V Φ (.bin .geq 0) [[.int k a], [.int k b]] f = f (.bool (decide (b ≤ a))) := by simp [op1V, VF.sem, vbin, isShift, vint, vcmp, k1]
theorem o_shl : op1V Φ (.bin .shl 0) [[.int k a], [.int k' b]] f = if b < 0 then none else f (.int k (k.wrap (a * 2 ^ min b.toNat k.bits))) := by
  by_cases h : b < 0 <;> simp [op1V, VF.sem, vbin, isShift, vshift, k1, h]
theorem o_shr : op1V Φ (.bin .shr 0) [[.int k a], [.int k' b]] f = if b < 0 then none else f (.int k (a.fdiv (2 ^ min b.toNat k.bits))) := by
  by_cases h : b < 0 <;> simp [op1V, VF.sem, vbin, isShift, vshift, k1, h]
theorem o_seql : op1V Φ (.bin .eql 1) [[.str s], [.str t]] f = f (.bool (s.toList == t.toList)) := by simp [op1V, VF.sem, vbin, vstr, k1]
theorem o_sneq : op1V Φ (.bin .neq 1) [[.str s], [.str t]] f = f (.bool !(s.toList == t.toList)) := by simp [op1V, VF.sem, vbin, vstr, k1]
theorem o_beql {p q : Bool} : op1V Φ (.bin .eql 2) [[.bool p], [.bool q]] f = f (.bool (p == q)) := by simp [op1V, VF.sem, vbin, k1]
theorem o_bneq {p q : Bool} : op1V Φ (.bin .neq 2) [[.bool p], [.bool q]] f = f (.bool !(p == q)) := by simp [op1V, VF.sem, vbin, k1]
theorem o_ieql {u : TypeId} {v : V} : op1V Φ (.bin .eql 3) [[.iface u v], [.nilI]] f = f (.bool false) := rfl
theorem o_ineq {u : TypeId} {v : V} : op1V Φ (.bin .neq 3) [[.iface u v], [.nilI]] f = f (.bool true) := rfl
theorem o_neql : op1V Φ (.bin .eql 3) [[.nilI], [.nilI]] f = f (.bool true) := rfl
theorem o_nneq : op1V Φ (.bin .neq 3) [[.nilI], [.nilI]] f = f (.bool false) := rfl
theorem o_not {p : Bool} : op1V Φ (.un .not) [[.bool p]] f = f (.bool !p) := rfl
theorem o_neg : op1V Φ (.un .neg) [[.int k a]] f = f (.int k (k.wrap (0 - a))) := rfl
theorem o_notv {p : Bool} : op1V Φ .notv [[.bool p]] f = f (.bool !p) := rfl
theorem o_pickT {v w : V} : op1V Φ .pick [[.bool true], [v], [w]] f = f v := rfl
theorem o_pickF {v w : V} : op1V Φ .pick [[.bool false], [v], [w]] f = f w := rfl
theorem o_pick {p : Bool} {v w : V} : op1V Φ .pick [[.bool p], [v], [w]] f = f (if p then v else w) := by cases p <;> rfl
theorem o_conv : op1V Φ (.conv k') [[.int k a]] f = f (.int k' (k'.wrap a)) := rfl
theorem o_len : op1V Φ .len [[.list e xs]] f = f (.int .i64 xs.length) := rfl
theorem o_lens : op1V Φ .lens [[.str s]] f = f (.int .i64 s.size) := rfl
theorem o_idx : op1V Φ (.idx e) [[.list e xs], [.int k a]] f = if 0 ≤ a then (xs[a.toNat]?).bind f else none := by
  by_cases h : 0 ≤ a
  · simp only [op1V, VF.sem, h, true_and, and_self, if_true]
    cases xs[a.toNat]? <;> rfl
  · simp [op1V, VF.sem, h]
theorem o_idxN {j : Nat} : op1V Φ (.idx e) [[.list e xs], [.int k (j : Int)]] f = (xs[j]?).bind f := by rw [o_idx, if_pos (by omega)]; simp
theorem o_eix : op1V Φ (.eix e) [[.list e xs], [.int k a]] f = if 0 ≤ a ∧ a < xs.length then f (.int .i64 a) else none := by
  by_cases h : 0 ≤ a ∧ a < xs.length
  · simp only [op1V, VF.sem, h, true_and, and_self, if_true]; rfl
  · simp only [op1V, VF.sem, true_and, if_neg h]; rfl
theorem o_ldiI : op1V Φ (.ldi 0 1 false [true]) [[.int k a]] f = f (.int k a) := rfl
theorem o_ldiI0 : op1V Φ (.ldi 0 1 false []) [[.int k a]] f = f (.int k a) := by simp [op1V, VF.sem, vsub, k1, maskOk]
theorem o_slcL : op1V Φ (.slc e true false) [[.list e xs], [.int k a]] f = if 0 ≤ a ∧ a ≤ xs.length then f (.list e (xs.drop a.toNat)) else none := by
  by_cases h : 0 ≤ a ∧ a ≤ xs.length
  · simp only [op1V, VF.sem, h, true_and, and_self, if_true]; rfl
  · simp only [op1V, VF.sem, true_and, if_neg h]; rfl
theorem o_slcH : op1V Φ (.slc e false true) [[.list e xs], [.int k a]] f = if 0 ≤ a ∧ a ≤ xs.length then f (.list e (xs.take a.toNat)) else none := by
  by_cases h : 0 ≤ a ∧ a ≤ xs.length
  · simp only [op1V, VF.sem, h, true_and, and_self, if_true]; rfl
  · simp only [op1V, VF.sem, true_and, if_neg h]; rfl
theorem o_app {bs : Nat} {sc : Bool} : op1V Φ (.app e bs sc) [[.list e xs], [.list e ys]] f = if (sc = true → ys.all scalarE = true) ∧ (xs.length + ys.length) * bs ≤ 140737488355328 then f (.list e (xs ++ ys)) else none := by
  by_cases h : (sc = true → ys.all scalarE = true) ∧ (xs.length + ys.length) * bs ≤ 140737488355328
  · rw [if_pos h]
    simp only [op1V, VF.sem]
    rw [if_pos ⟨⟨⟨trivial, trivial⟩, h.1⟩, h.2⟩]; rfl
  · rw [if_neg h]
    simp only [op1V, VF.sem]
    rw [if_neg (fun h' => h ⟨h'.1.2, h'.2⟩)]; rfl
theorem o_mk1 : op1V Φ (.mk e [(false, [(0, 0)])]) [[.int k a]] f = f (.list e [.int k a]) := rfl
theorem o_ifc {u : TypeId} {v : V} : op1V Φ (.ifc u) [[v]] f = f (.iface u v) := rfl
theorem numOf_map : ∀ (l : List Int), (l.map (V.int .u8)).mapM numOf = some l
  | [] => rfl
  | x :: l => by simp [List.mapM_cons, numOf, numOf_map l]
theorem o_str {l : List Int} : op1V Φ (.str e) [[.list e (l.map (V.int .u8))]] f = f (.str (strOfNums l)) := by simp only [op1V, VF.sem, numOf_map]; rfl
theorem o_byt : op1V Φ (.byt e) [[.str s]] f = if s.size ≤ 140737488355328 then f (.list e (s.data.toList.map fun b => .int .u8 b.toNat)) else none := by
  by_cases h : s.size ≤ 140737488355328
  · simp only [op1V, VF.sem, if_pos h]; rfl
  · simp only [op1V, VF.sem, if_neg h]; rfl
theorem c_int : chkV 2 (.int k a) r = r := rfl
theorem c_bool {p : Bool} : chkV 2 (.bool p) r = r := rfl
theorem c_str : chkV 2 (.str s) r = r := rfl
theorem c_list : chkV 2 (.list e xs) r = r := rfl
theorem c_agg : chkV 2 (.agg xs) r = r := rfl
theorem c_iface {u : TypeId} {v : V} : chkV 2 (.iface u v) r = r := rfl
theorem c_nilI : chkV 2 .nilI r = r := rfl
theorem c_unit2 : chkV 2 .unit r = r := rfl
theorem c_unit : chkV 0 .unit r = r := rfl
theorem c_true : chkV 1 (.bool true) r = r := rfl
theorem i_te {p : Bool} : iteV (.bool p) x y = if p = true then x else y := by cases p <;> rfl
theorem g_T {p ud : Bool} : gdV (.bool p) true ud x y = if p = true then x else y := rfl
theorem g_F {p ud : Bool} : gdV (.bool p) false ud x y = if p = true then y else x := by cases p <;> rfl
theorem g_u {want : Bool} : gdV .undef want true x y = y := rfl
theorem b_norm {id : Option Nat} : blkV id l (some (.norm l vs)) K = K vs := by simp [blkV]
theorem b_exit {j : Nat} : blkV (some j) l (some (.exit j l vs)) K = K vs := by simp [blkV]
theorem b_exitN {j : Nat} {l' : List Nat} : blkV none l (some (.exit j l' vs)) K = some (.exit j l' vs) := by simp [blkV]
theorem b_exitS {i j : Nat} {l' : List Nat} (h : (i == j) = false) : blkV (some i) l (some (.exit j l' vs)) K = some (.exit j l' vs) := by
  have h2 : ¬ i = j := by simpa using h
  simp [blkV, h2]
theorem b_exitI {i j : Nat} {l' : List Nat} : blkV (some i) l (some (.exit j l' vs)) K = if i = j then (if l' = l then K vs else none) else some (.exit j l' vs) := by simp [blkV]
theorem b_ret {id : Option Nat} {rs : List (List V)} : blkV id l (some (.ret rs)) K = some (.ret rs) := rfl
theorem b_none {id : Option Nat} : blkV id l none K = none := rfl
theorem b_ite {id : Option Nat} {p : Prop} [Decidable p] : blkV id l (if p then x else y) K = if p then blkV id l x K else blkV id l y K := by split <;> rfl
theorem a_0 {k : TR} : app 0 k [] = k := rfl
theorem a_1 {k : V → TR} {z0 : V} : app 1 k [z0] = k z0 := rfl
theorem a_2 {k : V → V → TR} {z0 z1 : V} : app 2 k [z0, z1] = k z0 z1 := rfl
theorem a_3 {k : V → V → V → TR} {z0 z1 z2 : V} : app 3 k [z0, z1, z2] = k z0 z1 z2 := rfl
theorem a_4 {k : V → V → V → V → TR} {z0 z1 z2 z3 : V} : app 4 k [z0, z1, z2, z3] = k z0 z1 z2 z3 := rfl
theorem a_5 {k : V → V → V → V → V → TR} {z0 z1 z2 z3 z4 : V} : app 5 k [z0, z1, z2, z3, z4] = k z0 z1 z2 z3 z4 := rfl
theorem a_6 {k : V → V → V → V → V → V → TR} {z0 z1 z2 z3 z4 z5 : V} : app 6 k [z0, z1, z2, z3, z4, z5] = k z0 z1 z2 z3 z4 z5 := rfl
theorem a_7 {k : V → V → V → V → V → V → V → TR} {z0 z1 z2 z3 z4 z5 z6 : V} : app 7 k [z0, z1, z2, z3, z4, z5, z6] = k z0 z1 z2 z3 z4 z5 z6 := rfl
theorem a_8 {k : V → V → V → V → V → V → V → V → TR} {z0 z1 z2 z3 z4 z5 z6 z7 : V} : app 8 k [z0, z1, z2, z3, z4, z5, z6, z7] = k z0 z1 z2 z3 z4 z5 z6 z7 := rfl
theorem a_9 {k : V → V → V → V → V → V → V → V → V → TR} {z0 z1 z2 z3 z4 z5 z6 z7 z8 : V} : app 9 k [z0, z1, z2, z3, z4, z5, z6, z7, z8] = k z0 z1 z2 z3 z4 z5 z6 z7 z8 := rfl
theorem a_10 {k : V → V → V → V → V → V → V → V → V → V → TR} {z0 z1 z2 z3 z4 z5 z6 z7 z8 z9 : V} : app 10 k [z0, z1, z2, z3, z4, z5, z6, z7, z8, z9] = k z0 z1 z2 z3 z4 z5 z6 z7 z8 z9 := rfl
theorem a_11 {k : V → V → V → V → V → V → V → V → V → V → V → TR} {z0 z1 z2 z3 z4 z5 z6 z7 z8 z9 z10 : V} : app 11 k [z0, z1, z2, z3, z4, z5, z6, z7, z8, z9, z10] = k z0 z1 z2 z3 z4 z5 z6 z7 z8 z9 z10 := rfl
theorem a_12 {k : V → V → V → V → V → V → V → V → V → V → V → V → TR} {z0 z1 z2 z3 z4 z5 z6 z7 z8 z9 z10 z11 : V} : app 12 k [z0, z1, z2, z3, z4, z5, z6, z7, z8, z9, z10, z11] = k z0 z1 z2 z3 z4 z5 z6 z7 z8 z9 z10 z11 := rfl
theorem a_13 {k : V → V → V → V → V → V → V → V → V → V → V → V → V → TR} {z0 z1 z2 z3 z4 z5 z6 z7 z8 z9 z10 z11 z12 : V} : app 13 k [z0, z1, z2, z3, z4, z5, z6, z7, z8, z9, z10, z11, z12] = k z0 z1 z2 z3 z4 z5 z6 z7 z8 z9 z10 z11 z12 := rfl
theorem a_14 {k : V → V → V → V → V → V → V → V → V → V → V → V → V → V → TR} {z0 z1 z2 z3 z4 z5 z6 z7 z8 z9 z10 z11 z12 z13 : V} : app 14 k [z0, z1, z2, z3, z4, z5, z6, z7, z8, z9, z10, z11, z12, z13] = k z0 z1 z2 z3 z4 z5 z6 z7 z8 z9 z10 z11 z12 z13 := rfl
theorem a_15 {k : V → V → V → V → V → V → V → V → V → V → V → V → V → V → V → TR} {z0 z1 z2 z3 z4 z5 z6 z7 z8 z9 z10 z11 z12 z13 z14 : V} : app 15 k [z0, z1, z2, z3, z4, z5, z6, z7, z8, z9, z10, z11, z12, z13, z14] = k z0 z1 z2 z3 z4 z5 z6 z7 z8 z9 z10 z11 z12 z13 z14 := rfl
theorem a_16 {k : V → V → V → V → V → V → V → V → V → V → V → V → V → V → V → V → TR} {z0 z1 z2 z3 z4 z5 z6 z7 z8 z9 z10 z11 z12 z13 z14 z15 : V} : app 16 k [z0, z1, z2, z3, z4, z5, z6, z7, z8, z9, z10, z11, z12, z13, z14, z15] = k z0 z1 z2 z3 z4 z5 z6 z7 z8 z9 z10 z11 z12 z13 z14 z15 := rfl
theorem a_17 {k : V → V → V → V → V → V → V → V → V → V → V → V → V → V → V → V → V → TR} {z0 z1 z2 z3 z4 z5 z6 z7 z8 z9 z10 z11 z12 z13 z14 z15 z16 : V} : app 17 k [z0, z1, z2, z3, z4, z5, z6, z7, z8, z9, z10, z11, z12, z13, z14, z15, z16] = k z0 z1 z2 z3 z4 z5 z6 z7 z8 z9 z10 z11 z12 z13 z14 z15 z16 := rfl
theorem a_18 {k : V → V → V → V → V → V → V → V → V → V → V → V → V → V → V → V → V → V → TR} {z0 z1 z2 z3 z4 z5 z6 z7 z8 z9 z10 z11 z12 z13 z14 z15 z16 z17 : V} : app 18 k [z0, z1, z2, z3, z4, z5, z6, z7, z8, z9, z10, z11, z12, z13, z14, z15, z16, z17] = k z0 z1 z2 z3 z4 z5 z6 z7 z8 z9 z10 z11 z12 z13 z14 z15 z16 z17 := rfl
theorem a_19 {k : V → V → V → V → V → V → V → V → V → V → V → V → V → V → V → V → V → V → V → TR} {z0 z1 z2 z3 z4 z5 z6 z7 z8 z9 z10 z11 z12 z13 z14 z15 z16 z17 z18 : V} : app 19 k [z0, z1, z2, z3, z4, z5, z6, z7, z8, z9, z10, z11, z12, z13, z14, z15, z16, z17, z18] = k z0 z1 z2 z3 z4 z5 z6 z7 z8 z9 z10 z11 z12 z13 z14 z15 z16 z17 z18 := rfl
theorem a_20 {k : V → V → V → V → V → V → V → V → V → V → V → V → V → V → V → V → V → V → V → V → TR} {z0 z1 z2 z3 z4 z5 z6 z7 z8 z9 z10 z11 z12 z13 z14 z15 z16 z17 z18 z19 : V} : app 20 k [z0, z1, z2, z3, z4, z5, z6, z7, z8, z9, z10, z11, z12, z13, z14, z15, z16, z17, z18, z19] = k z0 z1 z2 z3 z4 z5 z6 z7 z8 z9 z10 z11 z12 z13 z14 z15 z16 z17 z18 z19 := rfl
theorem a_21 {k : V → V → V → V → V → V → V → V → V → V → V → V → V → V → V → V → V → V → V → V → V → TR} {z0 z1 z2 z3 z4 z5 z6 z7 z8 z9 z10 z11 z12 z13 z14 z15 z16 z17 z18 z19 z20 : V} : app 21 k [z0, z1, z2, z3, z4, z5, z6, z7, z8, z9, z10, z11, z12, z13, z14, z15, z16, z17, z18, z19, z20] = k z0 z1 z2 z3 z4 z5 z6 z7 z8 z9 z10 z11 z12 z13 z14 z15 z16 z17 z18 z19 z20 := rfl
theorem a_22 {k : V → V → V → V → V → V → V → V → V → V → V → V → V → V → V → V → V → V → V → V → V → V → TR} {z0 z1 z2 z3 z4 z5 z6 z7 z8 z9 z10 z11 z12 z13 z14 z15 z16 z17 z18 z19 z20 z21 : V} : app 22 k [z0, z1, z2, z3, z4, z5, z6, z7, z8, z9, z10, z11, z12, z13, z14, z15, z16, z17, z18, z19, z20, z21] = k z0 z1 z2 z3 z4 z5 z6 z7 z8 z9 z10 z11 z12 z13 z14 z15 z16 z17 z18 z19 z20 z21 := rfl
theorem a_23 {k : V → V → V → V → V → V → V → V → V → V → V → V → V → V → V → V → V → V → V → V → V → V → V → TR} {z0 z1 z2 z3 z4 z5 z6 z7 z8 z9 z10 z11 z12 z13 z14 z15 z16 z17 z18 z19 z20 z21 z22 : V} : app 23 k [z0, z1, z2, z3, z4, z5, z6, z7, z8, z9, z10, z11, z12, z13, z14, z15, z16, z17, z18, z19, z20, z21, z22] = k z0 z1 z2 z3 z4 z5 z6 z7 z8 z9 z10 z11 z12 z13 z14 z15 z16 z17 z18 z19 z20 z21 z22 := rfl
theorem a_24 {k : V → V → V → V → V → V → V → V → V → V → V → V → V → V → V → V → V → V → V → V → V → V → V → V → TR} {z0 z1 z2 z3 z4 z5 z6 z7 z8 z9 z10 z11 z12 z13 z14 z15 z16 z17 z18 z19 z20 z21 z22 z23 : V} : app 24 k [z0, z1, z2, z3, z4, z5, z6, z7, z8, z9, z10, z11, z12, z13, z14, z15, z16, z17, z18, z19, z20, z21, z22, z23] = k z0 z1 z2 z3 z4 z5 z6 z7 z8 z9 z10 z11 z12 z13 z14 z15 z16 z17 z18 z19 z20 z21 z22 z23 := rfl
theorem f_c0 {g w : Nat} {ins : List (List V)} {ps : List (Nat × Nat)} {k : TR} : callV Φ g w ins 0 ps k = (Φ g w ins).bind fun raw => (pks raw ps).bind (app 0 k) := rfl
theorem f_c1 {g w : Nat} {ins : List (List V)} {ps : List (Nat × Nat)} {k : V → TR} : callV Φ g w ins 1 ps k = (Φ g w ins).bind fun raw => (pks raw ps).bind (app 1 k) := rfl
theorem f_c2 {g w : Nat} {ins : List (List V)} {ps : List (Nat × Nat)} {k : V → V → TR} : callV Φ g w ins 2 ps k = (Φ g w ins).bind fun raw => (pks raw ps).bind (app 2 k) := rfl
theorem f_c3 {g w : Nat} {ins : List (List V)} {ps : List (Nat × Nat)} {k : V → V → V → TR} : callV Φ g w ins 3 ps k = (Φ g w ins).bind fun raw => (pks raw ps).bind (app 3 k) := rfl
theorem f_c4 {g w : Nat} {ins : List (List V)} {ps : List (Nat × Nat)} {k : V → V → V → V → TR} : callV Φ g w ins 4 ps k = (Φ g w ins).bind fun raw => (pks raw ps).bind (app 4 k) := rfl
theorem f_c5 {g w : Nat} {ins : List (List V)} {ps : List (Nat × Nat)} {k : V → V → V → V → V → TR} : callV Φ g w ins 5 ps k = (Φ g w ins).bind fun raw => (pks raw ps).bind (app 5 k) := rfl
theorem f_c6 {g w : Nat} {ins : List (List V)} {ps : List (Nat × Nat)} {k : V → V → V → V → V → V → TR} : callV Φ g w ins 6 ps k = (Φ g w ins).bind fun raw => (pks raw ps).bind (app 6 k) := rfl
theorem f_c7 {g w : Nat} {ins : List (List V)} {ps : List (Nat × Nat)} {k : V → V → V → V → V → V → V → TR} : callV Φ g w ins 7 ps k = (Φ g w ins).bind fun raw => (pks raw ps).bind (app 7 k) := rfl
theorem f_c8 {g w : Nat} {ins : List (List V)} {ps : List (Nat × Nat)} {k : V → V → V → V → V → V → V → V → TR} : callV Φ g w ins 8 ps k = (Φ g w ins).bind fun raw => (pks raw ps).bind (app 8 k) := rfl
theorem f_c9 {g w : Nat} {ins : List (List V)} {ps : List (Nat × Nat)} {k : V → V → V → V → V → V → V → V → V → TR} : callV Φ g w ins 9 ps k = (Φ g w ins).bind fun raw => (pks raw ps).bind (app 9 k) := rfl
theorem f_c10 {g w : Nat} {ins : List (List V)} {ps : List (Nat × Nat)} {k : V → V → V → V → V → V → V → V → V → V → TR} : callV Φ g w ins 10 ps k = (Φ g w ins).bind fun raw => (pks raw ps).bind (app 10 k) := rfl
theorem f_c11 {g w : Nat} {ins : List (List V)} {ps : List (Nat × Nat)} {k : V → V → V → V → V → V → V → V → V → V → V → TR} : callV Φ g w ins 11 ps k = (Φ g w ins).bind fun raw => (pks raw ps).bind (app 11 k) := rfl
theorem f_c12 {g w : Nat} {ins : List (List V)} {ps : List (Nat × Nat)} {k : V → V → V → V → V → V → V → V → V → V → V → V → TR} : callV Φ g w ins 12 ps k = (Φ g w ins).bind fun raw => (pks raw ps).bind (app 12 k) := rfl
theorem f_c13 {g w : Nat} {ins : List (List V)} {ps : List (Nat × Nat)} {k : V → V → V → V → V → V → V → V → V → V → V → V → V → TR} : callV Φ g w ins 13 ps k = (Φ g w ins).bind fun raw => (pks raw ps).bind (app 13 k) := rfl
theorem f_c14 {g w : Nat} {ins : List (List V)} {ps : List (Nat × Nat)} {k : V → V → V → V → V → V → V → V → V → V → V → V → V → V → TR} : callV Φ g w ins 14 ps k = (Φ g w ins).bind fun raw => (pks raw ps).bind (app 14 k) := rfl
theorem f_c15 {g w : Nat} {ins : List (List V)} {ps : List (Nat × Nat)} {k : V → V → V → V → V → V → V → V → V → V → V → V → V → V → V → TR} : callV Φ g w ins 15 ps k = (Φ g w ins).bind fun raw => (pks raw ps).bind (app 15 k) := rfl
theorem f_c16 {g w : Nat} {ins : List (List V)} {ps : List (Nat × Nat)} {k : V → V → V → V → V → V → V → V → V → V → V → V → V → V → V → V → TR} : callV Φ g w ins 16 ps k = (Φ g w ins).bind fun raw => (pks raw ps).bind (app 16 k) := rfl
theorem o_n1 {h : VF} {args : List (List V)} {k : V → TR} : opnV Φ h args 1 k = (h.sem Φ args).bind fun r => match r with | [zs] => app 1 k zs | _ => none := by
  unfold opnV
  congr 1
theorem o_n2 {h : VF} {args : List (List V)} {k : V → V → TR} : opnV Φ h args 2 k = (h.sem Φ args).bind fun r => match r with | [zs] => app 2 k zs | _ => none := by
  unfold opnV
  congr 1
theorem o_n3 {h : VF} {args : List (List V)} {k : V → V → V → TR} : opnV Φ h args 3 k = (h.sem Φ args).bind fun r => match r with | [zs] => app 3 k zs | _ => none := by
  unfold opnV
  congr 1
theorem o_n4 {h : VF} {args : List (List V)} {k : V → V → V → V → TR} : opnV Φ h args 4 k = (h.sem Φ args).bind fun r => match r with | [zs] => app 4 k zs | _ => none := by
  unfold opnV
  congr 1
theorem o_n5 {h : VF} {args : List (List V)} {k : V → V → V → V → V → TR} : opnV Φ h args 5 k = (h.sem Φ args).bind fun r => match r with | [zs] => app 5 k zs | _ => none := by
  unfold opnV
  congr 1
theorem o_n6 {h : VF} {args : List (List V)} {k : V → V → V → V → V → V → TR} : opnV Φ h args 6 k = (h.sem Φ args).bind fun r => match r with | [zs] => app 6 k zs | _ => none := by
  unfold opnV
  congr 1
theorem o_n7 {h : VF} {args : List (List V)} {k : V → V → V → V → V → V → V → TR} : opnV Φ h args 7 k = (h.sem Φ args).bind fun r => match r with | [zs] => app 7 k zs | _ => none := by
  unfold opnV
  congr 1
theorem o_n8 {h : VF} {args : List (List V)} {k : V → V → V → V → V → V → V → V → TR} : opnV Φ h args 8 k = (h.sem Φ args).bind fun r => match r with | [zs] => app 8 k zs | _ => none := by
  unfold opnV
  congr 1
theorem o_n9 {h : VF} {args : List (List V)} {k : V → V → V → V → V → V → V → V → V → TR} : opnV Φ h args 9 k = (h.sem Φ args).bind fun r => match r with | [zs] => app 9 k zs | _ => none := by
  unfold opnV
  congr 1
theorem o_n10 {h : VF} {args : List (List V)} {k : V → V → V → V → V → V → V → V → V → V → TR} : opnV Φ h args 10 k = (h.sem Φ args).bind fun r => match r with | [zs] => app 10 k zs | _ => none := by
  unfold opnV
  congr 1
theorem o_n11 {h : VF} {args : List (List V)} {k : V → V → V → V → V → V → V → V → V → V → V → TR} : opnV Φ h args 11 k = (h.sem Φ args).bind fun r => match r with | [zs] => app 11 k zs | _ => none := by
  unfold opnV
  congr 1
theorem o_n12 {h : VF} {args : List (List V)} {k : V → V → V → V → V → V → V → V → V → V → V → V → TR} : opnV Φ h args 12 k = (h.sem Φ args).bind fun r => match r with | [zs] => app 12 k zs | _ => none := by
  unfold opnV
  congr 1
theorem o_n13 {h : VF} {args : List (List V)} {k : V → V → V → V → V → V → V → V → V → V → V → V → V → TR} : opnV Φ h args 13 k = (h.sem Φ args).bind fun r => match r with | [zs] => app 13 k zs | _ => none := by
  unfold opnV
  congr 1
theorem o_n14 {h : VF} {args : List (List V)} {k : V → V → V → V → V → V → V → V → V → V → V → V → V → V → TR} : opnV Φ h args 14 k = (h.sem Φ args).bind fun r => match r with | [zs] => app 14 k zs | _ => none := by
  unfold opnV
  congr 1
theorem o_n15 {h : VF} {args : List (List V)} {k : V → V → V → V → V → V → V → V → V → V → V → V → V → V → V → TR} : opnV Φ h args 15 k = (h.sem Φ args).bind fun r => match r with | [zs] => app 15 k zs | _ => none := by
  unfold opnV
  congr 1
theorem o_n16 {h : VF} {args : List (List V)} {k : V → V → V → V → V → V → V → V → V → V → V → V → V → V → V → V → TR} : opnV Φ h args 16 k = (h.sem Φ args).bind fun r => match r with | [zs] => app 16 k zs | _ => none := by
  unfold opnV
  congr 1
theorem o_n17 {h : VF} {args : List (List V)} {k : V → V → V → V → V → V → V → V → V → V → V → V → V → V → V → V → V → TR} : opnV Φ h args 17 k = (h.sem Φ args).bind fun r => match r with | [zs] => app 17 k zs | _ => none := by
  unfold opnV
  congr 1
theorem o_n18 {h : VF} {args : List (List V)} {k : V → V → V → V → V → V → V → V → V → V → V → V → V → V → V → V → V → V → TR} : opnV Φ h args 18 k = (h.sem Φ args).bind fun r => match r with | [zs] => app 18 k zs | _ => none := by
  unfold opnV
  congr 1
theorem o_n19 {h : VF} {args : List (List V)} {k : V → V → V → V → V → V → V → V → V → V → V → V → V → V → V → V → V → V → V → TR} : opnV Φ h args 19 k = (h.sem Φ args).bind fun r => match r with | [zs] => app 19 k zs | _ => none := by
  unfold opnV
  congr 1
theorem o_n20 {h : VF} {args : List (List V)} {k : V → V → V → V → V → V → V → V → V → V → V → V → V → V → V → V → V → V → V → V → TR} : opnV Φ h args 20 k = (h.sem Φ args).bind fun r => match r with | [zs] => app 20 k zs | _ => none := by
  unfold opnV
  congr 1
theorem o_n21 {h : VF} {args : List (List V)} {k : V → V → V → V → V → V → V → V → V → V → V → V → V → V → V → V → V → V → V → V → V → TR} : opnV Φ h args 21 k = (h.sem Φ args).bind fun r => match r with | [zs] => app 21 k zs | _ => none := by
  unfold opnV
  congr 1
theorem o_n22 {h : VF} {args : List (List V)} {k : V → V → V → V → V → V → V → V → V → V → V → V → V → V → V → V → V → V → V → V → V → V → TR} : opnV Φ h args 22 k = (h.sem Φ args).bind fun r => match r with | [zs] => app 22 k zs | _ => none := by
  unfold opnV
  congr 1
theorem o_n23 {h : VF} {args : List (List V)} {k : V → V → V → V → V → V → V → V → V → V → V → V → V → V → V → V → V → V → V → V → V → V → V → TR} : opnV Φ h args 23 k = (h.sem Φ args).bind fun r => match r with | [zs] => app 23 k zs | _ => none := by
  unfold opnV
  congr 1
theorem o_n24 {h : VF} {args : List (List V)} {k : V → V → V → V → V → V → V → V → V → V → V → V → V → V → V → V → V → V → V → V → V → V → V → V → TR} : opnV Φ h args 24 k = (h.sem Φ args).bind fun r => match r with | [zs] => app 24 k zs | _ => none := by
  unfold opnV
  congr 1
theorem p_nil {args : List (List V)} : pks args [] = some [] := rfl
theorem p_cons {args : List (List V)} {p : Nat × Nat} {ps : List (Nat × Nat)} : pks args (p :: ps) = (pk args p).bind fun z => (pks args ps).bind fun zs => some (z :: zs) := by
  simp only [pks, List.mapM_cons]
  cases pk args p with
  | none => rfl
  | some z => cases List.mapM (pk args) ps <;> rfl
theorem pk_of {args : List (List V)} {p : Nat × Nat} : pk args p = match (args[p.1]?).bind (·[p.2]?) with | some .undef => none | r => r := rfl
theorem bind_ite {β γ : Type} {p : Prop} [Decidable p] {u v : Option β} {h : β → Option γ} : (if p then u else v).bind h = if p then u.bind h else v.bind h := by split <;> rfl
theorem lp_0 {g : List V → TR} : lpV l g 0 vs = none := rfl
theorem lp_s {g : List V → TR} {n : Nat} : lpV l g (n + 1) vs = (g vs).bind fun o => match o with | .norm l' vs' => if l' = l then lpV l g n vs' else none | o => some o := rfl
theorem lp_norm {g : List V → TR} {n : Nat} {vs' : List V} (h : g vs = some (.norm l vs')) : lpV l g (n + 1) vs = lpV l g n vs' := by simp [lp_s, h]
theorem lp_exit {g : List V → TR} {n j : Nat} {l' : List Nat} {vs' : List V} (h : g vs = some (.exit j l' vs')) : lpV l g (n + 1) vs = some (.exit j l' vs') := by simp [lp_s, h]
theorem lp_ret {g : List V → TR} {n : Nat} {rs : List (List V)} (h : g vs = some (.ret rs)) : lpV l g (n + 1) vs = some (.ret rs) := by simp [lp_s, h]
theorem w_i64 {m : Int} (h : -9223372036854775808 ≤ m ∧ m ≤ 9223372036854775807) : IntKind.i64.wrap m = m := by rw [IntKind.wrap_i64]; omega
theorem w_succ {i : Nat} (h : i < 4611686018427387904) : IntKind.i64.wrap ((i : Int) + 1) = ((i + 1 : Nat) : Int) := by rw [w_i64 (by omega)]; omega
end
end Go.Proofs.YtogfkdpgkloljaaDoorVs
