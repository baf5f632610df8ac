/-
  Several texts in one: A call of a function comes to what its instructions say. Conditions: each lemma's own premises. | Instructions behind guards: what they touch, which of them may change places. Conditions: each lemma's own premises. | A region's operations, with their guards. Conditions: each lemma's own premises. | Less may be known: for joins and loops. Conditions: each lemma's own premises. | Regions. Conditions: each lemma's own premises. | An own row in a variable's part is told for good, so that two ways meet. Conditions: each lemma's own premises. | Code as a whole: what is known where ways meet, and the translation. No condition. | A function as a whole: what comes in, what goes out, the translation of its body. No condition.
-/
import Derived.Test.YtlhcgiegganbpaaDoorVM4
import Derived.Still
set_option linter.unusedVariables false
set_option linter.unusedSimpArgs false
namespace Go.Proofs.YtlhcgiegganbpaaDoorVs
section
variable {P : Program} {w0 : World} {M : Nat → Prop} {N : Fr} {α : Al} {ν ν' : Env} {L : Lay} {a : Act} {w w' : World} {Φ : Funs} {o : Oper} {d : Nat} {E : Eff}
theorem zip_eval {xs : List Operand} {ts : List TypeId} (h : xs.length = ts.length) (e : Operand → Value) : (xs.zip ts).map (fun p => e p.1) = xs.map e := by
  induction xs generalizing ts with
  | nil => rfl
  | cons x xs ih =>
    cases ts with
    | nil => cases h
    | cons t ts => simp [ih (by simpa using h)]
theorem flat_ou (rs : List Res) : ((rs.map (·.outs)).flatten).map (·.1) = (rs.map Res.ou).flatten := by
  rw [List.map_flatten, List.map_map]; rfl
theorem not_mem_of {l : List Nat} {x : Nat} (h : l.contains x = false) : x ∉ l := fun hm => by
  rw [List.contains_iff_mem.2 hm] at h; cases h
theorem copG_ok (R : Rel P w0 M N α ν L a w) {mk : List (List (Nat × Nat)) → List (List (Option (Nat × Nat))) → VF} {pre : List Pc} {g : Sig} {args : List (Operand × TypeId)} (hd : ∀ d, o.dst = some d → N.W d)
    (hsem : ∀ ins outs pcs vals, VF.sem Φ (mk ins outs) ((pre ++ pcs).map fun p => VArg.get ν p.1) = some vals → ∃ xss raw f' CS, ins.mapM (pks ((pre ++ pcs).map fun p => VArg.get ν p.1)) = some xss ∧ outs.mapM (outV raw) = some vals ∧ (execOp a.eval o).run P w = .ok (.enter f' CS) w ∧
      ∀ F S : Nat → Prop, (∀ b, F b → S b) → (∀ b, S b → b < w.heap.size) → (∀ b, L.S b → S b) → PArgs P F S w g.ps xss (args.map fun p => a.eval p.1) → (argsB w g.ps (args.map fun p => a.eval p.1)).Nodup → (∀ b ∈ argsB w g.ps (args.map fun p => a.eval p.1), b < w.heap.size ∧ ¬ S b) →
        (∀ b ∈ argsB w g.ps (args.map fun p => a.eval p.1), mine w0 M b) → Calls P f' CS w fun e w' => ∃ vs F', e = .returned (tupV vs) ∧ SimPost P F w g (args.map fun p => a.eval p.1) raw vs F' w')
    (h : RM.out α (copFuncG P mk pre o.dst g args) E) (hv : runIs Φ E.vis ν = some ν') : OpG P o a w (Goal P w0 M N (E.ap α o.dst) ν') := by
  simp only [copFuncG, out_bind, out_need, out_ok, Bool.and_eq_true, List.all_eq_true, Bool.not_eq_true'] at h
  obtain ⟨As, hAs, _, ⟨⟨hn1, hln⟩, hn2⟩, _, hcbks, sh, hsh, rfl⟩ := h
  generalize hpre : (if o.dst.isSome = true then [(sC (o.dst.getD 0), (List.map (fun x => x.sl) (resL (o.dst.getD 0) 0 0 g.rs)).flatten)] else []) = prs at hn2 hv
  obtain ⟨hk, has, vals, hsem0, hvl, rfl⟩ := VI.inv (run_ins1 hv)
  simp only at hsem0
  rw [List.map_map] at hsem0
  obtain ⟨xss, raw, f', CS, hxss, hvals, hrun, hcall⟩ := hsem _ _ _ _ hsem0
  obtain ⟨hxl, hpc⟩ := ins_pieces hxss
  obtain ⟨fz, ka, zs, AO⟩ := passArgs_ok R g.ps _ As xss hAs hk has (by simpa using hxl) (fun i hi hi' => by
    have := hpc i (by simpa using hi) hi'
    simpa using this)
  have hK := nodupB_ok hn1
  obtain ⟨hF, hPA, hnd, hsz, hmn⟩ := call_pre R AO hK (fun x hx => not_mem_of (hln x hx))
  have hcalls := hcall (L.frozen fz).F (fun b => b < w.heap.size ∧ b ∉ argsB w g.ps (args.map fun p => a.eval p.1)) hF (fun b h => h.1) (fun b h => ⟨R.sl b h, fun hb => (hmn b hb).2 h⟩) hPA hnd (fun b hb => ⟨hsz b hb, fun h => h.2 hb⟩) (fun b hb => (hmn b hb).1)
  intro Q
  unfold Oper.wp
  rw [hrun, Oper.upon_enter]
  refine Calls.mono hcalls ?_
  rintro e w' ⟨vs, F', rfl, SP⟩
  show Goal P w0 M N _ _ (a.put o.dst (tupV vs)) w'
  clear hcalls hPA hF hnd hsz hmn hcall hrun hsem hsem0 hxss hpc hxl hk has hv hAs
  -- places
  have hn := nodupB_ok hn2
  obtain ⟨hml, hmg⟩ := mapM_some hvals
  have hplace : ∀ p ∈ prs ++ (List.map (fun x => x.outs) (resL (o.dst.getD 0) 0 0 g.rs ++ backL g.rs.length As)).flatten, ∃ zs, outV raw p.2 = some zs ∧ ν.upds (List.map (fun x => x.1) (prs ++ (List.map (fun x => x.outs) (resL (o.dst.getD 0) 0 0 g.rs ++ backL g.rs.length As)).flatten)) vals p.1 = zs := by
    intro p hp
    obtain ⟨i, hi, rfl⟩ := List.getElem_of_mem hp
    have h1 := hmg i (by rw [List.length_map]; exact hi) (by rw [hml, List.length_map]; exact hi)
    rw [List.getElem_map] at h1
    refine ⟨_, h1, ?_⟩
    have h2 := upds_get _ vals ν hn i (by rw [List.length_map]; exact hi) (by rw [hml, List.length_map]; exact hi)
    rw [List.getElem_map] at h2
    exact h2
  have hou : (List.map (fun x => x.outs) (resL (o.dst.getD 0) 0 0 g.rs ++ backL g.rs.length As)).flatten.map (·.1) = ((resL (o.dst.getD 0) 0 0 g.rs).map Res.ou).flatten ++ ((backL g.rs.length As).map Res.ou).flatten := by
    rw [flat_ou, List.map_append, List.flatten_append]
  have helse : ∀ x, x ∉ prs.map (·.1) → x ∉ ((resL (o.dst.getD 0) 0 0 g.rs).map Res.ou).flatten ++ ((backL g.rs.length As).map Res.ou).flatten → ν.upds (List.map (fun x => x.1) (prs ++ (List.map (fun x => x.outs) (resL (o.dst.getD 0) 0 0 g.rs ++ backL g.rs.length As)).flatten)) vals x = ν x := fun x h1 h2 => upds_else _ _ _ _ (fun hm => by
    rw [List.map_append, hou] at hm
    exact (List.mem_append.1 hm).elim h1 h2)
  generalize hν : ν.upds (List.map (fun x => x.1) (prs ++ (List.map (fun x => x.outs) (resL (o.dst.getD 0) 0 0 g.rs ++ backL g.rs.length As)).flatten)) vals = ν' at hplace helse
  have hpre3 : ∀ x, x ∈ prs.map (·.1) → x % 3 = 0 := fun x hx => by
    rw [← hpre] at hx
    split at hx
    · have : x = sC (o.dst.getD 0) := by simpa using hx
      rw [this]; simp [sC]
    · simp at hx
  have hn' := hn
  rw [List.map_append, hou] at hn'
  obtain ⟨L', R', hom, hparts⟩ := call_post (ν' := ν') (d' := o.dst.getD 0) (ks := (List.map (fun x => x.kill) As).flatten ++ (List.map (fun x => x.kill) (resL (o.dst.getD 0) 0 0 g.rs)).flatten ++ (List.map (fun x => x.kill) (backL g.rs.length As)).flatten) R AO hK SP rfl (List.append_assoc _ _ _) rfl (fun p hp => not_mem_of (hcbks p hp)) (List.nodup_append.1 hn').2.1
    (fun p hp => hplace p (List.mem_append_right _ (by rw [List.map_append, List.flatten_append]; exact hp))) (fun x hx3 hx => helse x (fun hm => hx3 (hpre3 x hm)) hx)
  have hE : (Eff.mk [] ((List.map (fun x => x.kill) As).flatten ++ (List.map (fun x => x.kill) (resL (o.dst.getD 0) 0 0 g.rs)).flatten ++ (List.map (fun x => x.kill) (backL g.rs.length As)).flatten) [] ((List.map (fun x => x.setb) (resL (o.dst.getD 0) 0 0 g.rs ++ backL g.rs.length As)).flatten) sh).ap α none = (α.sk [] ((List.map (fun x => x.kill) As).flatten ++ (List.map (fun x => x.kill) (resL (o.dst.getD 0) 0 0 g.rs)).flatten ++ (List.map (fun x => x.kill) (backL g.rs.length As)).flatten)).setBs (((resL (o.dst.getD 0) 0 0 g.rs).map (·.setb)).flatten ++ ((backL g.rs.length As).map (·.setb)).flatten) := by
    simp only [Eff.ap, ap_sk, List.map_append, List.flatten_append]
  cases hdst : o.dst with
  | none =>
    simp only [hdst, Option.getD_none] at *
    refine ⟨L', ?_⟩
    have e : (fun c => if c % 3 = 0 then ν c else ν' c) = ν' := by
      funext x
      by_cases hx : x % 3 = 0
      · rw [if_pos hx, helse x (by rw [← hpre]; simp) (fun hm => hom x hm hx)]
      · rw [if_neg hx]
    rw [e] at R'
    exact hE ▸ R'
  | some d =>
    simp only [hdst, Option.getD_some] at *
    obtain ⟨zs', hz1, hz2⟩ := hplace (sC d, (List.map (fun x => x.sl) (resL d 0 0 g.rs)).flatten) (List.mem_append_left _ (by rw [← hpre]; simp))
    have H := parts_shape hsh (hparts zs' hz1)
    have R2 := R'.put (hd d rfl) H
    have e : Env.upd (fun c => if c % 3 = 0 then ν c else ν' c) (sC d) zs' = ν' := by
      funext x
      by_cases hxd : x = sC d
      · subst hxd; rw [upd_same, ← hz2]
      · rw [upd_ne hxd]
        by_cases hx : x % 3 = 0
        · simp only [if_pos hx]
          rw [helse x (by rw [← hpre]; simpa using hxd) (fun hm => hom x hm hx)]
        · simp only [if_neg hx]
    rw [e] at R2
    refine ⟨L', ?_⟩
    rw [← hE] at R2
    exact R2
theorem copFunc_ok (R : Rel P w0 M N α ν L a w) {sg : Sigs} {c : Call} {f : FuncId} {k : Nat} {g : Sig} (hd : ∀ d, o.dst = some d → N.W d) (ho : o.op = .call c) (hc : c.callee = .value (.func f)) (hs : c.args.size = c.argTypes.size)
    {GW : World → Prop} (hgw : GWOK GW w0 M) (hsim : Sim P GW f g (Φ f k)) (h : RM.out α (copFunc P sg o.dst f k g (c.args.toList.zip c.argTypes.toList)) E) (hv : runIs Φ E.vis ν = some ν') : OpG P o a w (Goal P w0 M N (E.ap α o.dst) ν') := by
  refine copG_ok R hd (fun ins outs pcs vals hsem => ?_) h hv
  simp only [VF.sem, Option.bind_eq_some_iff] at hsem
  obtain ⟨xss, hxss, raw, hraw, hvals⟩ := hsem
  refine ⟨xss, raw, f, c.args.map a.eval, hxss, hvals, run_enter ho hc hsim.en, fun F S hFS hS _ hPA hnd hbS hbm => ?_⟩
  have harr : c.args.map a.eval = (c.args.toList.map a.eval).toArray := by
    apply Array.ext'; simp
  rw [zip_eval (by simpa using hs)] at *
  rw [harr]
  exact hsim.calls F S w xss (c.args.toList.map a.eval) raw hFS hS hPA hnd hbS (hgw.gw w R.kp) (fun h0 => hgw.m0 (hbm 0 h0)) hraw
/-! ### calls of closures -/
theorem run_enterC {c : Call} {t : Nat} {f : FuncId} {lb : Array Value} (ho : o.op = .call c) (hc : c.callee = .value (.tmp t)) (he : ∃ fn, P.funcs[f]? = some fn ∧ (fn.name == "runtime.NumGoroutine") = false ∧ fn.body.isNone = false) (hv : a.eval (.tmp t) = .func (.func f) #[] lb) :
    (execOp a.eval o).run P w = .ok (.enter f (c.args.map a.eval ++ lb)) w := by
  obtain ⟨fn, h1, h2, h3⟩ := he
  have h2' : ¬ fn.name = "runtime.NumGoroutine" := by simpa using h2
  have h3' : ¬ fn.body = none := by
    intro h; rw [h] at h3; cases h3
  simp [execOp, ho, resolve, hc, hv, Deferred.ofValue, invoke, callFunc, h1, h2', h3']
theorem cloC_mem {ps : List PSh} {rs : List RSh} {f : FuncId} : ∀ {l : List (Nat × Sig)} {x : Nat × Nat × List (List Bool)}, x ∈ cloC ps rs f l → x.1 = f ∧ ∃ g, (x.2.1, g) ∈ l ∧ g.ps.take ps.length = ps ∧ g.rs = rs ∧ (g.ps.drop ps.length).mapM capM = some x.2.2
  | [], x, h => by simp [cloC] at h
  | (k, g) :: r, x, h => by
    have go : x ∈ cloC ps rs f r → x.1 = f ∧ ∃ g', (x.2.1, g') ∈ (k, g) :: r ∧ g'.ps.take ps.length = ps ∧ g'.rs = rs ∧ (g'.ps.drop ps.length).mapM capM = some x.2.2 := fun h => by
      obtain ⟨h1, g', h2, h3⟩ := cloC_mem h
      exact ⟨h1, g', List.mem_cons_of_mem _ h2, h3⟩
    rw [cloC] at h
    split at h
    · rename_i hc
      split at h
      · rename_i ms hm
        rcases List.mem_cons.1 h with rfl | h
        · exact ⟨rfl, g, List.mem_cons_self .., hc.1, hc.2, hm⟩
        · exact go h
      · exact go h
    · exact go h
theorem lookC_mem : ∀ {l : List (Nat × Nat × List (List Bool))} {g : Nat} {q : Nat × List (List Bool)}, lookC l g = some q → (g, q) ∈ l
  | (f, p) :: r, g, q, h => by
    rw [lookC] at h
    split at h
    · rename_i e
      subst e
      cases h
      exact List.mem_cons_self ..
    · exact List.mem_cons_of_mem _ (lookC_mem h)
theorem PArgs.append {F S : Nat → Prop} : ∀ {ps ps' : List PSh} {xss xss' : List (List V)} {cs cs' : List Value}, PArgs P F S w ps xss cs → PArgs P F S w ps' xss' cs' → PArgs P F S w (ps ++ ps') (xss ++ xss') (cs ++ cs')
  | [], ps', [], xss', [], cs', _, h => h
  | p :: ps, ps', xs :: xss, xss', c :: cs, cs', h, h' => ⟨h.1, PArgs.append h.2 h'⟩
theorem PArgs.len {F S : Nat → Prop} : ∀ {ps : List PSh} {xss : List (List V)} {cs : List Value}, PArgs P F S w ps xss cs → ps.length = cs.length
  | [], [], [], _ => rfl
  | p :: ps, xs :: xss, c :: cs, h => by simp [PArgs.len h.2]
theorem argsB_append : ∀ {ps ps' : List PSh} {cs cs' : List Value}, ps.length = cs.length → argsB w (ps ++ ps') (cs ++ cs') = argsB w ps cs ++ argsB w ps' cs'
  | [], ps', [], cs', _ => rfl
  | p :: ps, ps', c :: cs, cs', h => by simp [argsB, argsB_append (ps := ps) (cs := cs) (by simpa using h)]
theorem backsOf_append : ∀ {ps ps' : List PSh} {cs cs' : List Value}, ps.length = cs.length → backsOf (ps ++ ps') (cs ++ cs') = backsOf ps cs ++ backsOf ps' cs'
  | [], ps', [], cs', _ => rfl
  | p :: ps, ps', c :: cs, cs', h => by
    have ih := backsOf_append (ps := ps) (ps' := ps') (cs := cs) (cs' := cs') (by simpa using h)
    simp only [List.cons_append]
    cases p with
    | ptr ro ms =>
      cases ro with
      | true => exact ih
      | false => cases c with
        | pointer q => cases q with
          | none => exact ih
          | some ad => exact congrArg (_ :: ·) ih
        | _ => exact ih
    | _ => exact ih
theorem caps_roB : ∀ {ps : List PSh} {ms : List (List Bool)} {cs : List Value}, ps.mapM capM = some ms → argsB w ps cs = [] ∧ backsOf ps cs = []
  | [], ms, cs, h => by cases cs <;> exact ⟨rfl, rfl⟩
  | p :: ps, ms, [], h => by exact ⟨rfl, by cases p <;> first | rfl | (rename_i ro _; cases ro <;> rfl)⟩
  | p :: ps, ms, c :: cs, h => by
    simp only [List.mapM_cons, Option.bind_eq_bind, Option.bind_eq_some_iff, Option.pure_def] at h
    obtain ⟨m, hm, ms', hms, _⟩ := h
    obtain ⟨h1, h2⟩ := caps_roB (cs := cs) hms
    unfold capM at hm
    split at hm
    · refine ⟨?_, ?_⟩
      · simp only [argsB, h1, List.append_nil]
        cases c <;> first | rfl | (rename_i p; cases p <;> rfl)
      · cases c <;> simp only [backsOf, h2]
    · cases hm
theorem caps_args {F S S' : Nat → Prop} (hSS : ∀ b, S' b → S b) : ∀ (ps : List PSh) (ms : List (List Bool)) (yss : List (List V)) (bs : List Nat) (cps : List (List V)) (f : Nat → Nat → Value), ps.mapM capM = some ms → caps ms (yss.map .agg) = some cps → bs.length = yss.length →
    (∀ i (h : i < bs.length), S' bs[i]) → (∀ i (h : i < bs.length) (h' : i < yss.length), ∃ C ty fz, w.heap[bs[i]]? = some (.cells C ty fz) ∧ (fz.2 ≤ fz.1 ∨ C.size ≤ fz.1) ∧ C.toList = (List.range yss[i].length).map (f i)) →
    (∀ i (h : i < yss.length) j (h' : j < yss[i].length), yss[i][j] ≠ .undef) → (∀ i (h : i < yss.length) j (h' : j < yss[i].length), Rd P S' w yss[i][j] (f i j)) →
    PArgs P F S w ps cps (bs.map fun b => Value.pointer (some ⟨b, 0, none⟩))
  | [], ms, yss, bs, cps, f, hm, hc, hl, hs, hh, hu, hx => by
    cases hm
    cases yss with
    | nil =>
      cases hc
      have : bs = [] := List.eq_nil_of_length_eq_zero (by simpa using hl)
      subst this
      trivial
    | cons y yss => cases hc
  | p :: ps, ms, yss, bs, cps, f, hm, hc, hl, hs, hh, hu, hx => by
    simp only [List.mapM_cons, Option.bind_eq_bind, Option.bind_eq_some_iff, Option.pure_def, Option.some.injEq] at hm
    obtain ⟨m, hm1, ms', hms, rfl⟩ := hm
    cases yss with
    | nil => cases hc
    | cons ys yss =>
    cases bs with
    | nil => simp at hl
    | cons b bs =>
    simp only [List.map_cons, caps, Option.bind_eq_some_iff, Option.map_eq_some_iff] at hc
    obtain ⟨z, hz, cps', hcps, rfl⟩ := hc
    have ih := caps_args (F := F) hSS ps ms' yss bs cps' (fun i => f (i + 1)) hms hcps (by simpa using hl) (fun i hi => hs (i + 1) (by simpa using hi))
      (fun i hi hi' => hh (i + 1) (by simpa using hi) (by simpa using hi')) (fun i hi j hj => hu (i + 1) (by simpa using hi) j hj) (fun i hi j hj => hx (i + 1) (by simpa using hi) j hj)
    refine ⟨?_, ih⟩
    unfold capM at hm1
    split at hm1
    · rename_i qs
      split at hm1
      · rename_i hno
        cases hm1
        simp only [cap1] at hz
        split at hz
        · rename_i hzl
          cases hz
          obtain ⟨C, ty, fz, h1, h2, h3⟩ := hh 0 (by simp) (by simp)
          simp only [List.getElem_cons_zero] at h1 h3
          have hce : cellsAt w b = (List.range ys.length).map (f 0) := by simp only [cellsAt, h1]; exact h3
          have hql : ys.length = qs.length := by simpa using hzl.1
          refine ⟨b, rfl, ⟨C, ty, fz, h1, h2⟩, ⟨by rw [hce]; simp [hql], by rw [hce]; simp, fun i hi hi1 hi2 => ?_⟩, fun _ => ⟨hSS b (hs 0 (by simp)), hno⟩⟩
          have hnu := hu 0 (by simp) i (by simpa using hi1)
          have hrd := hx 0 (by simp) i (by simpa using hi1)
          simp only [List.getElem_cons_zero] at hnu hrd
          have hcv : (cellsAt w b)[i] = f 0 i := by simp [hce]
          refine ⟨hnu, ?_⟩
          rw [hcv]
          cases hq : qs[i] with
          | fz =>
            have hsc := maskOk_get hzl.2 i (by simp [hi, hq]) (ys[i]) (by simp [hi1])
            exact hrd.scalar hsc
          | lent => exact hrd.mono hSS (fun _ _ => rfl)
          | own =>
            have := List.all_eq_true.1 hno qs[i] (List.getElem_mem hi)
            rw [hq] at this
            cases this
        · cases hz
      · cases hm1
    · cases hm1
theorem SimPost.cut {F F' : Nat → Prop} {g : Sig} {ps : List PSh} {rs : List RSh} {cs cs' : List Value} {raw : List (List V)} {vs : List Value} (SP : SimPost P F w g cs' raw vs F' w') (h1 : argsB w g.ps cs' = argsB w ps cs) (h2 : backsOf g.ps cs' = backsOf ps cs) (h3 : g.rs = rs) :
    SimPost P F w ⟨ps, rs⟩ cs raw vs F' w' := by
  subst h3
  obtain ⟨a1, a2, a3, a4, a5, a6⟩ := SP
  rw [h1] at a1 a3 a6
  rw [h2] at a4 a5 a6
  exact ⟨a1, a2, a3, a4, a5, a6⟩
theorem copClo_ok (R : Rel P w0 M N α ν L a w) {sg : Sigs} {c : Call} {t : Nat} (hd : ∀ d, o.dst = some d → N.W d) (ho : o.op = .call c) (hc : c.callee = .value (.tmp t)) (hs : c.args.size = c.argTypes.size)
    {GW : World → Prop} (hgw : GWOK GW w0 M) (hsims : ∀ f k g, (k, g) ∈ sg f → Sim P GW f g (Φ f k)) (h : RM.out α (copClo P sg o.dst t (c.args.toList.zip c.argTypes.toList)) E) (hv : runIs Φ E.vis ν = some ν') : OpG P o a w (Goal P w0 M N (E.ap α o.dst) ν') := by
  unfold copClo at h
  rw [out_sl] at h
  split at h
  · rename_i a1 hsl
    simp only [out_bind, out_need, out_opt] at h
    obtain ⟨_, hok, ps, hps, h⟩ := h
    refine copG_ok R hd (fun ins outs pcs vals hsem => ?_) h hv
    simp only [List.cons_append, List.nil_append, List.map_cons, VArg.get] at hsem
    have H := R.slots t
    rw [hsl] at H
    have hne : a1 ≠ .dead ∧ ∀ k, a1 ≠ .gone k := by
      cases a1 <;> simp [okCap] at hok ⊢
    have H1 : RAs P L w [a1] (ν (sC t)) [a.tmps.getD t undef] := by
      cases a1 <;> first | (simp [okCap] at hok; done) | exact H
    obtain ⟨x, hx, hr⟩ := H1.single
    rw [hx] at hsem
    cases x with
    | clo gg ys =>
      simp only [VF.sem, Option.bind_eq_some_iff] at hsem
      obtain ⟨q, hq, cps, hcps, xss, hxss, raw, hraw, hvals⟩ := hsem
      obtain ⟨f0, hf0, hmem⟩ := List.mem_flatMap.1 (lookC_mem hq)
      obtain ⟨e1, g', hg', htk, hrs, hcm⟩ := cloC_mem hmem
      simp only at e1 hg' hcm
      subst e1
      have hsim := hsims gg q.1 g' hg'
      have hrd := okCap_rd hok hr (by simp) R.fs
      generalize hcv : a.tmps.getD t undef = cv at hrd
      cases hrd with
      | clo _ yss bs f hl hbs hh hu hxx =>
        have hev : a.eval (.tmp t) = .func (.func gg) #[] (bs.map fun b => Value.pointer (some ⟨b, 0, none⟩)).toArray := hcv
        have hgps : g'.ps = ps ++ g'.ps.drop ps.length := by
          conv => lhs; rw [← List.take_append_drop ps.length g'.ps]
          rw [htk]
        refine ⟨xss, raw, gg, c.args.map a.eval ++ (bs.map fun b => Value.pointer (some ⟨b, 0, none⟩)).toArray, ?_, hvals, run_enterC ho hc hsim.en hev, fun F S hFS hS hLS hPA hnd hbS hbm => ?_⟩
        · simpa [VArg.get, hx] using hxss
        rw [zip_eval (by simpa using hs)] at *
        have harr : c.args.map a.eval ++ (bs.map fun b => Value.pointer (some ⟨b, 0, none⟩)).toArray = (c.args.toList.map a.eval ++ bs.map fun b => Value.pointer (some ⟨b, 0, none⟩)).toArray := by
          apply Array.ext'; simp
        rw [harr]
        have hca := caps_args (P := P) (w := w) (F := F) hLS (g'.ps.drop ps.length) q.2 yss bs cps f hcm hcps hl hbs hh hu hxx
        have hPA' := hPA.append hca
        have hlen : ps.length = (c.args.toList.map a.eval).length := hPA.len
        obtain ⟨hB1, hB2⟩ := caps_roB (w := w) (cs := bs.map fun b => Value.pointer (some ⟨b, 0, none⟩)) hcm
        have hA : argsB w g'.ps (c.args.toList.map a.eval ++ bs.map fun b => Value.pointer (some ⟨b, 0, none⟩)) = argsB w ps (c.args.toList.map a.eval) := by
          rw [hgps, argsB_append hlen, hB1, List.append_nil]
        have hBk : backsOf g'.ps (c.args.toList.map a.eval ++ bs.map fun b => Value.pointer (some ⟨b, 0, none⟩)) = backsOf ps (c.args.toList.map a.eval) := by
          rw [hgps, backsOf_append hlen, hB2, List.append_nil]
        refine (hsim.calls F S w (xss ++ cps) _ raw hFS hS (by rw [hgps]; exact hPA') (by rw [hA]; exact hnd) (by rw [hA]; exact hbS) (hgw.gw w R.kp) (by rw [hA]; exact fun h0 => hgw.m0 (hbm 0 h0)) hraw).mono ?_
        rintro e w' ⟨vs, F', rfl, SP⟩
        exact ⟨vs, F', rfl, SP.cut hA hBk hrs⟩
    | _ => simp [VF.sem] at hsem
  · rw [out_no] at h; exact h.elim
end
end Go.Proofs.YtlhcgiegganbpaaDoorVs
set_option linter.unusedVariables false
set_option linter.unusedSimpArgs false
namespace Go.Proofs.YtlhcgiegganbpaaDoorVs
def VArg.pl : VArg → List Nat
  | .c i => [i]
  | .lit _ => []
def VI.rds (i : VI) : List Nat := (i.rd.map VArg.pl).flatten ++ (i.chk.map (·.1) ++ (i.asr.map (·.1) ++ i.dfn.map (·.1)))
def VG.wrs (g : VG) : List Nat := (match g.d with | some d => [sC d] | none => []) ++ (g.is.map (·.wr)).flatten
def VG.tch (g : VG) : List Nat := (match g.gd with | some (c, _) => [c] | none => []) ++ ((g.is.map VI.rds).flatten ++ g.wrs)
section
variable {Φ : Funs}
def agree (l : List Nat) (ν μ : Env) : Prop := ∀ c ∈ l, μ c = ν c
theorem VI.run_frame {i : VI} {ν ν' : Env} (h : i.run Φ ν = some ν') : ∀ c, c ∉ i.wr → ν' c = ν c := by
  obtain ⟨_, _, outs, _, _, rfl⟩ := VI.inv h
  intro c hc
  exact upds_else _ _ _ _ hc
theorem upds_agree : ∀ (cs : List Nat) (xss : List (List V)) (ν μ : Env), cs.length = xss.length → ∀ c, (c ∈ cs ∨ μ c = ν c) → μ.upds cs xss c = ν.upds cs xss c
  | [], [], ν, μ, _, c, h => by
    rcases h with h | h
    · simp at h
    · exact h
  | [], _ :: _, ν, μ, h, _, _ => by simp at h
  | _ :: _, [], ν, μ, h, _, _ => by simp at h
  | d :: cs, x :: xss, ν, μ, hl, c, h => by
    simp only [Env.upds]
    refine upds_agree cs xss _ _ (by simpa using hl) c ?_
    by_cases hd : c = d
    · subst hd; right; rw [upd_same, upd_same]
    · rcases h with h | h
      · rcases List.mem_cons.1 h with h | h
        · exact absurd h hd
        · exact .inl h
      · right; rw [upd_ne hd, upd_ne hd]; exact h
theorem VI.run_agree {i : VI} {ν ν' μ : Env} (h : i.run Φ ν = some ν') (ha : agree i.rds ν μ) : ∃ μ', i.run Φ μ = some μ' ∧ ∀ c, (c ∈ i.wr ∨ μ c = ν c) → μ' c = ν' c := by
  have e1 : i.rd.map (VArg.get μ) = i.rd.map (VArg.get ν) := by
    refine List.map_congr_left fun x hx => ?_
    cases x with
    | lit vs => rfl
    | c k => exact ha k (by simp only [VI.rds, List.mem_append]; exact .inl (List.mem_flatten.2 ⟨_, List.mem_map.2 ⟨_, hx, rfl⟩, by simp [VArg.pl]⟩))
  have e2 : i.chk.all (unitAt μ) = i.chk.all (unitAt ν) := by
    rw [Bool.eq_iff_iff, List.all_eq_true, List.all_eq_true]
    have : ∀ p ∈ i.chk, unitAt μ p = unitAt ν p := fun p hp => by
      simp only [unitAt]
      rw [ha p.1 (by simp only [VI.rds, List.mem_append]; exact .inr (.inl (List.mem_map.2 ⟨p, hp, rfl⟩)))]
    exact ⟨fun h p hp => by rw [← this p hp]; exact h p hp, fun h p hp => by rw [this p hp]; exact h p hp⟩
  have e3 : i.asr.all (trueAt μ) = i.asr.all (trueAt ν) := by
    rw [Bool.eq_iff_iff, List.all_eq_true, List.all_eq_true]
    have : ∀ p ∈ i.asr, trueAt μ p = trueAt ν p := fun p hp => by
      simp only [trueAt]
      rw [ha p.1 (by simp only [VI.rds, List.mem_append]; exact .inr (.inr (.inl (List.mem_map.2 ⟨p, hp, rfl⟩))))]
    exact ⟨fun h p hp => by rw [← this p hp]; exact h p hp, fun h p hp => by rw [this p hp]; exact h p hp⟩
  have e4 : i.dfn.all (defAt μ) = i.dfn.all (defAt ν) := by
    rw [Bool.eq_iff_iff, List.all_eq_true, List.all_eq_true]
    have : ∀ p ∈ i.dfn, defAt μ p = defAt ν p := fun p hp => by
      simp only [defAt]
      rw [ha p.1 (by simp only [VI.rds, List.mem_append]; exact .inr (.inr (.inr (List.mem_map.2 ⟨p, hp, rfl⟩))))]
    exact ⟨fun h p hp => by rw [← this p hp]; exact h p hp, fun h p hp => by rw [this p hp]; exact h p hp⟩
  unfold VI.run at h ⊢
  rw [e1, e2, e3, e4]
  split at h
  · rename_i hc
    rw [if_pos hc]
    simp only [Option.bind_eq_some_iff] at h ⊢
    obtain ⟨outs, h1, h2⟩ := h
    split at h2
    · rename_i hl
      cases h2
      refine ⟨_, ⟨outs, h1, by rw [if_pos hl]⟩, fun c hcc => ?_⟩
      exact upds_agree _ _ _ _ hl.symm c hcc
    · cases h2
  · cases h
theorem runIs_frame : ∀ {is : List VI} {ν ν' : Env}, runIs Φ is ν = some ν' → ∀ c, c ∉ (is.map (·.wr)).flatten → ν' c = ν c
  | [], ν, ν', h, c, _ => by cases h; rfl
  | i :: is, ν, ν', h, c, hc => by
    simp only [runIs, Option.bind_eq_some_iff] at h
    obtain ⟨ν1, h1, h2⟩ := h
    simp only [List.map_cons, List.flatten_cons, List.mem_append, not_or] at hc
    rw [runIs_frame h2 c hc.2, VI.run_frame h1 c hc.1]
theorem runIs_agree : ∀ {is : List VI} {ν ν' μ : Env}, runIs Φ is ν = some ν' → agree (is.map VI.rds).flatten ν μ → ∃ μ', runIs Φ is μ = some μ' ∧ ∀ c, (c ∈ (is.map (·.wr)).flatten ∨ μ c = ν c) → μ' c = ν' c
  | [], ν, ν', μ, h, ha => by
    cases h
    exact ⟨μ, rfl, fun c hc => hc.elim (by simp) id⟩
  | i :: is, ν, ν', μ, h, ha => by
    simp only [runIs, Option.bind_eq_some_iff] at h
    obtain ⟨ν1, h1, h2⟩ := h
    simp only [List.map_cons, List.flatten_cons] at ha
    obtain ⟨μ1, h3, h4⟩ := VI.run_agree h1 (fun c hc => ha c (List.mem_append_left _ hc))
    obtain ⟨μ2, h5, h6⟩ := runIs_agree h2 (μ := μ1) (fun c hc => h4 c (.inr (ha c (List.mem_append_right _ hc))))
    refine ⟨μ2, by simp only [runIs, h3, Option.bind_some, h5], fun c hc => h6 c ?_⟩
    simp only [List.map_cons, List.flatten_cons, List.mem_append] at hc
    rcases hc with (hc | hc) | hc
    · exact .inr (h4 c (.inl hc))
    · exact .inl hc
    · exact .inr (h4 c (.inr hc))
theorem undef_frame {ν : Env} {d : Option Nat} {c : Nat} (h : c ∉ (match d with | some d => [sC d] | none => [])) : ν.undef d c = ν c := by
  cases d with
  | none => rfl
  | some d => simp only [List.mem_singleton] at h; exact upd_ne h
theorem undef_agree {ν μ : Env} {d : Option Nat} {c : Nat} (h : c ∈ (match d with | some d => [sC d] | none => []) ∨ μ c = ν c) : μ.undef d c = ν.undef d c := by
  cases d with
  | none => exact h.elim (by simp) id
  | some d =>
    simp only [Env.undef]
    by_cases hd : c = sC d
    · subst hd; rw [upd_same, upd_same]
    · rw [upd_ne hd, upd_ne hd]
      exact h.elim (fun h => absurd (List.mem_singleton.1 h) hd) id
theorem VG.run_frame {g : VG} {ν ν' : Env} (h : g.run Φ ν = some ν') : ∀ c, c ∉ g.wrs → ν' c = ν c := by
  intro c hc
  simp only [VG.wrs, List.mem_append, not_or] at hc
  unfold VG.run at h
  split at h
  · exact runIs_frame h c hc.2
  · split at h
    · split at h
      · simp only [Option.bind_eq_some_iff] at h
        obtain ⟨ν1, h1, h2⟩ := h
        split at h2
        · cases h2; exact runIs_frame h1 c hc.2
        · cases h2
      · cases h; exact undef_frame hc.1
    · split at h
      · cases h; exact undef_frame hc.1
      · cases h
    · cases h
theorem VG.run_agree {g : VG} {ν ν' μ : Env} (h : g.run Φ ν = some ν') (ha : agree g.tch ν μ) : ∃ μ', g.run Φ μ = some μ' ∧ ∀ c, (c ∈ g.wrs ∨ μ c = ν c) → μ' c = ν' c := by
  have ha1 : agree (g.is.map VI.rds).flatten ν μ := fun c hc => ha c (by simp only [VG.tch, List.mem_append]; exact .inr (.inl hc))
  have ha2 : agree g.wrs ν μ := fun c hc => ha c (by simp only [VG.tch, List.mem_append]; exact .inr (.inr hc))
  unfold VG.run at h ⊢
  cases hg : g.gd with
  | none =>
    simp only [hg] at h ⊢
    obtain ⟨μ', h1, h2⟩ := runIs_agree h ha1
    refine ⟨μ', h1, fun c hc => h2 c ?_⟩
    rcases hc with hc | hc
    · exact .inr (ha2 c hc)
    · exact .inr hc
  | some p =>
    obtain ⟨k, want⟩ := p
    have hk : μ k = ν k := ha k (by simp [VG.tch, hg])
    simp only [hg, hk] at h ⊢
    split at h
    · rename_i b hb
      split at h
      · rename_i hbw
        simp only [if_pos hbw, Option.bind_eq_some_iff] at h ⊢
        obtain ⟨ν1, h1, h2⟩ := h
        obtain ⟨μ1, h3, h4⟩ := runIs_agree h1 ha1
        split at h2
        · rename_i hd
          cases h2
          refine ⟨μ1, ⟨μ1, h3, ?_⟩, fun c hc => h4 c ?_⟩
          · have : μ1.defd g.d = ν'.defd g.d := by
              cases hdd : g.d with
              | none => rfl
              | some d =>
                simp only [Env.defd]
                rw [h4 (sC d) (.inr (ha2 _ (by simp [VG.wrs, hdd])))]
            rw [this, if_pos hd]
          · rcases hc with hc | hc
            · exact .inr (ha2 c hc)
            · exact .inr hc
        · cases h2
      · rename_i hbw
        cases h
        simp only [if_neg hbw]
        refine ⟨_, rfl, fun c hc => undef_agree ?_⟩
        rcases hc with hc | hc
        · exact .inr (ha2 c hc)
        · exact .inr hc
    · split at h
      · rename_i hu
        cases h
        refine ⟨_, by rw [if_pos hu], fun c hc => undef_agree ?_⟩
        rcases hc with hc | hc
        · exact .inr (ha2 c hc)
        · exact .inr hc
      · cases h
    · cases h
def disj (l m : List Nat) : Bool := l.all fun c => !m.contains c
theorem disj_ok {l m : List Nat} (h : disj l m = true) {c : Nat} (hc : c ∈ l) : c ∉ m := by
  have := List.all_eq_true.1 h c hc
  simp only [Bool.not_eq_true'] at this
  exact not_mem_of this
def VG.comm (x y : VG) : Bool := disj x.wrs y.tch && disj y.wrs x.tch
theorem VG.swap {x y : VG} (hc : x.comm y = true) {ν ν1 ν2 : Env} (h1 : x.run Φ ν = some ν1) (h2 : y.run Φ ν1 = some ν2) : ∃ ν1', y.run Φ ν = some ν1' ∧ x.run Φ ν1' = some ν2 := by
  simp only [VG.comm, Bool.and_eq_true] at hc
  obtain ⟨c1, c2⟩ := hc
  obtain ⟨μ, h3, h4⟩ := VG.run_agree h2 (μ := ν) (fun c hcc => (VG.run_frame h1 c (fun hm => disj_ok c1 hm hcc)).symm)
  have h5 := VG.run_frame h3
  obtain ⟨μ2, h6, h7⟩ := VG.run_agree h1 (μ := μ) (fun c hcc => h5 c (fun hm => disj_ok c2 hm hcc))
  refine ⟨μ, h3, ?_⟩
  have : μ2 = ν2 := by
    funext c
    by_cases hx : c ∈ x.wrs
    · have hy : c ∉ y.wrs := fun hm => disj_ok c1 hx (by simp only [VG.tch, List.mem_append]; exact .inr (.inr hm))
      rw [h7 c (.inl hx), VG.run_frame h2 c hy]
    · by_cases hy : c ∈ y.wrs
      · rw [VG.run_frame h6 c hx, h4 c (.inl hy)]
      · rw [VG.run_frame h6 c hx, VG.run_frame h3 c hy, VG.run_frame h2 c hy, VG.run_frame h1 c hx]
  rw [← this]; exact h6
theorem runGs_take {x : VG} : ∀ {pre : List VG} {post : List VG} {ν νe : Env}, pre.all (fun y => y.comm x) = true → runGs Φ (pre ++ x :: post) ν = some νe → ∃ ν1, x.run Φ ν = some ν1 ∧ runGs Φ (pre ++ post) ν1 = some νe
  | [], post, ν, νe, _, h => by
    simp only [List.nil_append, runGs, Option.bind_eq_some_iff] at h
    exact h
  | y :: pre, post, ν, νe, hc, h => by
    simp only [List.all_cons, Bool.and_eq_true] at hc
    simp only [List.cons_append, runGs, Option.bind_eq_some_iff] at h
    obtain ⟨ν1, h1, h2⟩ := h
    obtain ⟨ν2, h3, h4⟩ := runGs_take hc.2 h2
    obtain ⟨ν3, h5, h6⟩ := VG.swap hc.1 h1 h3
    exact ⟨ν3, h5, by simp only [List.cons_append, runGs, h6, Option.bind_some, h4]⟩
end
end Go.Proofs.YtlhcgiegganbpaaDoorVs
set_option linter.unusedVariables false
set_option linter.unusedSimpArgs false
namespace Go.Proofs.YtlhcgiegganbpaaDoorVs
def sameBs : List (Nat × Bx) → RM Unit
  | [] => .ok ()
  | p :: r => .bx p.1 fun b => do
    RM.need (b == some p.2)
    sameBs r
def okSetb (E : Eff) : RM Unit :=
  if E.setb.all fun p => E.kill.contains (bxK p.1) then .ok () else do
    RM.need (E.kill.all fun k => k % 2 == 0)
    sameBs E.setb
def own1S : Sh → Sh
  | .one a => .one a
  | .agg as => .ogg as
  | _ => .one .dead
/-- what may be several values or nothing is read as several; which slots these are -/
def RM.ogg {β : Type} : RM β → List Nat → RM (β × List Nat)
  | .ok b, acc => .ok (b, acc)
  | .no, _ => .no
  | .sl s k, acc => .sl s fun h => match h with
    | .ogg as => (k (.agg as)).ogg (s :: acc)
    | h => (k h).ogg acc
  | .bx u k, acc => .bx u fun b => (k b).ogg acc
def Sh.un : Sh → Sh
  | .ogg as => .agg as
  | h => h
def Al.un (α : Al) (ck : List Nat) : Al := { α with sl := α.sl.zipIdx.map fun p => if ck.contains p.2 then p.1.un else p.1 }
def chkI (ck : List Nat) : List VI := if ck.isEmpty then [] else [{ f := .gather [], rd := [], wr := [], dfn := ck.map fun s => (sC s, 0) }]
/-- an instruction that never answers -/
def failVI (dst : Option Nat) : VI := { f := .call 0 0 [[(0, 0)]] (dst.toList.map fun _ => [none]), rd := [.lit [.undef]], wr := dst.toList.map sC }
theorem fail_run {Φ : Funs} {ν : Env} {dst : Option Nat} : (failVI dst).run Φ ν = none := by
  unfold VI.run
  split <;> rfl
/-- an operation's telling; behind a guard one that cannot be told never answers -/
def copG (P : Program) (sg : Sigs) (h : Nat) (o : Oper) : RM Eff := match o.guard with
  | none => cop P sg h o
  | some _ => (((cop P sg h o).ogg []).bind fun p => .ok { p.1 with vis := chkI p.2 ++ p.1.vis }).orElse (.ok { vis := [failVI o.dst], dst := .one (.v .fz) })
theorem slot_un (α : Al) (ck : List Nat) (s : Nat) : (α.un ck).slot s = if ck.contains s then (α.slot s).un else α.slot s := by
  simp only [Al.slot, Al.un, List.getD_eq_getElem?_getD, List.getElem?_map, List.getElem?_zipIdx]
  cases α.sl[s]? with
  | none => simp [Sh.un]
  | some h => simp
theorem ogg_sub {β : Type} {α : Al} : ∀ {m : RM β} {acc : List Nat} {b : β} {ck : List Nat}, RM.out α (m.ogg acc) (b, ck) → ∀ s ∈ acc, s ∈ ck
  | .ok b, acc, c, ck, h => by
    simp only [RM.ogg, out_ok, Prod.mk.injEq] at h
    obtain ⟨_, rfl⟩ := h
    exact fun s hs => hs
  | .no, acc, c, ck, h => by simp only [RM.ogg, out_no] at h
  | .sl s k, acc, c, ck, h => by
    simp only [RM.ogg, out_sl] at h
    split at h
    · exact fun x hx => ogg_sub h x (List.mem_cons_of_mem _ hx)
    · exact ogg_sub h
  | .bx u k, acc, c, ck, h => by
    simp only [RM.ogg, out_bx] at h
    exact ogg_sub h
theorem out_ogg {β : Type} {α : Al} : ∀ {m : RM β} {acc : List Nat} {b : β} {ck : List Nat}, RM.out α (m.ogg acc) (b, ck) → (∀ s ∈ ck, s ∈ ck) → RM.out (α.un ck) m b
  | .ok b, acc, c, ck, h, _ => by
    simp only [RM.ogg, out_ok, Prod.mk.injEq] at h
    obtain ⟨rfl, _⟩ := h
    exact (out_ok _ _).2 rfl
  | .no, acc, c, ck, h, _ => by simp only [RM.ogg, out_no] at h
  | .sl s k, acc, c, ck, h, hh => by
    simp only [RM.ogg, out_sl] at h ⊢
    rw [slot_un]
    split at h
    · rename_i as hs
      have := ogg_sub h s List.mem_cons_self
      rw [if_pos (List.contains_iff_mem.2 this), hs]
      exact out_ogg h hh
    · rename_i hn
      have e : (α.slot s).un = α.slot s := by
        cases hsl : α.slot s with
        | ogg as => exact absurd hsl (hn as)
        | _ => rfl
      rw [e, ite_self]
      exact out_ogg h hh
  | .bx u k, acc, c, ck, h, hh => by
    simp only [RM.ogg, out_bx] at h ⊢
    exact out_ogg h hh
theorem chkI_run {Φ : Funs} {ck : List Nat} {is : List VI} {ν ν' : Env} (h : runIs Φ (chkI ck ++ is) ν = some ν') : runIs Φ is ν = some ν' ∧ ∀ s ∈ ck, defAt ν (sC s, 0) = true := by
  unfold chkI at h
  split at h
  · rename_i he
    exact ⟨h, fun s hs => by rw [List.isEmpty_iff.1 he] at hs; cases hs⟩
  · simp only [List.cons_append, List.nil_append, runIs, Option.bind_eq_some_iff] at h
    obtain ⟨ν1, h1, h2⟩ := h
    have h3 := VI.inv_dfn h1
    simp only [VI.run] at h1
    split at h1
    · simp only [Option.bind_eq_some_iff] at h1
      obtain ⟨outs, h4, h5⟩ := h1
      simp only [List.map_nil, VF.sem, List.mapM_nil] at h4
      cases h4
      simp at h5
      subst h5
      exact ⟨h2, fun s hs => List.all_eq_true.1 h3 _ (List.mem_map.2 ⟨s, hs, rfl⟩)⟩
    · cases h1
/-- an operation's telling is that of the plain operation, where some slots are known to hold something -/
theorem copG_out {P : Program} {sg : Sigs} {h : Nat} {o : Oper} {α : Al} {E : Eff} {Φ : Funs} {ν ν' : Env} (h1 : RM.out α (copG P sg h o) E) (hr : runIs Φ E.vis ν = some ν') :
    ∃ ck E0, RM.out (α.un ck) (cop P sg h o) E0 ∧ E = { E0 with vis := E.vis } ∧ runIs Φ E0.vis ν = some ν' ∧ ∀ s ∈ ck, defAt ν (sC s, 0) = true := by
  unfold copG at h1
  split at h1
  · refine ⟨[], E, ?_, rfl, hr, by simp⟩
    have : α.un [] = α := by
      obtain ⟨sl, bx⟩ := α
      simp only [Al.un, Al.mk.injEq, and_true]
      apply List.ext_getElem <;> simp
    rw [this]; exact h1
  · rcases out_orElse _ _ _ h1 with h2 | h2
    · rw [out_bind'] at h2
      obtain ⟨⟨E0, ck⟩, h3, h4⟩ := h2
      rw [out_ok] at h4
      subst h4
      obtain ⟨h5, h6⟩ := chkI_run hr
      exact ⟨ck, E0, out_ogg h3 (fun _ h => h), rfl, h5, h6⟩
    · rw [out_ok] at h2
      subst h2
      simp [runIs, fail_run] at hr
/-- one operation of a region; G: the slots whose 'undef' is Go's own -/
def stepOp (P : Program) (sg : Sigs) (h : Nat) (ops : Array Oper) (G : List Nat) (o : Oper) : RM (VG × Eff) := do
  let E ← copG P sg h o
  RM.need (E.vis.all fun i => i.wr.all fun c => c % 3 != 0 || o.dst == some (c / 3))
  match o.guard with
  | none => .ok ({ d := o.dst, is := E.vis }, E)
  | some (j, want) => match (ops[j]?).bind (·.dst) with
    | none => .no
    | some gs => .sl gs fun gh => match gh with
      | .one (.v _) => do
        okSetb E
        .ok ({ gd := some (sC gs, want), d := o.dst, is := E.vis, ud := G.contains gs }, { E with dst := own1S E.dst })
      | _ => .no
/-- .. the quick way -/
def Eff.apF (E : Eff) (α : Al) (d : Option Nat) : Al := match E with
  | ⟨_, [], [], sb, h⟩ => match d with
    | some d => (α.setBs sb).setS d h
    | none => α.setBs sb
  | E => E.ap α d
theorem apF_eq (E : Eff) (α : Al) (d : Option Nat) : E.apF α d = E.ap α d := by
  obtain ⟨vis, ks, st, sb, h⟩ := E
  cases ks with
  | cons => rfl
  | nil =>
    cases st with
    | cons => rfl
    | nil =>
      have e : (α.map (At.stale [])).map (At.kill []) = α := by rw [ap_sk, Al.sk_nil]
      simp only [Eff.apF, Eff.ap, e]
      cases d <;> rfl
def stepG (G : List Nat) (o : Oper) : List Nat := match o.dst with
  | none => G
  | some d => if o.guard.isSome then d :: G else G.filter (· != d)
section
variable {P : Program} {w0 : World} {M : Nat → Prop} {N : Fr} {α : Al} {ν ν' : Env} {L : Lay} {a : Act} {w w' : World} {Φ : Funs} {o : Oper} {d : Nat} {E : Eff}
theorem sameBs_ok : ∀ {l : List (Nat × Bx)} {c : Unit}, RM.out α (sameBs l) c → ∀ p ∈ l, α.box p.1 = some p.2
  | [], c, _ => by simp
  | p :: r, c, h => by
    simp only [sameBs, out_bx, out_bind, out_need, beq_iff_eq] at h
    obtain ⟨_, h1, h2⟩ := h
    intro q hq
    rcases List.mem_cons.1 hq with rfl | hq
    · exact h1
    · exact sameBs_ok h2 q hq
theorem okSetb_ok {c : Unit} (h : RM.out α (okSetb E) c) : (∀ p ∈ E.setb, bxK p.1 ∈ E.kill) ∨ ((∀ u, bxK u ∉ E.kill) ∧ ∀ p ∈ E.setb, α.box p.1 = some p.2) := by
  unfold okSetb at h
  split at h
  · rename_i hs
    left
    intro p hp
    have := List.all_eq_true.1 hs p hp
    exact List.contains_iff_mem.1 this
  · simp only [out_bind, out_need] at h
    obtain ⟨_, h1, h2⟩ := h
    refine .inr ⟨fun u hu => ?_, sameBs_ok h2⟩
    have := List.all_eq_true.1 h1 _ hu
    simp only [bxK, beq_iff_eq] at this
    omega
theorem Rel.sk (R : Rel P w0 M N α ν L a w) (st ks : List Nat) : Rel P w0 M N (α.sk st ks) ν L a w where
  nt := R.nt
  nd := R.nd
  kp := R.kp
  fs := R.fs
  sl := R.sl
  slots s := by
    rw [Al.sk, slot_map _ (sk_dead st ks)]
    exact (R.slots s).ext (Ext.refl L w R.fs ks st)
  rows := R.rows
  boxes u b ro hu x hx := by
    rw [Al.sk, box_map] at hx
    simp only [Option.map_eq_some_iff] at hx
    obtain ⟨y, hy, rfl⟩ := hx
    obtain ⟨h1, h2⟩ := R.boxes u b ro hu y hy
    exact ⟨h1, h2.ext (Ext.refl L w R.fs ks st) rfl⟩
  rowmine := R.rowmine
  boxmine := R.boxmine
  boxro := R.boxro
  rr := R.rr
  rb := R.rb
  bb := R.bb
def Lay.forget (L : Lay) (ks : List Nat) : Lay := { L with box := fun u => if bxK u ∈ ks then none else L.box u }
theorem forget_box {ks : List Nat} {u b : Nat} {ro : Bool} (h : (L.forget ks).box u = some (b, ro)) : bxK u ∉ ks ∧ L.box u = some (b, ro) := by
  simp only [Lay.forget] at h
  split at h
  · cases h
  · rename_i hn; exact ⟨hn, h⟩
theorem Rel.forget (R : Rel P w0 M N α ν L a w) (st ks : List Nat) : Rel P w0 M N (α.sk st ks) ν (L.forget ks) a w := by
  have E : Ext L (L.forget ks) w w ks st := ⟨fun _ h => h, fun _ h => h, R.fs, fun _ _ => rfl, fun _ _ _ h => h, fun _ _ _ _ _ _ _ => rfl, fun u b ro h1 h2 => by simp only [Lay.forget, if_neg h1]; exact h2⟩
  refine ⟨R.nt, R.nd, R.kp, R.fs, R.sl, fun s => ?_, R.rows, fun u b ro hu x hx => ?_, R.rowmine, fun u b hu => R.boxmine u b (forget_box hu).2, fun u b hu => R.boxro u b (forget_box hu).2, R.rr, fun t r u b ro h h1 hu => R.rb t r u b ro h h1 (forget_box hu).2, fun u u' b ro h h' => R.bb u u' b ro (forget_box h).2 (forget_box h').2⟩
  · rw [Al.sk, slot_map _ (sk_dead st ks)]
    exact (R.slots s).ext E
  · rw [Al.sk, box_map] at hx
    simp only [Option.map_eq_some_iff] at hx
    obtain ⟨y, hy, rfl⟩ := hx
    obtain ⟨h1, h2⟩ := R.boxes u b ro (forget_box hu).2 y hy
    exact ⟨h1, h2.ext E rfl⟩
theorem Rel.setBs_ok (R : Rel P w0 M N α ν L a w) {l : List (Nat × Bx)} (h : ∀ p ∈ l, ∀ b ro, L.box p.1 = some (b, ro) → p.2.ro = ro ∧ BoxOK P L w b p.2.as (ν (bC p.1))) : Rel P w0 M N (α.setBs l) ν L a w := by
  refine ⟨R.nt, R.nd, R.kp, R.fs, R.sl, fun s => by rw [slot_setBs]; exact R.slots s, R.rows, fun u b ro hu x hx => ?_, R.rowmine, R.boxmine, R.boxro, R.rr, R.rb, R.bb⟩
  rw [box_setBs'] at hx
  cases hs : setbOf l u with
  | some y =>
    rw [hs] at hx
    cases hx
    exact h (u, x) (List.mem_reverse.1 (find_mem hs)) b ro hu
  | none => rw [hs] at hx; exact R.boxes u b ro hu x hx
/-- an operation that is not wanted -/
theorem Rel.skip (R : Rel P w0 M N α ν L a w) {dst : Option Nat} (hd : ∀ d, dst = some d → N.W d) (hdst : (∃ a1, E.dst = .one a1) ∨ ∃ as, E.dst = .ogg as) (hsb : (∀ p ∈ E.setb, bxK p.1 ∈ E.kill) ∨ ((∀ u, bxK u ∉ E.kill) ∧ ∀ p ∈ E.setb, α.box p.1 = some p.2)) :
    Goal P w0 M N (E.ap α dst) (ν.undef dst) (a.put dst undef) w := by
  have key : ∃ L', Rel P w0 M N ((α.sk E.stale E.kill).setBs E.setb) ν L' a w := by
    rcases hsb with h | ⟨h1, h2⟩
    · exact ⟨_, (R.forget E.stale E.kill).setBs_ok (fun p hp b ro hb => absurd (h p hp) (forget_box hb).1)⟩
    · exact ⟨_, (R.sk E.stale E.kill).setBs_ok (fun p hp b ro hb => R.boxes p.1 b ro hb p.2 (h2 p hp))⟩
  obtain ⟨L', R'⟩ := key
  cases dst with
  | none =>
    refine ⟨L', ?_⟩
    simp only [Eff.ap, ap_sk]
    exact R'
  | some d =>
    have : RSl P L' w E.dst [.undef] undef := by
      rcases hdst with ⟨a1, ha⟩ | ⟨as, ha⟩
      · rw [ha]; exact RSl.one (RAs.one (.inl rfl))
      · rw [ha]; exact .inr ⟨rfl, rfl⟩
    refine ⟨L', ?_⟩
    simp only [Eff.ap, ap_sk]
    exact R'.put (hd d rfl) this
theorem wp_put {K : Act → World → Prop} {Q : Exit → Act → World → Prop} (h : o.wp P a w K Q) (hK : ∀ a' w', K a' w' → a'.defers = []) : o.wp P a w (fun a' w' => K a' w' ∧ ∃ v, a' = a.put o.dst v) Q := by
  unfold Oper.wp at *
  generalize (execOp a.eval o).run P w = r at *
  cases r with
  | ok n w' =>
    cases n <;> simp only [Oper.upon] at h ⊢ <;>
      first
        | exact ⟨h, _, rfl⟩
        | exact Calls.mono h (fun e w'' he => by cases e <;> first | exact ⟨he, _, rfl⟩ | exact he)
        | exact Rows.mono h (fun _ _ he => ⟨he, _, rfl⟩)
        | (have := hK _ _ h; cases hdst : o.dst <;> simp [Act.put, hdst] at this)
        | exact h
  | halt x w' => cases x <;> simp only [Oper.upon] at h ⊢ <;> exact h
theorem yielded_of {ops : Array Oper} {tmps : Array Value} {j gs : Nat} {b : Bool} (hj : (ops[j]?).bind (·.dst) = some gs) (h : tmps.getD gs undef = .bool b) : yielded ops tmps j = some b := by
  unfold yielded
  rw [hj]
  simp only [Array.getD_eq_getD_getElem?] at h
  simp only [Option.bind_some]
  cases ht : tmps[gs]? with
  | none => rw [ht] at h; cases h
  | some v => rw [ht] at h; simp only [Option.getD_some] at h; subst h; rfl
theorem yielded_no {ops : Array Oper} {tmps : Array Value} {j gs : Nat} (hj : (ops[j]?).bind (·.dst) = some gs) (h : tmps.getD gs undef = undef) : yielded ops tmps j = none := by
  unfold yielded
  rw [hj]
  simp only [Array.getD_eq_getD_getElem?] at h
  simp only [Option.bind_some]
  cases ht : tmps[gs]? with
  | none => rfl
  | some v => rw [ht] at h; simp only [Option.getD_some] at h; subst h; rfl
def GInv (G : List Nat) (ν : Env) (a : Act) : Prop := ∀ s ∈ G, ν (sC s) = [.undef] → a.tmps.getD s undef = undef
/-- all functions that a step may call do what Φ says -/
def Sims (P : Program) (w0 : World) (M : Nat → Prop) (sg : Sigs) (Φ : Funs) : Prop := ∃ GW : World → Prop, GWOK GW w0 M ∧ ∀ f k g, (k, g) ∈ sg f → Sim P GW f g (Φ f k)
theorem GInv.step {G : List Nat} {ν ν' : Env} {a : Act} (h : GInv G ν a) {o : Oper} (v : Value) (hN : ∀ d, o.dst = some d → d < a.tmps.size) (hν : ∀ s, o.dst ≠ some s → ν' (sC s) = ν (sC s)) (hd : ∀ d, o.dst = some d → o.guard.isSome = true → ν' (sC d) = [.undef] → v = undef) : GInv (stepG G o) ν' (a.put o.dst v) := by
  intro s hs hu
  cases hdst : o.dst with
  | none =>
    simp only [stepG, hdst] at hs
    rw [hν s (by rw [hdst]; simp)] at hu
    exact h s hs hu
  | some d =>
    simp only [stepG, hdst] at hs
    rw [getD_put a d v s (hN d hdst)]
    by_cases hsd : s = d
    · subst hsd
      rw [if_pos rfl]
      split at hs
      · rename_i hg; exact hd s hdst hg hu
      · simp at hs
    · rw [if_neg hsd]
      rw [hν s (by rw [hdst]; simpa using fun e => hsd e.symm)] at hu
      refine h s ?_ hu
      split at hs
      · rcases List.mem_cons.1 hs with h1 | h1
        · exact absurd h1 hsd
        · exact h1
      · exact (List.mem_filter.1 hs).1
theorem wr_slots {E : Eff} {dst : Option Nat} (h : (E.vis.all fun i => i.wr.all fun c => c % 3 != 0 || dst == some (c / 3)) = true) {s : Nat} (hs : dst ≠ some s) : sC s ∉ (E.vis.map (·.wr)).flatten := by
  intro hm
  obtain ⟨i, hi, hc⟩ := mem_flat.1 hm
  have := List.all_eq_true.1 (List.all_eq_true.1 h i hi) _ hc
  simp only [sC, Nat.mul_mod_right, bne_self_eq_false, Bool.false_or, beq_iff_eq] at this
  rw [Nat.mul_div_cancel_left s (by omega)] at this
  exact hs this
theorem Rel.deadS {h : Sh} (R : Rel P w0 M N (α.setS d h) ν L a w) : Rel P w0 M N (α.setS d (.one .dead)) ν L a w := by
  refine ⟨R.nt, R.nd, R.kp, R.fs, R.sl, fun s => ?_, R.rows, R.boxes, R.rowmine, R.boxmine, R.boxro, R.rr, R.rb, R.bb⟩
  have := R.slots s
  rw [slot_setS] at this ⊢
  split at this
  · rename_i hc; rw [if_pos hc]; trivial
  · rename_i hc; rw [if_neg hc]; exact this
theorem Rel.oggS {as : List At} (R : Rel P w0 M N (α.setS d (.agg as)) ν L a w) : Rel P w0 M N (α.setS d (.ogg as)) ν L a w := by
  refine ⟨R.nt, R.nd, R.kp, R.fs, R.sl, fun s => ?_, R.rows, R.boxes, R.rowmine, R.boxmine, R.boxro, R.rr, R.rb, R.bb⟩
  have := R.slots s
  rw [slot_setS] at this ⊢
  split at this
  · rename_i hc; rw [if_pos hc]; exact .inl this
  · rename_i hc; rw [if_neg hc]; exact this
theorem Rel.un (R : Rel P w0 M N α ν L a w) {ck : List Nat} (h : ∀ s ∈ ck, defAt ν (sC s, 0) = true) : Rel P w0 M N (α.un ck) ν L a w := by
  refine ⟨R.nt, R.nd, R.kp, R.fs, R.sl, fun s => ?_, R.rows, R.boxes, R.rowmine, R.boxmine, R.boxro, R.rr, R.rb, R.bb⟩
  have H := R.slots s
  rw [slot_un]
  split
  · rename_i hc
    cases hs : α.slot s with
    | ogg as =>
      rw [hs] at H
      rcases H with H | ⟨_, hx⟩
      · exact H
      · have := h s (List.contains_iff_mem.1 hc)
        simp [defAt, hx] at this
    | _ => rw [hs] at H; exact H
  · exact H
theorem slot_ap (E : Eff) (α : Al) (dst : Option Nat) (s : Nat) : (E.ap α dst).slot s = if dst = some s ∧ s < α.sl.length then E.dst else (α.slot s).map (At.sk E.stale E.kill) := by
  have h1 : ((α.sk E.stale E.kill).setBs E.setb).slot s = (α.slot s).map (At.sk E.stale E.kill) := by
    rw [slot_setBs, Al.sk, slot_map _ (sk_dead _ _)]
  have h2 : ∀ l (β : Al), (β.setBs l).sl = β.sl := by
    intro l
    induction l with
    | nil => intro β; rfl
    | cons p r ih => intro β; rw [Al.setBs, ih]; rfl
  cases dst with
  | none => simp only [Eff.ap, ap_sk, h1]; simp
  | some d =>
    simp only [Eff.ap, ap_sk]
    rw [slot_setS, h1, h2]
    have : (α.sk E.stale E.kill).sl.length = α.sl.length := by simp [Al.sk, Al.map]
    rw [this]
    by_cases hd : s = d
    · subst hd; simp
    · have : ¬ (some d = some s) := by simpa using fun e => hd e.symm
      rw [if_neg (fun h => hd h.1), if_neg (fun h => this h.1)]
theorem Goal.un {ck : List Nat} {dst : Option Nat} (G : Goal P w0 M N (E.ap (α.un ck) dst) ν a w) : Goal P w0 M N (E.ap α dst) ν a w := by
  obtain ⟨L, R⟩ := G
  have hb : (E.ap (α.un ck) dst).box = (E.ap α dst).box := by
    funext u
    have h2 : ∀ β : Al, (E.ap β dst).box u = ((β.sk E.stale E.kill).setBs E.setb).box u := fun β => by
      cases dst <;> simp only [Eff.ap, ap_sk] <;> rfl
    rw [h2, h2, box_setBs', box_setBs']
    rfl
  refine ⟨L, R.nt, R.nd, R.kp, R.fs, R.sl, fun s => ?_, R.rows, fun u b ro hu x hx => R.boxes u b ro hu x (by rw [hb]; exact hx), R.rowmine, R.boxmine, R.boxro, R.rr, R.rb, R.bb⟩
  have H := R.slots s
  rw [slot_ap] at H ⊢
  have hlen : (α.un ck).sl.length = α.sl.length := by simp [Al.un]
  rw [hlen] at H
  split at H
  · rename_i hc; rw [if_pos hc]; exact H
  · rename_i hc
    rw [if_neg hc]
    rw [slot_un] at H
    split at H
    · cases hs : α.slot s with
      | ogg as => rw [hs] at H; exact .inl H
      | _ => rw [hs] at H; exact H
    · exact H
/-- a step of a region -/
theorem stepOp_gen {sg : Sigs} {W : (Act → World → Prop) → Prop} (hmono : ∀ K K' : Act → World → Prop, (∀ a w, K a w → K' a w) → W K → W K') {k : Nat} {ops : Array Oper} {G : List Nat} {g : VG} {K : Act → World → Prop} (R : Rel P w0 M N α ν L a w) (hG : GInv G ν a) (hd : ∀ d, o.dst = some d → N.W d) 
    (hrun : ∀ α1, Rel P w0 M N α1 ν L a w → ∀ E0 ν1, RM.out α1 (cop P sg k o) E0 → runIs Φ E0.vis ν = some ν1 → W (fun a' w' => Goal P w0 M N (E0.ap α1 o.dst) ν1 a' w' ∧ ∃ v, a' = a.put o.dst v))
    (h : RM.out α (stepOp P sg k ops G o) (g, E)) (hv : g.run Φ ν = some ν') (hK : ∀ a' w' L', Rel P w0 M N (E.ap α o.dst) ν' L' a' w' → GInv (stepG G o) ν' a' → K a' w') : if Region.wanted o (yielded ops a.tmps) = true then W K else K (a.put o.dst undef) w := by
  simp only [stepOp, out_bind, out_need] at h
  obtain ⟨E0, h0, _, hwr, h⟩ := h
  have hNa : ∀ d, o.dst = some d → d < a.tmps.size := fun d hd' => by rw [R.nt.size]; exact (hd d hd').1
  have run0 : ∀ ν1, runIs Φ E0.vis ν = some ν1 → W (fun a' w' => Goal P w0 M N (E0.ap α o.dst) ν1 a' w' ∧ ∃ v, a' = a.put o.dst v) := fun ν1 hr => by
    obtain ⟨ck, E1, h1, h2, h3, h4⟩ := copG_out h0 hr
    refine hmono _ _ ?_ (hrun _ (R.un h4) E1 ν1 h1 h3)
    rintro a' w' ⟨hg, v, hv⟩
    refine ⟨?_, v, hv⟩
    have e1 : E0.ap α o.dst = E1.ap α o.dst := by rw [h2]; rfl
    rw [e1]
    exact hg.un
  have hfr : ∀ ν1, runIs Φ E0.vis ν = some ν1 → ∀ s, o.dst ≠ some s → ν1 (sC s) = ν (sC s) := fun ν1 hr s hs => runIs_frame hr _ (wr_slots hwr hs)
  cases hgd : o.guard with
  | none =>
    simp only [hgd, out_ok, Prod.mk.injEq] at h
    obtain ⟨rfl, rfl⟩ := h
    have hw : Region.wanted o (yielded ops a.tmps) = true := by simp [Region.wanted, hgd]
    rw [if_pos hw]
    have hr : runIs Φ E.vis ν = some ν' := hv
    refine hmono _ _ ?_ (run0 ν' hr)
    rintro a' w' ⟨⟨L', R'⟩, v, rfl⟩
    exact hK _ _ L' R' (hG.step v hNa (hfr ν' hr) (fun d _ hg => by rw [hgd] at hg; cases hg))
  | some p =>
    obtain ⟨j, want⟩ := p
    simp only [hgd] at h
    split at h
    · rw [out_no] at h; exact h.elim
    · rename_i gs hj
      rw [out_sl] at h
      split at h
      · rename_i src hsl
        simp only [out_bind, out_ok, Prod.mk.injEq] at h
        obtain ⟨_, hsb, rfl, rfl⟩ := h
        have hsb' := okSetb_ok hsb
        have hgslot := R.slots gs
        rw [hsl] at hgslot
        obtain ⟨y, hy, hry⟩ := v_of hgslot
        simp only [VG.run, hy] at hv
        have hnot : ∀ hw : Region.wanted o (yielded ops a.tmps) = false, ν' = ν.undef o.dst → (if Region.wanted o (yielded ops a.tmps) = true then W K else K (a.put o.dst undef) w) := by
          intro hw hν
          rw [if_neg (by rw [hw]; simp)]
          subst hν
          obtain ⟨L', R'⟩ := R.skip (E := { E0 with dst := own1S E0.dst }) hd (by unfold own1S; cases E0.dst <;> first | exact .inl ⟨_, rfl⟩ | exact .inr ⟨_, rfl⟩) hsb'
          refine hK _ _ L' R' (hG.step undef hNa (fun s hs => ?_) (fun _ _ _ _ => rfl))
          cases hdst : o.dst with
          | none => rfl
          | some d => exact upd_ne (fun e => hs (by rw [hdst, sC_inj e]))
        split at hv
        · rename_i b hb
          simp only [List.cons.injEq, and_true] at hb
          subst hb
          have hbv : a.tmps.getD gs undef = .bool b := by
            rcases hry with h | h
            · cases h
            · exact h.bool_inv
          have hyl := yielded_of (ops := ops) hj hbv
          split at hv
          · rename_i hbw
            subst hbw
            simp only [Option.bind_eq_some_iff] at hv
            obtain ⟨ν1, hr, hv⟩ := hv
            split at hv
            · rename_i hdf
              cases hv
              have hw : Region.wanted o (yielded ops a.tmps) = true := by simp [Region.wanted, hgd, hyl]
              rw [if_pos hw]
              refine hmono _ _ ?_ (run0 _ hr)
              rintro a' w' ⟨⟨L', R'⟩, v, rfl⟩
              have R2 : ∃ L2, Rel P w0 M N (Eff.ap { E0 with dst := own1S E0.dst } α o.dst) ν' L2 (a.put o.dst v) w' := by
                cases hdst : o.dst with
                | none => exact ⟨L', by rw [hdst] at R'; exact R'⟩
                | some d =>
                  rw [hdst] at R'
                  simp only [Eff.ap] at R' ⊢
                  unfold own1S
                  split
                  · rename_i a1 he; rw [he] at R'; exact ⟨L', R'⟩
                  · rename_i as he; rw [he] at R'; exact ⟨L', R'.oggS⟩
                  · exact ⟨L', R'.deadS⟩
              obtain ⟨L2, R2⟩ := R2
              refine hK _ _ L2 R2 (hG.step v hNa (hfr _ hr) (fun d hdst _ hu => ?_))
              simp only [Env.defd, hdst, hu] at hdf
              cases hdf
            · cases hv
          · rename_i hbw
            cases hv
            exact hnot (by simp [Region.wanted, hgd, hyl, hbw]) rfl
        · rename_i hb
          simp only [List.cons.injEq, and_true] at hb
          subst hb
          split at hv
          · rename_i hud
            cases hv
            have hyl := yielded_no (ops := ops) hj (hG gs (by simpa using hud) hy)
            exact hnot (by simp [Region.wanted, hgd, hyl]) rfl
          · cases hv
        · cases hv
      · rw [out_no] at h; exact h.elim
/-- a step of a region -/
theorem stepOp_if {sg : Sigs} {k : Nat} {ops : Array Oper} {G : List Nat} {g : VG} {K : Act → World → Prop} {Q : Exit → Act → World → Prop} (R : Rel P w0 M N α ν L a w) (hG : GInv G ν a) (hd : ∀ d, o.dst = some d → N.W d) (hsims : Sims P w0 M sg Φ)
    (h : RM.out α (stepOp P sg k ops G o) (g, E)) (hv : g.run Φ ν = some ν') (hK : ∀ a' w' L', Rel P w0 M N (E.ap α o.dst) ν' L' a' w' → GInv (stepG G o) ν' a' → K a' w') : if Region.wanted o (yielded ops a.tmps) = true then o.wp P a w K Q else K (a.put o.dst undef) w := by
  obtain ⟨GW, hgw, hsims⟩ := hsims
  exact stepOp_gen (W := fun K => o.wp P a w K Q) (fun K K' h1 h2 => Oper.wp_mono h1 h2) R hG hd (fun α1 R E0 ν1 h0 hr =>
    wp_put (cop_ok R hd h0 hr (fun c f k gg h1 h2 h3 h4 h5 => copFunc_ok R hd h1 h2 h4 hgw (hsims f k gg h3) h5 hr) (fun c t h1 h2 h4 h5 => copClo_ok R hd h1 h2 h4 hgw hsims h5 hr) Q) (fun a' w' ⟨L', R'⟩ => R'.nd.nd)) h hv hK
/-- a step that only reads -/
theorem stepOp_read {sg : Sigs} {k : Nat} {ops : Array Oper} {G : List Nat} {g : VG} {K : Act → World → Prop} (R : Rel P w0 M N α ν L a w) (hG : GInv G ν a) (hd : ∀ d, o.dst = some d → N.W d) (hrd : isRd o = true)
    (h : RM.out α (stepOp P sg k ops G o) (g, E)) (hv : g.run Φ ν = some ν') (hK : ∀ a' w' L', Rel P w0 M N (E.ap α o.dst) ν' L' a' w' → GInv (stepG G o) ν' a' → K a' w') : ∃ v, YieldsAt P ops w o v a ∧ K (a.put o.dst v) w := by
  have := stepOp_gen (W := fun K => ∃ v, (execOp a.eval o).run P w = .ok (.value v) w ∧ K (a.put o.dst v) w) (fun K K' h1 ⟨v, h2, h3⟩ => ⟨v, h2, h1 _ _ h3⟩) R hG hd (fun α1 R E0 ν1 h0 hr => by
    obtain ⟨v, h1, h2⟩ := copR_ok R hd hrd h0 hr
    exact ⟨v, h1, h2, v, rfl⟩) h hv hK
  by_cases hw : Region.wanted o (yielded ops a.tmps) = true
  · rw [if_pos hw] at this
    obtain ⟨v, h1, h2⟩ := this
    exact ⟨v, .inl ⟨hw, .inl h1⟩, h2⟩
  · rw [if_neg hw] at this
    exact ⟨undef, .inr ⟨by simpa using hw, rfl⟩, this⟩
theorem stepOp_ok {sg : Sigs} {k i : Nat} {ops : Array Oper} {G : List Nat} {g : VG} {K : Act → World → Prop} {Q : Exit → Act → World → Prop} (R : Rel P w0 M N α ν L a w) (hG : GInv G ν a) (hd : ∀ d, o.dst = some d → N.W d) (hi : ops[i]? = some o) (hsims : Sims P w0 M sg Φ)
    (h : RM.out α (stepOp P sg k ops G o) (g, E)) (hv : g.run Φ ν = some ν') (hK : ∀ a' w' L', Rel P w0 M N (E.ap α o.dst) ν' L' a' w' → GInv (stepG G o) ν' a' → K a' w') : wpOp P ops Q i K a w := by
  have := stepOp_if (K := K) (Q := Q) R hG hd hsims h hv hK
  unfold wpOp
  simp only [hi]
  split
  · rename_i hw; rw [if_pos hw] at this; exact .inl this
  · rename_i hw; rw [if_neg hw] at this; exact this
/-- a move, taken at once -/
theorem stepOp_move {sg : Sigs} {k : Nat} {ops : Array Oper} {G : List Nat} {g : VG} {K : Act → World → Prop} {Q : Exit → Act → World → Prop} {x : Operand} (R : Rel P w0 M N α ν L a w) (hG : GInv G ν a) (hd : ∀ d, o.dst = some d → N.W d) (ho : o.op = .move x) (hsims : Sims P w0 M sg Φ)
    (h : RM.out α (stepOp P sg k ops G o) (g, E)) (hv : g.run Φ ν = some ν') (hK : ∀ a' w' L', Rel P w0 M N (E.ap α o.dst) ν' L' a' w' → GInv (stepG G o) ν' a' → K a' w') : ∃ v, Yields P ops o v a ∧ K (a.put o.dst v) w := by
  have := stepOp_if (K := K) (Q := Q) R hG hd hsims h hv hK
  by_cases hw : Region.wanted o (yielded ops a.tmps) = true
  · rw [if_pos hw] at this
    have hr : ∀ w, (execOp a.eval o).run P w = .ok (.value (a.eval x)) w := fun w => by simp [execOp, ho]
    refine ⟨a.eval x, .inl ⟨hw, hr⟩, ?_⟩
    unfold Oper.wp at this
    rw [hr w] at this
    exact this
  · rw [if_neg hw] at this
    exact ⟨undef, .inr ⟨by simpa using hw, rfl⟩, this⟩
end
end Go.Proofs.YtlhcgiegganbpaaDoorVs
set_option linter.unusedVariables false
set_option linter.unusedSimpArgs false
namespace Go.Proofs.YtlhcgiegganbpaaDoorVs
def leSrc : Src → Src → Bool
  | .fz, _ => true
  | .lent, .lent => true
  | .lent, .of _ => true
  | .of t, .of u => t == u
  | _, _ => false
def leA (a b : At) : Bool := match b with
  | .dead => true
  | .gone _ => true
  | .v s' => match a with
    | .v s => leSrc s s'
    | _ => false
  | .iel s' j' => match a with
    | .iel s j => leSrc s s' && j == j'
    | _ => false
  | b => decide (a = b)
def leAs : List At → List At → Bool
  | [], [] => true
  | a :: as, b :: bs => leA a b && leAs as bs
  | _, _ => false
def lePs : List (Bool × List At) → List (Bool × List At) → Bool
  | [], [] => true
  | p :: ps, q :: qs => p.1 == q.1 && leAs p.2 q.2 && lePs ps qs
  | _, _ => false
def leSh (a b : Sh) : Bool := match b with
  | .one .dead => true
  | .one (.gone _) => true
  | .one y => match a with
    | .one x => leA x y
    | _ => false
  | .agg ys => match a with
    | .agg xs => leAs xs ys
    | _ => false
  | .ogg ys => match a with
    | .ogg xs => leAs xs ys
    | .agg xs => leAs xs ys
    | _ => false
  | .tup qs => match a with
    | .tup ps => lePs ps qs
    | _ => false
def leSl : List Sh → List Sh → Bool
  | _, [] => true
  | [], b :: bs => leSh (.one .dead) b && leSl [] bs
  | a :: as, b :: bs => leSh a b && leSl as bs
theorem leSl_ok : ∀ {as bs : List Sh}, leSl as bs = true → ∀ s, s < bs.length → leSh (as.getD s (.one .dead)) (bs.getD s (.one .dead)) = true
  | _, [], _, s, h => by simp at h
  | [], b :: bs, H, s, h => by
    simp only [leSl, Bool.and_eq_true] at H
    cases s with
    | zero => simpa using H.1
    | succ s =>
      have := leSl_ok H.2 s (by simpa using h)
      simpa using this
  | a :: as, b :: bs, H, s, h => by
    simp only [leSl, Bool.and_eq_true] at H
    cases s with
    | zero => simpa using H.1
    | succ s =>
      have := leSl_ok H.2 s (by simpa using h)
      simpa using this
def leAl (α β : Al) : Bool := leSl α.sl β.sl && β.bx.all fun p => match β.box p.1, α.box p.1 with
  | some y, some x => x.ro == y.ro && leAs x.as y.as
  | none, _ => true
  | _, _ => false
section
variable {P : Program} {w0 : World} {M : Nat → Prop} {N : Fr} {α α' β : Al} {ν ν' : Env} {L : Lay} {a : Act} {w w' : World}
theorem leSrc_ok {s s' : Src} (hfs : ∀ b, L.F b → L.S b) (h : leSrc s s' = true) : ∀ b, L.src s b → L.src s' b := by
  intro b hb
  cases s with
  | fz => cases s' with
    | fz => exact hb
    | lent => exact hfs b hb
    | of t => exact .inl (hfs b hb)
  | lent => cases s' with
    | fz => cases h
    | lent => exact hb
    | of t => exact .inl hb
  | of t => cases s' with
    | fz => cases h
    | lent => cases h
    | of u =>
      have : t = u := by simpa [leSrc] using h
      rw [← this]; exact hb
theorem leA_ok {x y : At} {v : V} {c : Value} (hfs : ∀ b, L.F b → L.S b) (h : leA x y = true) (H : RA P L w x v c) : RA P L w y v c := by
  rcases H with H | H
  · exact .inl H
  cases y with
  | dead => exact .inr trivial
  | gone k => exact .inr trivial
  | v s' =>
    cases x with
    | v s => exact .inr (Rd.mono H (leSrc_ok hfs h) (fun _ _ => rfl))
    | _ => cases h
  | iel s' j' =>
    cases x with
    | iel s j =>
      simp only [leA, Bool.and_eq_true, beq_iff_eq] at h
      obtain ⟨h1, rfl⟩ := h
      obtain ⟨b, p, hs, hel, hc⟩ := H
      exact .inr ⟨b, p, leSrc_ok hfs h1 b hs, hel.mono hs (leSrc_ok hfs h1) (fun _ _ => rfl), hc⟩
    | _ => cases h
  | _ =>
    simp only [leA, decide_eq_true_eq] at h
    subst h
    exact .inr H
theorem leAs_len : ∀ {xs ys : List At}, leAs xs ys = true → xs.length = ys.length
  | [], [], _ => rfl
  | [], _ :: _, h => by cases h
  | _ :: _, [], h => by cases h
  | x :: xs, y :: ys, h => by
    simp only [leAs, Bool.and_eq_true] at h
    simp [leAs_len h.2]
theorem leAs_get : ∀ {xs ys : List At}, leAs xs ys = true → ∀ i (h : i < xs.length) (h' : i < ys.length), leA xs[i] ys[i] = true
  | [], [], _ => fun i h => by simp at h
  | [], _ :: _, h => by cases h
  | _ :: _, [], h => by cases h
  | x :: xs, y :: ys, h => by
    simp only [leAs, Bool.and_eq_true] at h
    intro i hi hi'
    cases i with
    | zero => exact h.1
    | succ i => exact leAs_get h.2 i (by simpa using hi) (by simpa using hi')
theorem leAs_ok {xs ys : List At} {vs : List V} {cs : List Value} (hfs : ∀ b, L.F b → L.S b) (h : leAs xs ys = true) (H : RAs P L w xs vs cs) : RAs P L w ys vs cs := by
  have hl := leAs_len h
  exact ⟨by rw [← hl]; exact H.1, by rw [← hl]; exact H.2.1, fun i h0 h1 h2 => leA_ok hfs (leAs_get h i (by omega) h0) (H.2.2 i (by omega) h1 h2)⟩
theorem lePs_ok (hfs : ∀ b, L.F b → L.S b) : ∀ {ps qs : List (Bool × List At)} {vs : List V} {cs : List Value}, lePs ps qs = true → RParts P L w ps vs cs → RParts P L w qs vs cs
  | [], [], vs, cs, _, H => H
  | [], _ :: _, _, _, h, _ => by cases h
  | _ :: _, [], _, _, h, _ => by cases h
  | p :: ps, q :: qs, vs, cs, h, ⟨x1, x2, c, c2, h1, h2, h3, h4⟩ => by
    simp only [lePs, Bool.and_eq_true, beq_iff_eq] at h
    refine ⟨x1, x2, c, c2, h1, h2, ?_, lePs_ok hfs h.2 h4⟩
    unfold RPart at h3 ⊢
    rw [← h.1.1]
    split at h3
    · rename_i hb
      rw [if_pos hb]
      obtain ⟨cs, h5, h6⟩ := h3
      exact ⟨cs, h5, leAs_ok hfs h.1.2 h6⟩
    · rename_i hb
      rw [if_neg hb]
      exact leAs_ok hfs h.1.2 h3
theorem leSh_ok {x y : Sh} {vs : List V} {c : Value} (hfs : ∀ b, L.F b → L.S b) (h : leSh x y = true) (H : RSl P L w x vs c) : RSl P L w y vs c := by
  cases y with
  | one y =>
    by_cases hd : y = .dead ∨ ∃ k, y = .gone k
    · rcases hd with rfl | ⟨k, rfl⟩ <;> trivial
    · cases x with
      | one x =>
        have h' : leA x y = true := by cases y <;> first | exact h | (simp at hd)
        have hx : RAs P L w [x] vs [c] := by
          cases x with
          | dead => cases y <;> first | (simp at hd; done) | (simp [leA] at h')
          | gone k => cases y <;> first | (simp at hd; done) | (simp [leA] at h')
          | _ => exact H
        exact RSl.one (leAs_ok hfs (by simp [leAs, h']) hx)
      | _ => cases y <;> first | (simp at hd; done) | cases h
  | agg ys =>
    cases x with
    | agg xs => obtain ⟨cs, h1, h2⟩ := H; exact ⟨cs, h1, leAs_ok hfs h h2⟩
    | _ => cases h
  | ogg ys =>
    cases x with
    | agg xs => obtain ⟨cs, h1, h2⟩ := H; exact .inl ⟨cs, h1, leAs_ok hfs h h2⟩
    | ogg xs => rcases H with ⟨cs, h1, h2⟩ | H; exact .inl ⟨cs, h1, leAs_ok hfs h h2⟩; exact .inr H
    | _ => cases h
  | tup qs =>
    cases x with
    | tup ps => obtain ⟨cs, h1, h2⟩ := H; exact ⟨cs, h1, lePs_ok hfs h h2⟩
    | _ => cases h
theorem lookB_mem : ∀ {l : List (Nat × Bx)} {u : Nat} {x : Bx}, lookB l u = some x → (u, x) ∈ l
  | (v, b) :: r, u, x, h => by
    simp only [lookB] at h
    split at h
    · rename_i hv; cases h; rw [hv]; exact List.mem_cons_self
    · exact List.mem_cons_of_mem _ (lookB_mem h)
theorem Rel.le (R : Rel P w0 M N α ν L a w) (h : leAl α β = true) : Rel P w0 M N β ν L a w := by
  simp only [leAl, Bool.and_eq_true, List.all_eq_true] at h
  obtain ⟨h1', h2⟩ := h
  have h1 : ∀ s, s < β.sl.length → leSh (α.slot s) (β.slot s) = true := fun s hs => leSl_ok h1' s hs
  refine ⟨R.nt, R.nd, R.kp, R.fs, R.sl, fun s => ?_, R.rows, fun u b ro hu y hy => ?_, R.rowmine, R.boxmine, R.boxro, R.rr, R.rb, R.bb⟩
  · by_cases hs : s < β.sl.length
    · exact leSh_ok R.fs (h1 s hs) (R.slots s)
    · have : β.slot s = .one .dead := by simp [Al.slot, List.getD_eq_getElem?_getD, List.getElem?_eq_none (Nat.le_of_not_lt hs)]
      rw [this]; trivial
  · have h3 := h2 (u, y) (lookB_mem hy)
    simp only [hy] at h3
    split at h3
    · rename_i y' x he hx
      cases he
      simp only [Bool.and_eq_true, beq_iff_eq] at h3
      obtain ⟨h4, h5⟩ := R.boxes u b ro hu x hx
      obtain ⟨C, ty, fz, h6, h7, h8⟩ := h5.cells
      exact ⟨by rw [← h3.1]; exact h4, ⟨C, ty, fz, h6, h7, leAs_ok R.fs h3.2 h8⟩⟩
    · rename_i he; cases he
    · cases h3
end
end Go.Proofs.YtlhcgiegganbpaaDoorVs
set_option linter.unusedVariables false
set_option linter.unusedSimpArgs false
namespace Go.Proofs.YtlhcgiegganbpaaDoorVs
/-- what stood when an operation was told in the text's order, what it came to, where it looked -/
structure SR where
  al : Al
  G : List Nat
  vg : VG
  eff : Eff
  lk : List Nat
def dstOk (N : Nat × List Nat) (o : Oper) : Bool := match o.dst with
  | some d => decide (d < N.1) && !N.2.contains d
  | none => true
def regT (P : Program) (sg : Sigs) (N : Nat × List Nat) (hs : Nat → Nat) (ops : Array Oper) : Nat → List Oper → Al → List Nat → Option (List SR × Al)
  | _, [], α, _ => some ([], α)
  | i, o :: r, α, G => if dstOk N o then ((stepOp P sg (hs i) ops G o).run α).bind fun q =>
      (regT P sg N hs ops (i + 1) r (q.1.2.apF α o.dst) (stepG G o)).map fun p => (⟨α, G, q.1.1, q.1.2, q.2⟩ :: p.1, p.2)
    else none
/-- the open order: what is left in the text's order, and what is known -/
def cutAt (i : Nat) : List Nat → Option (List Nat × List Nat)
  | [] => none
  | j :: r => if j = i then some ([], r) else (cutAt i r).map fun p => (j :: p.1, p.2)
def vgAt (rs : List SR) (i : Nat) : VG := match rs[i]? with
  | some r => r.vg
  | none => { is := [] }
def look (α : Al) (c : Nat) : Sh ⊕ Option Bx := if c % 3 = 0 then .inl (α.slot (c / 3)) else .inr (α.box (c / 3))
def sameG (ops : Array Oper) (o : Oper) (G G' : List Nat) : Bool := match o.guard with
  | none => true
  | some (j, _) => match (ops[j]?).bind (·.dst) with
    | none => true
    | some gs => G.contains gs == G'.contains gs
def isMove (P : Program) (o : Oper) : Bool := match o.op with
  | .move _ => true
  | .fieldAddr t _ f => match fieldOf P t f with
    | some (_, n, _) => n != 0
    | none => false
  | _ => false
def sameAl (α β : Al) : Bool := decide (α.sl = β.sl) && (α.bx ++ β.bx).all fun p => decide (α.box p.1 = β.box p.1)
/-- a state of an open order: what has come up, what is left, what is known -/
structure AS where
  key : Nat
  ls : Array Bool
  rem : List Nat
  al : Al
  G : List Nat
def AS.same (s t : AS) : Bool := decide (s.ls = t.ls) && decide (s.rem = t.rem) && sameAl s.al t.al && t.G.all (s.G.contains ·)
def mrg (s : AS) : List AS → Option (List AS)
  | [] => some [s]
  | t :: r => if t.key = s.key then (if s.same t then some (t :: r) else none) else (mrg s r).map fun r' => t :: r'
/-- variables of which more is known than was in the text's order: as little as there -/
def wkn (β : Al) : List Nat → Al → Al
  | [], α => α
  | c :: r, α => if c % 3 = 1 then (if decide (look α c = look β c) then wkn β r α else match β.box (c / 3) with
      | some y => wkn β r (α.setB (c / 3) y)
      | none => wkn β r α)
    else wkn β r α
def wk (α : Al) (r : SR) : Option Al := if r.lk.all (fun c => decide (look α c = look r.al c)) then some α
  else if leAl α (wkn r.al r.lk α) && r.lk.all (fun c => decide (look (wkn r.al r.lk α) c = look r.al c)) then some (wkn r.al r.lk α) else none
/-- behind operation i -/
def nxt (ops : Array Oper) (rs : List SR) (s : AS) (i : Nat) : Option AS := match rs[i]?, ops[i]?, cutAt i s.rem with
  | some r, some o, some (pre, post) => (wk s.al r).bind fun α => if sameG ops o s.G r.G && pre.all (fun j => (vgAt rs j).comm r.vg) then
      some ⟨s.key + 2 ^ i, s.ls.setIfInBounds i true, pre ++ post, r.eff.apF α o.dst, stepG s.G o⟩ else none
  | _, _, _ => none
def flg (ops : Array Oper) (i : Nat) : Bool := (ops[i]?).any isRd
/-- k is put together out of i -/
def dataR (ops : Array Oper) (i : Nat) : Nat → Nat → Bool
  | 0, _ => false
  | n + 1, k => match ops[k]? with
    | some ok => ok.after.any fun e => Region.binds .any e && (match e.ground with | .data => true | _ => false) && (e.on == i || dataR ops i n e.on)
    | none => false
/-- j cannot come ahead of i -/
def waits (ops : Array Oper) (j i : Nat) : Bool := match ops[j]? with
  | some oj => oj.after.any fun e => Region.binds .any e && (e.on == i || dataR ops i 12 e.on)
  | none => false
/-- all that may come ahead of i only reads -/
def freeR (ops : Array Oper) (listed : Array Bool) (i : Nat) : Bool := (List.range ops.size).all fun j => j == i || listed.getD j true || flg ops j || waits ops j i
/-- operations that are taken at once: reads, where all that may come ahead only reads; what hangs on no world -/
def eagerR (ops : Array Oper) (s : AS) : Option Nat := (Region.ready .any ops s.ls).find? (fun i => flg ops i && Region.free .any ops s.ls i && freeR ops s.ls i)
def eager (P : Program) (ops : Array Oper) (s : AS) : Option Nat := (Region.ready .any ops s.ls).find? (fun i => (ops[i]?).any (isMove P) && Region.free .any ops s.ls i)
def ways (P : Program) (ops : Array Oper) (s : AS) : List Nat := match eagerR ops s with
  | some i => [i]
  | none => match eager P ops s with
    | some i => [i]
    | none => Region.ready .any ops s.ls
def goW (ops : Array Oper) (rs : List SR) (s : AS) : List Nat → List AS → Option (List AS)
  | [], acc => some acc
  | i :: r, acc => (nxt ops rs s i).bind fun t => (mrg t acc).bind (goW ops rs s r)
def stepL (P : Program) (ops : Array Oper) (rs : List SR) (αf : Al) : List AS → List AS → Option (List AS)
  | [], acc => some acc
  | s :: r, acc => if (Region.ready .any ops s.ls).isEmpty then (if s.rem.isEmpty && sameAl s.al αf then stepL P ops rs αf r acc else none)
      else (goW ops rs s (ways P ops s) acc).bind (stepL P ops rs αf r)
/-- all orders, level by level -/
def anyB (P : Program) (ops : Array Oper) (rs : List SR) (αf : Al) : Nat → List AS → Bool
  | _, [] => true
  | 0, _ :: _ => false
  | n + 1, s :: l => match stepL P ops rs αf (s :: l) [] with
    | some l' => anyB P ops rs αf n l'
    | none => false
def anyR (P : Program) (ops : Array Oper) (rs : List SR) (αf : Al) (α : Al) : Bool := anyB P ops rs αf (ops.size + 1) [⟨0, Array.replicate ops.size false, List.range ops.size, α, []⟩]
section
variable {P : Program} {w0 : World} {M : Nat → Prop} {N : Fr} {α α' : Al} {ν ν' : Env} {L : Lay} {a : Act} {w w' : World} {Φ : Funs} {o : Oper} {d : Nat} {E : Eff} {sg : Sigs} {hs : Nat → Nat} {ops : Array Oper} {Q : Exit → Act → World → Prop}
theorem dstOk_ok (h : dstOk N.st o = true) : ∀ d, o.dst = some d → N.W d := by
  intro d hd
  simp only [dstOk, hd, Fr.st, Bool.and_eq_true, decide_eq_true_eq, Bool.not_eq_true'] at h
  exact ⟨of_decide_eq_true h.1, fun hm => by rw [List.contains_iff_mem.2 hm] at h; simp at h⟩
theorem regT_ok (hsims : Sims P w0 M sg Φ) : ∀ (os : List Oper) (i : Nat) {α : Al} {G : List Nat} {ν : Env} {L : Lay} {a : Act} {w : World} {rs : List SR}, (∀ j, j < os.length → ops[i + j]? = os[j]?) → regT P sg N.st hs ops i os α G = some (rs, α') → Rel P w0 M N α ν L a w → GInv G ν a → runGs Φ (rs.map (·.vg)) ν = some ν' →
    (∀ a' w' L', Rel P w0 M N α' ν' L' a' w' → Q .normal a' w') → wpOps P ops Q (List.range' i os.length) a w
  | [], i, α, G, ν, L, a, w, rs, hops, h, R, hG, hv, hQ => by
    simp only [regT, Option.some.injEq, Prod.mk.injEq] at h
    obtain ⟨rfl, rfl⟩ := h
    simp only [List.map_nil, runGs, Option.some.injEq] at hv
    subst hv
    exact hQ a w L R
  | o :: os, i, α, G, ν, L, a, w, rs, hops, h, R, hG, hv, hQ => by
    simp only [regT, apF_eq] at h
    split at h
    · rename_i hd
      simp only [Option.bind_eq_some_iff, Option.map_eq_some_iff, Prod.mk.injEq] at h
      obtain ⟨⟨⟨g, E⟩, lk⟩, h1, ⟨rs', α2⟩, h2, rfl, hα⟩ := h
      simp only at hα
      rw [hα] at h2
      simp only [List.map_cons, runGs, Option.bind_eq_some_iff] at hv
      obtain ⟨ν1, hv1, hv2⟩ := hv
      have hi : ops[i]? = some o := by simpa using hops 0 (by simp)
      rw [List.length_cons, List.range'_succ, wpOps_cons]
      refine stepOp_ok R hG (dstOk_ok hd) hi hsims ⟨lk, h1⟩ hv1 (fun a' w' L' R' hG' => ?_)
      exact regT_ok hsims os (i + 1) (fun j hj => by
        have := hops (j + 1) (by simpa using hj)
        rw [show i + 1 + j = i + (j + 1) by omega]
        simpa using this) h2 R' hG' hv2 hQ
    · cases h
/-- a region of the text's order -/
theorem region_ok {id : Nat} {rs : List SR} (hsims : Sims P w0 M sg Φ) (h : regT P sg N.st hs ops 0 ops.toList α [] = some (rs, α')) (R : Rel P w0 M N α ν L a w) (hv : runGs Φ (rs.map (·.vg)) ν = some ν') (hQ : ∀ a' w' L', Rel P w0 M N α' ν' L' a' w' → Q .normal a' w') :
    (Code.region id ops false).wp P Q a w := by
  refine wp_region ?_
  have := regT_ok (ops := ops) (Q := Q) hsims ops.toList 0 (fun j hj => by simp) h R (fun s hs => by simp at hs) hv hQ
  rw [List.range_eq_range']
  simpa using this

/-! ### open order -/
theorem run_congr {β : Type} {m : RM β} {b : β} {l : List Nat} (h : m.run α = some (b, l)) (hl : ∀ c ∈ l, look α' c = look α c) : m.run α' = some (b, l) := by
  induction m generalizing l with
  | ok x => exact h
  | no => exact h
  | sl s k ih =>
    simp only [RM.run, Option.map_eq_some_iff, Prod.exists, Prod.mk.injEq] at h ⊢
    obtain ⟨b', l', h1, rfl, rfl⟩ := h
    have h2 := hl (sC s) (by simp)
    have e1 : sC s % 3 = 0 := by simp [sC]
    have e2 : sC s / 3 = s := by simp only [sC]; omega
    simp only [look, e1, e2, if_true, Sum.inl.injEq] at h2
    rw [h2]
    exact ⟨b', l', ih _ h1 (fun c hc => hl c (by simp [hc])), rfl, rfl⟩
  | bx u k ih =>
    simp only [RM.run, Option.map_eq_some_iff, Prod.exists, Prod.mk.injEq] at h ⊢
    obtain ⟨b', l', h1, rfl, rfl⟩ := h
    have h2 := hl (bC u) (by simp)
    have e1 : ¬ bC u % 3 = 0 := by simp only [bC]; omega
    have e2 : bC u / 3 = u := by simp only [bC]; omega
    simp only [look, if_neg e1, e2, Sum.inr.injEq] at h2
    rw [h2]
    exact ⟨b', l', ih _ h1 (fun c hc => hl c (by simp [hc])), rfl, rfl⟩
theorem cutAt_ok {i : Nat} : ∀ {l pre post : List Nat}, cutAt i l = some (pre, post) → l = pre ++ i :: post
  | [], pre, post, h => by cases h
  | j :: r, pre, post, h => by
    simp only [cutAt] at h
    split at h
    · rename_i hj; cases h; rw [hj]; rfl
    · simp only [Option.map_eq_some_iff, Prod.exists, Prod.mk.injEq] at h
      obtain ⟨p1, p2, h1, rfl, rfl⟩ := h
      rw [cutAt_ok h1]; rfl
theorem stepOp_sameG {k : Nat} {G G' : List Nat} (h : sameG ops o G G' = true) : stepOp P sg k ops G o = stepOp P sg k ops G' o := by
  unfold stepOp
  unfold sameG at h
  cases hg : o.guard with
  | none => rfl
  | some p =>
    obtain ⟨j, want⟩ := p
    simp only [hg] at h ⊢
    cases hj : (ops[j]?).bind (·.dst) with
    | none => rfl
    | some gs =>
      simp only [hj, beq_iff_eq] at h
      simp only [hj, h]
theorem sameAl_ok (h : sameAl α α' = true) : (∀ s, α.slot s = α'.slot s) ∧ ∀ u, α.box u = α'.box u := by
  simp only [sameAl, Bool.and_eq_true, decide_eq_true_eq, List.all_eq_true] at h
  refine ⟨fun s => by simp only [Al.slot, h.1], fun u => ?_⟩
  have hl : ∀ (l : List (Nat × Bx)), (∀ x, (u, x) ∉ l) → lookB l u = none := by
    intro l
    induction l with
    | nil => intro _; rfl
    | cons p l ih =>
      intro hn
      obtain ⟨v, x⟩ := p
      have hv : v ≠ u := fun e => hn x (by rw [e]; exact List.mem_cons_self)
      simp only [lookB, if_neg hv]
      exact ih (fun x hx => hn x (List.mem_cons_of_mem _ hx))
  by_cases hu : ∃ x, (u, x) ∈ α.bx ++ α'.bx
  · obtain ⟨x, hx⟩ := hu
    exact h.2 _ hx
  · have hu' : ∀ x, (u, x) ∉ α.bx ++ α'.bx := fun x hx => hu ⟨x, hx⟩
    rw [Al.box, Al.box, hl _ (fun x hx => hu' x (List.mem_append_left _ hx)), hl _ (fun x hx => hu' x (List.mem_append_right _ hx))]
theorem Rel.congr (R : Rel P w0 M N α ν L a w) (h1 : ∀ s, α.slot s = α'.slot s) (h2 : ∀ u, α.box u = α'.box u) : Rel P w0 M N α' ν L a w :=
  ⟨R.nt, R.nd, R.kp, R.fs, R.sl, fun s => by rw [← h1]; exact R.slots s, R.rows, fun u b ro hu x hx => R.boxes u b ro hu x (by rw [h2]; exact hx), R.rowmine, R.boxmine, R.boxro, R.rr, R.rb, R.bb⟩
/-- each operation's telling -/
def Told (P : Program) (sg : Sigs) (N : Nat × List Nat) (hs : Nat → Nat) (ops : Array Oper) (rs : List SR) : Prop := ∀ (i : Nat) (r : SR) (o : Oper), rs[i]? = some r → ops[i]? = some o → dstOk N o = true ∧ (stepOp P sg (hs i) ops r.G o).run r.al = some ((r.vg, r.eff), r.lk)
/-! #### levels -/
theorem mrg_ok {s : AS} : ∀ {l l' : List AS}, mrg s l = some l' → (∀ t ∈ l, t ∈ l') ∧ ∃ t ∈ l', s = t ∨ s.same t = true
  | [], l', h => by cases h; exact ⟨by simp, s, by simp, .inl rfl⟩
  | t :: r, l', h => by
    rw [mrg] at h
    split at h
    · split at h
      · rename_i hs
        cases h
        exact ⟨fun x hx => hx, t, by simp, .inr hs⟩
      · cases h
    · simp only [Option.map_eq_some_iff] at h
      obtain ⟨r', hr, rfl⟩ := h
      obtain ⟨h1, x, hx, h2⟩ := mrg_ok hr
      exact ⟨fun y hy => by
        rcases List.mem_cons.1 hy with rfl | hy
        · simp
        · exact List.mem_cons_of_mem _ (h1 y hy), x, List.mem_cons_of_mem _ hx, h2⟩
theorem goW_ok {rs : List SR} {s : AS} : ∀ {is : List Nat} {l l' : List AS}, goW ops rs s is l = some l' → (∀ t ∈ l, t ∈ l') ∧ ∀ i ∈ is, ∃ t, nxt ops rs s i = some t ∧ ∃ t' ∈ l', t = t' ∨ t.same t' = true
  | [], l, l', h => by cases h; exact ⟨fun t ht => ht, by simp⟩
  | i :: r, l, l', h => by
    simp only [goW, Option.bind_eq_some_iff] at h
    obtain ⟨t, ht, l1, hl1, h⟩ := h
    obtain ⟨h1, x, hx, hx2⟩ := mrg_ok hl1
    obtain ⟨h2, h3⟩ := goW_ok h
    refine ⟨fun y hy => h2 y (h1 y hy), fun j hj => ?_⟩
    rcases List.mem_cons.1 hj with rfl | hj
    · exact ⟨t, ht, x, h2 x hx, hx2⟩
    · exact h3 j hj
theorem stepL_ok {rs : List SR} {αf : Al} : ∀ {ss l l' : List AS}, stepL P ops rs αf ss l = some l' → (∀ t ∈ l, t ∈ l') ∧ ∀ s ∈ ss, ((Region.ready .any ops s.ls).isEmpty = true ∧ (s.rem.isEmpty && sameAl s.al αf) = true) ∨
      (¬ (Region.ready .any ops s.ls).isEmpty = true ∧ ∀ i ∈ ways P ops s, ∃ t, nxt ops rs s i = some t ∧ ∃ t' ∈ l', t = t' ∨ t.same t' = true)
  | [], l, l', h => by cases h; exact ⟨fun t ht => ht, by simp⟩
  | s :: r, l, l', h => by
    rw [stepL] at h
    split at h
    · rename_i h1
      split at h
      · rename_i h2
        obtain ⟨h3, h4⟩ := stepL_ok h
        exact ⟨h3, fun x hx => by
          rcases List.mem_cons.1 hx with rfl | hx
          · exact .inl ⟨h1, h2⟩
          · exact h4 x hx⟩
      · cases h
    · rename_i h1
      simp only [Option.bind_eq_some_iff] at h
      obtain ⟨l1, hl1, h⟩ := h
      obtain ⟨h2, h3⟩ := goW_ok hl1
      obtain ⟨h4, h5⟩ := stepL_ok h
      refine ⟨fun t ht => h4 t (h2 t ht), fun x hx => ?_⟩
      rcases List.mem_cons.1 hx with rfl | hx
      · refine .inr ⟨h1, fun i hi => ?_⟩
        obtain ⟨t, ht, t', ht', h6⟩ := h3 i hi
        exact ⟨t, ht, t', h4 t' ht', h6⟩
      · exact h5 x hx
/-- an address of a part hangs on no world -/
theorem fa_all {s : TypeId} {x : Value} {f : Nat} {q : Nat × Nat × Bool} (hf : fieldOf P s f = some q) (hn : (q.2.1 != 0) = true) (w : World) : (∃ v, ∀ w', (Instr.fieldAt s x f).run P w' = .ok v w') ∨ (∀ v w', (Instr.fieldAt s x f).run P w ≠ .ok v w') := by
  obtain ⟨off, n, ag⟩ := q
  obtain ⟨fs, g, hu, hg, hsz, hag, hoff⟩ := fieldOf_ok hf
  have hn0 : n ≠ 0 := by simpa using hn
  have bad : (∀ a, x ≠ .pointer (some a)) → ∀ v w', (Instr.fieldAt s x f).run P w ≠ .ok v w' := fun hx v w' h => by
    cases x with
    | pointer q => cases q with
      | none => simp [Instr.fieldAt, run_underlying hu, hg, Instr.sureAddr] at h
      | some a => exact hx a rfl
    | _ => simp [Instr.fieldAt, run_underlying hu, hg, Instr.sureAddr] at h
  by_cases hx : ∃ a, x = .pointer (some a)
  · obtain ⟨a, rfl⟩ := hx
    exact .inl ⟨.pointer (some (a.add g.offset)), fun w' => by simp [Instr.fieldAt, run_underlying hu, hg, Instr.sureAddr, fieldPlace, run_sizeOf hsz, hn0]⟩
  · exact .inr (bad fun a e => hx ⟨a, e⟩)
theorem stepOp_fa {sg : Sigs} {k : Nat} {ops : Array Oper} {G : List Nat} {g : VG} {K : Act → World → Prop} {Q : Exit → Act → World → Prop} {t : TypeId} {x : Operand} {f : Nat} (R : Rel P w0 M N α ν L a w) (hG : GInv G ν a) (hd : ∀ d, o.dst = some d → N.W d) (ho : o.op = .fieldAddr t x f) (hm : isMove P o = true) (hsims : Sims P w0 M sg Φ) (hp : ∀ c a w, ¬ Q (.panic c) a w)
    (h : RM.out α (stepOp P sg k ops G o) (g, E)) (hv : g.run Φ ν = some ν') (hK : ∀ a' w' L', Rel P w0 M N (E.ap α o.dst) ν' L' a' w' → GInv (stepG G o) ν' a' → K a' w') : ∃ v, Yields P ops o v a ∧ K (a.put o.dst v) w := by
  have := stepOp_if (K := K) (Q := Q) R hG hd hsims h hv hK
  by_cases hw : Region.wanted o (yielded ops a.tmps) = true
  · rw [if_pos hw] at this
    unfold isMove at hm
    simp only [ho] at hm
    split at hm
    · rename_i q1 n q2 hfo
      rcases fa_all (x := a.eval x) hfo (by simpa using hm) w with ⟨v, hv1⟩ | hv1
      · have hr : ∀ w, (execOp a.eval o).run P w = .ok (.value v) w := fun w => by simp [execOp, ho, hv1 w]
        refine ⟨v, .inl ⟨hw, hr⟩, ?_⟩
        unfold Oper.wp at this
        rw [hr w] at this
        exact this
      · exfalso
        unfold Oper.wp at this
        cases hr : (Instr.fieldAt t (a.eval x) f).run P w with
        | ok v w' => exact hv1 v w' hr
        | halt e w' =>
          have he : (execOp a.eval o).run P w = .halt e w' := by simp [execOp, ho, hr]
          rw [he] at this
          cases e <;> simp only [Oper.upon] at this
          exact hp _ _ _ this
    · cases hm
  · rw [if_neg hw] at this
    exact ⟨undef, .inr ⟨by simpa using hw, rfl⟩, this⟩
/-! #### reads leave the world -/
/-- whatever comes up: what reads leaves the world as it is -/
def wpX (P : Program) (ops : Array Oper) (Q : Exit → Act → World → Prop) : Nat → Array Bool → Act → World → Prop
  | 0, listed, a, w => Region.ready .any ops listed = [] ∧ Q .normal a w
  | fuel + 1, listed, a, w =>
    (Region.ready .any ops listed = [] → Q .normal a w) ∧
    ∀ i ∈ Region.ready .any ops listed, if flg ops i = true then stOp P ops w i (fun a' => wpX P ops Q fuel (listed.setIfInBounds i true) a' w) a else wpOp P ops Q i (wpX P ops Q fuel (listed.setIfInBounds i true)) a w
theorem wpX_any : ∀ (fuel : Nat) (listed : Array Bool) (a : Act) (w : World), wpX P ops Q fuel listed a w → wpAny P .any ops Q fuel listed a w
  | 0, _, _, _, h => h
  | fuel + 1, _, _, _, h => ⟨h.1, fun i hi => by
    have h2 := h.2 i hi
    split at h2
    · exact wpOp_of_stOp (fun a' h3 => wpX_any fuel _ a' _ h3) h2
    · exact wpOp_mono (fun a' w' h3 => wpX_any fuel _ a' w' h3) h2⟩
theorem wpX_done {listed : Array Bool} (hr : Region.ready .any ops listed = []) (h : Q .normal a w) : ∀ fuel, wpX P ops Q fuel listed a w
  | 0 => ⟨hr, h⟩
  | _ + 1 => ⟨fun _ => h, by rw [hr]; simp⟩
/-- what has come up, came up behind what it waits for -/
def Cl (ops : Array Oper) (listed : Array Bool) : Prop := ∀ k ok, ops[k]? = some ok → listed.getD k false = true → ∀ e ∈ ok.after, Region.binds .any e = true → listed.getD e.on false = true
theorem cl_nil : Cl ops (Array.replicate ops.size false) := by
  intro k ok hk hl
  exfalso
  rw [Array.getD_eq_getD_getElem?] at hl
  rcases Nat.lt_or_ge k ops.size with h | h
  · rw [Array.getElem?_replicate, if_pos h] at hl
    cases hl
  · rw [Array.getElem?_replicate, if_neg (by omega)] at hl
    cases hl
theorem cl_step {listed : Array Bool} {j : Nat} (h : Cl ops listed) (hj : j ∈ Region.ready .any ops listed) : Cl ops (listed.setIfInBounds j true) := by
  intro k ok hk hl e he hb
  by_cases hkj : j = k
  · subst hkj
    obtain ⟨_, o', ho', hall⟩ := mem_ready.1 hj
    rw [hk] at ho'
    cases ho'
    exact getD_set_true (hall e he hb)
  · rw [getD_set_ne false hkj] at hl
    exact getD_set_true (h k ok hk hl e he hb)
theorem dataR_ok {listed : Array Bool} {i : Nat} (h : Cl ops listed) : ∀ (n k : Nat), dataR ops i n k = true → listed.getD k false = true → listed.getD i false = true
  | 0, k, hd, _ => by cases hd
  | n + 1, k, hd, hk => by
    rw [dataR] at hd
    split at hd
    · rename_i ok ho
      obtain ⟨e, he, hb⟩ := Array.any_eq_true'.1 hd
      simp only [Bool.and_eq_true, Bool.or_eq_true, beq_iff_eq] at hb
      obtain ⟨⟨hb1, _⟩, hb2⟩ := hb
      have h1 := h k ok ho hk e he hb1
      rcases hb2 with hb2 | hb2
      · rw [← hb2]; exact h1
      · exact dataR_ok h n e.on hb2 h1
    · cases hd
theorem waits_ok {listed : Array Bool} {i j : Nat} (h : Cl ops listed) (hj : j ∈ Region.ready .any ops listed) (hw : waits ops j i = true) : listed.getD i false = true := by
  obtain ⟨_, oj, hoj, hall⟩ := mem_ready.1 hj
  unfold waits at hw
  simp only [hoj] at hw
  obtain ⟨e, he, hb⟩ := Array.any_eq_true'.1 hw
  simp only [Bool.and_eq_true, Bool.or_eq_true, beq_iff_eq] at hb
  obtain ⟨hb1, hb2⟩ := hb
  have h1 := hall e he hb1
  rcases hb2 with hb2 | hb2
  · rw [← hb2]; exact h1
  · exact dataR_ok h 12 e.on hb2 h1
theorem getD_tf {listed : Array Bool} {i : Nat} (h1 : listed.getD i true = false) (h2 : listed.getD i false = true) : False := by
  rcases Nat.lt_or_ge i listed.size with h' | h'
  · simp [h'] at h1 h2
    rw [h1] at h2
    cases h2
  · simp [Array.getElem?_eq_none h'] at h2
theorem wpX_first {i : Nat} {oi : Oper} {v : Value} (hi : ops[i]? = some oi) (hsel : ∀ (j : Nat) (o : Oper) cs b, ops[j]? = some o → o.op ≠ .select cs b) (hfi : flg ops i = true) :
    ∀ (fuel : Nat) (listed : Array Bool) (a : Act), Cl ops listed →
      (∀ j oj, ops[j]? = some oj → j ≠ i → listed.getD j true = false → (∀ e ∈ oj.after, Region.binds .any e = true → e.on ≠ i) → oi.apart ops oj = true) →
      (∀ j oj, ops[j]? = some oj → j ≠ i → listed.getD j true = false → waits ops j i = false → flg ops j = true) →
      i ∈ Region.ready .any ops listed → YieldsAt P ops w oi v a →
      wpX P ops Q fuel (listed.setIfInBounds i true) (a.put oi.dst v) w → wpX P ops Q (fuel + 1) listed a w := by
  intro fuel
  induction fuel with
  | zero =>
    intro listed a _ _ _ hr hy H
    refine ⟨fun h => (by rw [h] at hr; cases hr), fun j hj => ?_⟩
    by_cases hji : j = i
    · subst hji; rw [if_pos hfi]; exact hy.stOp hi H
    · have := ready_mono hj hji
      rw [H.1] at this
      cases this
  | succ fuel ih =>
    intro listed a hcl hfree hfl hr hy H
    refine ⟨fun h => (by rw [h] at hr; cases hr), fun j hj => ?_⟩
    by_cases hji : j = i
    · subst hji; rw [if_pos hfi]; exact hy.stOp hi H
    · have h1 := H.2 j (ready_mono hj hji)
      obtain ⟨hjun, oj, hoj, hall⟩ := mem_ready.1 hj
      have hnot : ∀ e ∈ oj.after, Region.binds .any e = true → e.on ≠ i := fun e he hb heq => by
        have h1 := hall e he hb
        rw [heq] at h1
        exact getD_tf (mem_ready.1 hr).1 h1
      have hap := hfree j oj hoj hji hjun hnot
      have hfj := hfl j oj hoj hji hjun (by
        cases hw : waits ops j i with
        | false => rfl
        | true => exact (getD_tf (mem_ready.1 hr).1 (waits_ok hcl hj hw)).elim)
      rw [if_pos hfj] at h1 ⊢
      have h2 := stOp_put hoj hap (fun cs b => hsel i oi cs b hi) (fun cs b => hsel j oj cs b hoj) hy h1
      have hun' : ∀ k, (listed.setIfInBounds j true).getD k true = false → listed.getD k true = false := fun k hun => by
        by_cases hjk : j = k
        · subst hjk; exact hjun
        · rw [getD_set_ne true hjk] at hun; exact hun
      refine stOp_mono (fun a' h3 => ih (listed.setIfInBounds j true) a' (cl_step hcl hj) (fun k ok hk hki hun hno => hfree k ok hk hki (hun' k hun) hno) (fun k ok hk hki hun hno => hfl k ok hk hki (hun' k hun) hno) (ready_mono hr (Ne.symm hji)) h3.1 ?_) h2
      rw [Array.setIfInBounds_comm _ _ hji]
      exact h3.2
theorem freeR_spec {listed : Array Bool} {i : Nat} (h : freeR ops listed i = true) (j : Nat) (oj : Oper) (hj : ops[j]? = some oj) (hne : j ≠ i) (hun : listed.getD j true = false) (hno : waits ops j i = false) : flg ops j = true := by
  have h1 := List.all_eq_true.1 h j (List.mem_range.2 (Array.getElem?_eq_some_iff.1 hj).1)
  simp only [Bool.or_eq_true, beq_iff_eq, hne, false_or, hun, hno, Bool.false_eq_true, or_false] at h1
  exact h1
theorem stOp_putY {j : Nat} {oi oj : Oper} {v : Value} (hj : ops[j]? = some oj) (hap : oi.apart ops oj = true)
    (hsi : ∀ cs b, oi.op ≠ .select cs b) (hsj : ∀ cs b, oj.op ≠ .select cs b) {K : Act → Prop} {a : Act}
    (hy : Yields P ops oi v a) (h : stOp P ops w j K (a.put oi.dst v)) :
    stOp P ops w j (fun a' => Yields P ops oi v a' ∧ K (a'.put oi.dst v)) a := by
  obtain ⟨h1, h2, h3⟩ := Oper.apart_spec hap
  have keep : ∀ (a : Act), Yields P ops oi v a → ∀ u, Yields P ops oi v (a.put oj.dst u) := fun a hy u =>
    hy.of_same (execOp_put oi hsi a oj.dst u h3) (wanted_put oi a oj.dst u h3)
  unfold stOp at *
  simp only [hj] at *
  rw [wanted_put oj a oi.dst v h1] at h
  split
  · rename_i hw
    simp only [hw, if_true] at h
    unfold Oper.still at *
    rw [execOp_put oj hsj a oi.dst v h1] at h
    generalize (execOp a.eval oj).run P w = r at *
    cases r with
    | ok n w' =>
      cases n <;> simp only [Oper.stillUpon] at h ⊢
      case value u => exact ⟨h.1, keep a hy u, by rw [← Act.put_comm a v u h2]; exact h.2⟩
      case skip => exact ⟨h.1, keep a hy _, by rw [← Act.put_comm a v undef h2]; exact h.2⟩
      case enter f args => obtain ⟨hw', u, hc, hn⟩ := h; exact ⟨hw', u, hc, keep a hy u, by rw [← Act.put_comm a v u h2]; exact hn⟩
    | halt x w' => simp only [Oper.stillUpon] at h
  · rename_i hw
    simp only [hw] at h
    exact ⟨keep a hy _, by rw [← Act.put_comm a v undef h2]; exact h⟩
theorem yields_at {oi : Oper} {v : Value} (hy : Yields P ops oi v a) (w : World) : YieldsAt P ops w oi v a := by
  rcases hy with ⟨h1, h2⟩ | h
  · exact .inl ⟨h1, .inl (h2 w)⟩
  · exact .inr h
/-- what hangs on no world may be taken first -/
theorem wpX_firstW {i : Nat} {oi : Oper} {v : Value} (hi : ops[i]? = some oi) (hsel : ∀ (j : Nat) (o : Oper) cs b, ops[j]? = some o → o.op ≠ .select cs b)
    (hQ : ∀ c a w, Q (.panic c) (a.put oi.dst v) w → Q (.panic c) a w) :
    ∀ (fuel : Nat) (listed : Array Bool) (a : Act) (w : World),
      (∀ j oj, ops[j]? = some oj → j ≠ i → listed.getD j true = false → (∀ e ∈ oj.after, Region.binds .any e = true → e.on ≠ i) → oi.apart ops oj = true) →
      i ∈ Region.ready .any ops listed → Yields P ops oi v a →
      wpX P ops Q fuel (listed.setIfInBounds i true) (a.put oi.dst v) w → wpX P ops Q (fuel + 1) listed a w := by
  intro fuel
  have own : ∀ (fuel : Nat) (listed : Array Bool) (a : Act) (w : World), Yields P ops oi v a → wpX P ops Q fuel (listed.setIfInBounds i true) (a.put oi.dst v) w →
      (if flg ops i = true then stOp P ops w i (fun a' => wpX P ops Q fuel (listed.setIfInBounds i true) a' w) a else wpOp P ops Q i (wpX P ops Q fuel (listed.setIfInBounds i true)) a w) := fun fuel listed a w hy H => by
    split
    · exact (yields_at hy w).stOp hi H
    · exact hy.wpOp hi H
  induction fuel with
  | zero =>
    intro listed a w _ hr hy H
    refine ⟨fun h => (by rw [h] at hr; cases hr), fun j hj => ?_⟩
    by_cases hji : j = i
    · subst hji; exact own 0 listed a w hy H
    · have := ready_mono hj hji
      rw [H.1] at this
      cases this
  | succ fuel ih =>
    intro listed a w hfree hr hy H
    refine ⟨fun h => (by rw [h] at hr; cases hr), fun j hj => ?_⟩
    by_cases hji : j = i
    · subst hji; exact own _ listed a w hy H
    · have h1 := H.2 j (ready_mono hj hji)
      obtain ⟨hjun, oj, hoj, hall⟩ := mem_ready.1 hj
      have hnot : ∀ e ∈ oj.after, Region.binds .any e = true → e.on ≠ i := fun e he hb heq => by
        have h1 := hall e he hb
        have h0 := (mem_ready.1 hr).1
        rw [heq] at h1
        rcases Nat.lt_or_ge i listed.size with h' | h'
        · simp [h'] at h0 h1; rw [h0] at h1; cases h1
        · simp [Array.getElem?_eq_none h'] at h1
      have hap := hfree j oj hoj hji hjun hnot
      have hfree' : ∀ k ok, ops[k]? = some ok → k ≠ i → (listed.setIfInBounds j true).getD k true = false →
          (∀ e ∈ ok.after, Region.binds .any e = true → e.on ≠ i) → oi.apart ops ok = true := fun k ok hk hki hun hno => by
        refine hfree k ok hk hki ?_ hno
        by_cases hjk : j = k
        · subst hjk; exact hjun
        · rw [getD_set_ne true hjk] at hun; exact hun
      split
      · rename_i hfj
        rw [if_pos hfj] at h1
        have h2 := stOp_putY hoj hap (fun cs b => hsel i oi cs b hi) (fun cs b => hsel j oj cs b hoj) hy h1
        refine stOp_mono (fun a' h3 => ih (listed.setIfInBounds j true) a' w hfree' (ready_mono hr (Ne.symm hji)) h3.1 ?_) h2
        rw [Array.setIfInBounds_comm _ _ hji]
        exact h3.2
      · rename_i hfj
        rw [if_neg hfj] at h1
        have h2 := wpOp_put hoj hap (fun cs b => hsel i oi cs b hi) (fun cs b => hsel j oj cs b hoj) hQ hy h1
        refine wpOp_mono (fun a' w' h3 => ih (listed.setIfInBounds j true) a' w' hfree' (ready_mono hr (Ne.symm hji)) h3.1 ?_) h2
        rw [Array.setIfInBounds_comm _ _ hji]
        exact h3.2
theorem same_ok {s t : AS} (h : s = t ∨ s.same t = true) (R : Rel P w0 M N s.al ν L a w) (hG : GInv s.G ν a) : s.ls = t.ls ∧ s.rem = t.rem ∧ Rel P w0 M N t.al ν L a w ∧ GInv t.G ν a := by
  rcases h with rfl | h
  · exact ⟨rfl, rfl, R, hG⟩
  · simp only [AS.same, Bool.and_eq_true, decide_eq_true_eq, List.all_eq_true] at h
    obtain ⟨⟨⟨h1, h2⟩, h3⟩, h4⟩ := h
    obtain ⟨h5, h6⟩ := sameAl_ok h3
    exact ⟨h1, h2, R.congr h5 h6, fun x hx => hG x (by simpa using h4 x hx)⟩
theorem wk_ok {r : SR} (h : wk α r = some α') : (Rel P w0 M N α ν L a w → Rel P w0 M N α' ν L a w) ∧ ∀ c ∈ r.lk, look α' c = look r.al c := by
  unfold wk at h
  split at h
  · rename_i h1
    cases h
    exact ⟨fun R => R, fun c hc => by simpa using List.all_eq_true.1 h1 c hc⟩
  · split at h
    · rename_i h1
      cases h
      simp only [Bool.and_eq_true] at h1
      exact ⟨fun R => R.le h1.1, fun c hc => by simpa using List.all_eq_true.1 h1.2 c hc⟩
    · cases h
theorem anyB_ok {rs : List SR} {αf : Al} (hsims : Sims P w0 M sg Φ) (htold : Told P sg N.st hs ops rs) (hsel : Region.noSelect ops = true) (hp : ∀ c a w, ¬ Q (.panic c) a w) (hQ : ∀ a' w' L', Rel P w0 M N αf ν' L' a' w' → Q .normal a' w') :
    ∀ (n : Nat) (l : List AS), anyB P ops rs αf (n + 1) l = true → ∀ s ∈ l, Cl ops s.ls → ∀ (ν : Env) (L : Lay) (a : Act) (w : World), Rel P w0 M N s.al ν L a w → GInv s.G ν a → runGs Φ (s.rem.map (vgAt rs)) ν = some ν' → wpX P ops Q n s.ls a w := by
  intro n
  induction n with
  | zero =>
    intro l h s hsm hcl ν L a w R hG hv
    cases l with
    | nil => cases hsm
    | cons x r =>
    simp only [anyB] at h
    split at h
    · rename_i l' hl'
      obtain ⟨_, hst⟩ := stepL_ok hl'
      rcases hst s hsm with ⟨h1, h2⟩ | ⟨h1, h2⟩
      · simp only [Bool.and_eq_true, List.isEmpty_iff] at h2 h1
        obtain ⟨h2, h3⟩ := h2
        rw [h2] at hv
        simp only [List.map_nil, runGs, Option.some.injEq] at hv
        subst hv
        obtain ⟨h4, h5⟩ := sameAl_ok h3
        exact wpX_done h1 (hQ a w L (R.congr h4 h5)) 0
      · exfalso
        have hw : ∃ i, i ∈ ways P ops s := by
          unfold ways
          split
          · rename_i i0 _; exact ⟨i0, List.mem_singleton.2 rfl⟩
          split
          · rename_i i0 _; exact ⟨i0, List.mem_singleton.2 rfl⟩
          · cases hrd : Region.ready .any ops s.ls with
            | nil => rw [hrd] at h1; exact absurd rfl h1
            | cons y _ => exact ⟨y, by simp⟩
        obtain ⟨i, hi⟩ := hw
        obtain ⟨t, _, t', ht', _⟩ := h2 i hi
        cases l' with
        | nil => cases ht'
        | cons y _ => simp only [anyB] at h; cases h
    · cases h
  | succ n ih =>
    intro l h s hsm hcl ν L a w R hG hv
    cases l with
    | nil => cases hsm
    | cons x r =>
    simp only [anyB] at h
    split at h
    · rename_i l' hl'
      obtain ⟨_, hst⟩ := stepL_ok hl'
      rcases hst s hsm with ⟨h1, h2⟩ | ⟨h1, h2⟩
      · simp only [Bool.and_eq_true, List.isEmpty_iff] at h2 h1
        obtain ⟨h2, h3⟩ := h2
        rw [h2] at hv
        simp only [List.map_nil, runGs, Option.some.injEq] at hv
        subst hv
        obtain ⟨h4, h5⟩ := sameAl_ok h3
        exact wpX_done h1 (hQ a w L (R.congr h4 h5)) (n + 1)
      · have step : ∀ i ∈ ways P ops s, i ∈ Region.ready .any ops s.ls → ∃ o g E ν1 α1, ops[i]? = some o ∧ (∀ d, o.dst = some d → N.W d) ∧ Rel P w0 M N α1 ν L a w ∧ RM.out α1 (stepOp P sg (hs i) ops s.G o) (g, E) ∧ g.run Φ ν = some ν1 ∧
            ∀ a' w' L', Rel P w0 M N (E.ap α1 o.dst) ν1 L' a' w' → GInv (stepG s.G o) ν1 a' → wpX P ops Q n (s.ls.setIfInBounds i true) a' w' := by
          intro i hi hrdy
          obtain ⟨t, ht, t', ht', hsame⟩ := h2 i hi
          unfold nxt at ht
          split at ht
          · rename_i r1 o pre post hr ho hcut
            simp only [Option.bind_eq_some_iff] at ht
            obtain ⟨α1, hwk, ht⟩ := ht
            split at ht
            · rename_i hc
              simp only [Bool.and_eq_true, List.all_eq_true] at hc
              obtain ⟨hsg, hcm⟩ := hc
              cases ht
              obtain ⟨hd, hrun⟩ := htold i r1 o hr ho
              obtain ⟨hR1, hl⟩ := wk_ok (P := P) (w0 := w0) (M := M) (N := N) (ν := ν) (L := L) (a := a) (w := w) hwk
              have hrun' := run_congr hrun (α' := α1) hl
              rw [← stepOp_sameG hsg] at hrun'
              rw [cutAt_ok hcut] at hv
              simp only [List.map_append, List.map_cons] at hv
              have hvg : vgAt rs i = r1.vg := by simp [vgAt, hr]
              rw [hvg] at hv
              obtain ⟨ν1, h3, h4⟩ := runGs_take (by rw [List.all_map, List.all_eq_true]; exact hcm) hv
              rw [← List.map_append] at h4
              refine ⟨o, r1.vg, r1.eff, ν1, α1, ho, dstOk_ok hd, hR1 R, ⟨_, hrun'⟩, h3, fun a' w' L' R' hG' => ?_⟩
              rw [← apF_eq] at R'
              obtain ⟨k1, k2, k3, k4⟩ := same_ok (ν := ν1) hsame R' hG'
              have := ih l' h t' ht' (by rw [← k1]; exact cl_step hcl hrdy) ν1 L' a' w' k3 k4 (by rw [← k2]; exact h4)
              rw [← k1] at this
              exact this
            · cases ht
          · cases ht
        unfold ways at step
        split at step
        · rename_i i hf
          unfold eagerR at hf
          have h5 := List.find?_some hf
          have h6 := List.mem_of_find?_eq_some hf
          obtain ⟨o, g, E, ν1, α1, ho, hd, R1, hout, hrun, hK⟩ := step i (by simp) h6
          simp only [Bool.and_eq_true] at h5
          obtain ⟨⟨hfl, hfree⟩, hfr⟩ := h5
          have hrd : isRd o = true := by simpa [flg, ho] using hfl
          obtain ⟨v, hy, hk⟩ := stepOp_read (K := wpX P ops Q n (s.ls.setIfInBounds i true)) R1 hG hd hrd hout hrun hK
          exact wpX_first ho (Region.noSelect_spec hsel) hfl n s.ls a hcl (Region.free_spec ho hfree) (freeR_spec hfr) h6 hy hk
        split at step
        · rename_i i hf
          unfold eager at hf
          have h5 := List.find?_some hf
          have h6 := List.mem_of_find?_eq_some hf
          obtain ⟨o, g, E, ν1, α1, ho, hd, R1, hout, hrun, hK⟩ := step i (by simp) h6
          simp only [ho, Option.any_some, Bool.and_eq_true] at h5
          obtain ⟨hm, hfree⟩ := h5
          have hm0 := hm
          unfold isMove at hm
          split at hm
          · rename_i x hx
            obtain ⟨v, hy, hk⟩ := stepOp_move (K := wpX P ops Q n (s.ls.setIfInBounds i true)) (Q := Q) R1 hG hd hx hsims hout hrun hK
            exact wpX_firstW ho (Region.noSelect_spec hsel) (fun c a w h => (hp c _ _ h).elim) n s.ls a w (Region.free_spec ho hfree) h6 hy hk
          · rename_i t x f hx
            obtain ⟨v, hy, hk⟩ := stepOp_fa (K := wpX P ops Q n (s.ls.setIfInBounds i true)) (Q := Q) R1 hG hd hx hm0 hsims hp hout hrun hK
            exact wpX_firstW ho (Region.noSelect_spec hsel) (fun c a w h => (hp c _ _ h).elim) n s.ls a w (Region.free_spec ho hfree) h6 hy hk
          · cases hm
        · refine ⟨fun e => absurd (by rw [e]; rfl) h1, fun i hi => ?_⟩
          obtain ⟨o, g, E, ν1, α1, ho, hd, R1, hout, hrun, hK⟩ := step i hi hi
          split
          · rename_i hfl
            have hrd : isRd o = true := by simpa [flg, ho] using hfl
            obtain ⟨v, hy, hk⟩ := stepOp_read (K := wpX P ops Q n (s.ls.setIfInBounds i true)) R1 hG hd hrd hout hrun hK
            exact hy.stOp ho hk
          · exact stepOp_ok R1 hG hd ho hsims hout hrun hK
    · cases h
theorem regT_told : ∀ (os : List Oper) (i : Nat) {α β : Al} {G : List Nat} {rs : List SR}, regT P sg N.st hs ops i os α G = some (rs, β) → rs.length = os.length ∧ ∀ (j : Nat) (r : SR) (o : Oper), rs[j]? = some r → os[j]? = some o → dstOk N.st o = true ∧ (stepOp P sg (hs (i + j)) ops r.G o).run r.al = some ((r.vg, r.eff), r.lk)
  | [], i, α, β, G, rs, h => by
    simp only [regT, Option.some.injEq, Prod.mk.injEq] at h
    obtain ⟨rfl, _⟩ := h
    exact ⟨rfl, fun j r o hr => by simp at hr⟩
  | o :: os, i, α, β, G, rs, h => by
    simp only [regT, apF_eq] at h
    split at h
    · rename_i hd
      simp only [Option.bind_eq_some_iff, Option.map_eq_some_iff, Prod.mk.injEq] at h
      obtain ⟨⟨⟨g, E⟩, lk⟩, h1, ⟨rs', α2⟩, h2, rfl, hα⟩ := h
      obtain ⟨h3, h4⟩ := regT_told os (i + 1) h2
      refine ⟨by simp [h3], fun j r o' hr ho => ?_⟩
      cases j with
      | zero =>
        simp only [List.getElem?_cons_zero, Option.some.injEq] at hr ho
        subst hr ho
        exact ⟨hd, h1⟩
      | succ j =>
        have := h4 j r o' (by simpa using hr) (by simpa using ho)
        rw [show i + 1 + j = i + (j + 1) by omega] at this
        exact this
    · cases h
theorem Rel.drew (R : Rel P w0 M N α ν L a w) : ∃ L', Rel P w0 M N α ν L' a w.drew := by
  have := R.callStep (w' := w.drew) (ν' := ν) (ks := []) (gv := fun _ => False) (nr := fun _ => none) (nb := fun _ => none) (cb := fun _ => False) (F' := L.F) (l := []) {
    hw := WStep.drew w _
    hgv := fun t h => h.elim
    F := fun b h => h
    hF' := fun b h => .inl h
    νs := fun _ => rfl
    νt := fun _ _ => rfl
    νb := fun _ _ _ => rfl
    rows := fun t r _ h => by cases h
    rowb := fun t r b _ h => by cases h
    boxb := fun u b _ h => by cases h
    hcb := fun u h => h.elim
    boxes := fun u x b ro h => by cases h
    rr := fun t t' r r' b _ _ h => by cases h
    rb := fun t r u b _ _ h => by cases h
    bb := fun u u' b _ _ h => by cases h }
  rw [Al.sk_nil] at this
  exact ⟨_, this⟩
/-- a region of open order -/
theorem region_any_ok {id : Nat} {rs : List SR} (hsims : Sims P w0 M sg Φ) (hm : P.follows .mixedOrders = true) (h : regT P sg N.st hs ops 0 ops.toList α [] = some (rs, α')) (hany : anyR P ops rs α' α = true) (hsel : Region.noSelect ops = true)
    (R : Rel P w0 M N α ν L a w) (hv : runGs Φ (rs.map (·.vg)) ν = some ν') (hp : ∀ c a w, ¬ Q (.panic c) a w) (hQ : ∀ a' w' L', Rel P w0 M N α' ν' L' a' w' → Q .normal a' w') : (Code.region id ops true).wp P Q a w := by
  obtain ⟨L1, R1⟩ := R.drew
  obtain ⟨hlen, ht⟩ := regT_told ops.toList 0 h
  refine wp_region_any hm (wpX_any _ _ _ _ (anyB_ok hsims (rs := rs) (sg := sg) (hs := hs) (N := N) (fun i r o hr ho => ?_) hsel hp hQ ops.size _ hany _ (List.mem_singleton.2 rfl) cl_nil ν L1 a _ R1 (fun s hs => by simp at hs) ?_))
  · have := ht i r o hr (by simpa using ho)
    rw [Nat.zero_add] at this
    exact this
  · have : (List.range ops.size).map (vgAt rs) = rs.map (·.vg) := by
      apply List.ext_getElem
      · simp [hlen]
      · intro i h1 h2
        have hi : i < rs.length := by simpa using h2
        simp [vgAt, hi]
    rw [this]; exact hv
end
end Go.Proofs.YtlhcgiegganbpaaDoorVs
set_option linter.unusedVariables false
set_option linter.unusedSimpArgs false
namespace Go.Proofs.YtlhcgiegganbpaaDoorVs
/-- variable u's part j, an own row, is told for good -/
def frzE (α : Al) (u j : Nat) : Option Eff := match α.box u with
  | some bx => if bx.ro then none else match bx.as[j]? with
    | some (.own t) => some { vis := [viG [(bC u, (List.range bx.as.length).map fun i => if i = j then (.c (tC t), 0) else (.c (bC u), i))] [(bC u, j)] []], kill := [tkK t], setb := [(u, ⟨false, (bx.as.map (At.sk [] [tkK t])).set j (.v .fz)⟩)], dst := .one .dead }
    | _ => none
  | none => none
section
variable {P : Program} {w0 : World} {M : Nat → Prop} {N : Fr} {α β : Al} {ν ν' : Env} {L : Lay} {a : Act} {w : World} {Φ : Funs} {E : Eff}
theorem Rel.setBox (R : Rel P w0 M N α ν L a w) {u : Nat} {xs : List V} {bx : Bx} (h : ∀ b ro, L.box u = some (b, ro) → bx.ro = ro ∧ BoxOK P L w b bx.as xs) : Rel P w0 M N (α.setBs [(u, bx)]) (ν.upd (bC u) xs) L a w := by
  refine ⟨R.nt, R.nd, R.kp, R.fs, R.sl, fun s => ?_, fun t r ht => ?_, fun v b ro hu x hx => ?_, R.rowmine, R.boxmine, R.boxro, R.rr, R.rb, R.bb⟩
  · rw [slot_setBs, upd_ne (by simp only [sC, bC]; omega)]; exact R.slots s
  · rw [upd_ne (by simp only [tC, bC]; omega)]; exact R.rows t r ht
  · rw [box_setBs'] at hx
    by_cases hv : v = u
    · subst hv
      simp [setbOf] at hx
      subst hx
      rw [upd_same]
      exact h b ro hu
    · have : setbOf [(u, bx)] v = none := by simp [setbOf, List.find?, show (u == v) = false by simpa using fun e => hv e.symm]
      rw [this] at hx
      rw [upd_ne (by simp only [bC]; omega)]
      exact R.boxes v b ro hu x hx
theorem frzE_ok (R : Rel P w0 M N α ν L a w) {u j : Nat} (h : frzE α u j = some E) (hv : runIs Φ E.vis ν = some ν') : Goal P w0 M N (E.ap α none) ν' a w := by
  unfold frzE at h
  split at h
  · rename_i bx hbx
    split at h
    · cases h
    · rename_i hro
      split at h
      · rename_i t hj
        cases h
        obtain ⟨hchk, _, xs, hps, rfl⟩ := viG1 (run_ins1 hv)
        have hjl : j < bx.as.length := (List.getElem?_eq_some_iff.1 hj).1
        have R1 := R.freeze [tkK t] (fun x => x = t) (fun x => by simp only [List.mem_singleton, tkK]; omega) (fun v => by simp only [List.mem_singleton, bxK, tkK]; omega)
        simp only [Eff.ap, ap_sk]
        refine ⟨_, R1.setBox (fun b ro hu => ?_)⟩
        have hu' : L.box u = some (b, ro) := by
          have : bxK u ∉ [tkK t] := by simp only [List.mem_singleton, bxK, tkK]; omega
          simp only [Lay.after, if_neg this] at hu
          exact hu
        obtain ⟨h1, h2⟩ := R.boxes u b ro hu' bx hbx
        have hbx1 : (α.sk [] [tkK t]).box u = some (bx.map (At.sk [] [tkK t])) := by rw [Al.sk, box_map, hbx]; rfl
        obtain ⟨h3, h4⟩ := R1.boxes u b ro hu _ hbx1
        obtain ⟨C, ty, fz, k1, k2, k3⟩ := h4.cells
        obtain ⟨C', ty', fz', k1', k2', k3'⟩ := h2.cells
        rw [k1] at k1'
        cases k1'
        refine ⟨by simp at hro; rw [← h1, hro], C, ty, fz, k1, k2, ?_⟩
        obtain ⟨hl, hp⟩ := hps
        simp only [List.length_map, List.length_range] at hl hp
        obtain ⟨l1, l2, l3⟩ := k3
        obtain ⟨l1', l2', l3'⟩ := k3'
        simp only [Bx.map, List.length_map] at l1 l2 l3
        refine ⟨by simpa using l1, by simpa using hl, fun i hi hi1 hi2 => ?_⟩
        simp only [List.length_set, List.length_map] at hi
        have hpi := hp i (by simpa using hi) hi1
        simp only [List.getElem_map, List.getElem_range] at hpi
        rw [List.getElem_set]
        by_cases hij : j = i
        · subst hij
          rw [if_pos rfl]
          rw [if_pos rfl] at hpi
          have hun : unitAt ν (bC u, j) = true := by simpa using hchk
          have hz := l3' j hjl (by rw [l2']; exact hjl) hi2
          have e1 : bx.as[j] = .own t := by
            have := List.getElem?_eq_getElem hjl; rw [hj] at this; exact (Option.some.inj this).symm
          rw [e1] at hz
          have hne : (ν (bC u))[j]'(by rw [l2']; exact hjl) = .unit := by
            simp only [unitAt] at hun
            rw [List.getElem?_eq_getElem (by rw [l2']; exact hjl)] at hun
            generalize (ν (bC u))[j]'(by rw [l2']; exact hjl) = z at hun
            cases z <;> first | rfl | (simp at hun)
          rw [hne] at hz
          rcases hz with hz | ⟨_, r, hr1, hr2⟩
          · cases hz
          right
          rw [hr2]
          obtain ⟨ys, hy, hrd⟩ := row_rdF R hr1 (fun b => L.F b ∨ L.gvB (fun x => x = t) b) (fun b h => .inl h) (fun b hb => .inr ⟨t, r, rfl, hr1, hb⟩)
          have : xs[j] = .list r.e ys := by
            have := hpi.1
            simp only [pcGet, VArg.get, hy, List.getElem?_cons_zero, Option.some.injEq] at this
            exact this.symm
          rw [this]
          exact hrd
        · rw [if_neg hij, List.getElem_map]
          rw [if_neg (fun e => hij e.symm)] at hpi
          have hlen : i < (ν (bC u)).length := by rw [l2']; exact hi
          have hz := l3 i (by simpa using hi) hlen hi2
          simp only [List.getElem_map] at hz
          have : xs[i] = (ν (bC u))[i] := by
            have := hpi.1
            simp only [pcGet, VArg.get] at this
            rw [List.getElem?_eq_getElem hlen] at this
            exact (Option.some.inj this).symm
          rw [this]
          exact hz
      · cases h
  · cases h
end
end Go.Proofs.YtlhcgiegganbpaaDoorVs
set_option linter.unusedVariables false
set_option linter.unusedSimpArgs false
namespace Go.Proofs.YtlhcgiegganbpaaDoorVs
/-! ### where ways meet -/
def meetSrc (s s' : Src) : Option Src := if leSrc s s' then some s' else if leSrc s' s then some s else none
def meetA (a b : At) : At := match a, b with
  | .v s, .v s' => match meetSrc s s' with
    | some r => .v r
    | none => .dead
  | .iel s j, .iel s' j' => if j = j' then match meetSrc s s' with
    | some r => .iel r j
    | none => .dead
    else .dead
  | a, b => if a = b then a else .dead
def meetAs : List At → List At → List At
  | a :: as, b :: bs => meetA a b :: meetAs as bs
  | _, _ => []
def meetPs : List (Bool × List At) → List (Bool × List At) → Option (List (Bool × List At))
  | [], [] => some []
  | p :: ps, q :: qs => if p.1 = q.1 ∧ p.2.length = q.2.length then (meetPs ps qs).map ((p.1, meetAs p.2 q.2) :: ·) else none
  | _, _ => none
def meetSh (a b : Sh) : Sh := match a, b with
  | .one x, .one y => .one (meetA x y)
  | .agg xs, .agg ys => if xs.length = ys.length then .agg (meetAs xs ys) else .one .dead
  | .tup ps, .tup qs => match meetPs ps qs with
    | some r => .tup r
    | none => .one .dead
  | _, _ => .one .dead
def meetSl : List Sh → List Sh → List Sh
  | a :: as, b :: bs => meetSh a b :: meetSl as bs
  | _, _ => []
def meetAl (α β : Al) : Al := ⟨meetSl α.sl β.sl, α.bx.filterMap fun p => match β.box p.1 with
  | some y => if p.2.ro = y.ro ∧ p.2.as.length = y.as.length then some (p.1, ⟨p.2.ro, meetAs p.2.as y.as⟩) else none
  | none => none⟩
def meetO : Option Al → Option Al → Option Al
  | none, b => b
  | a, none => a
  | some a, some b => some (meetAl a b)
def leO (a b : Option Al) : Bool := match a, b with
  | none, _ => true
  | some a, some b => leAl a b
  | some _, none => false

/-! ### rows change their names -/
def swN (t u x : Nat) : Nat := if x = t then u else if x = u then t else x
def Src.sw (t u : Nat) : Src → Src
  | .of x => .of (swN t u x)
  | s => s
def At.sw (t u : Nat) : At → At
  | .v s => .v (s.sw t u)
  | .own x => .own (swN t u x)
  | .elt x j => .elt (swN t u x) j
  | .iel s j => .iel (s.sw t u) j
  | a => a
def Al.sw (t u : Nat) (α : Al) : Al := α.map (At.sw t u)
/-- own rows of a variable bear the variable's name -/
def canonAs (f : Nat → Nat) : Nat → List At → Option (Nat × Nat)
  | _, [] => none
  | j, .own t :: r => if t = f j then canonAs f (j + 1) r else some (t, f j)
  | j, _ :: r => canonAs f (j + 1) r
def canonS (α : Al) : List Nat → Option (Nat × Nat)
  | [] => none
  | s :: r => match α.slot s with
    | .one a => (canonAs (tokS s) 0 [a]).or (canonS α r)
    | .agg as => (canonAs (tokS s) 0 as).or (canonS α r)
    | _ => canonS α r
def canonB : List (Nat × Bx) → Option (Nat × Nat)
  | [] => none
  | p :: r => if p.2.ro then canonB r else (canonAs (tokB p.1) 0 p.2.as).or (canonB r)
def canonSs : Nat → List Nat → Al → List (Nat × Nat) × Al
  | 0, _, α => ([], α)
  | n + 1, ss, α => match canonS α ss with
    | none => ([], α)
    | some p => let q := canonSs n ss (α.sw p.1 p.2); (p :: q.1, q.2)
def canonBs : Nat → Al → List (Nat × Nat) × Al
  | 0, α => ([], α)
  | n + 1, α => match canonB α.bx with
    | none => ([], α)
    | some p => let q := canonBs n (α.sw p.1 p.2); (p :: q.1, q.2)
def assigned : List Oper → List Nat
  | [] => []
  | o :: r => match o.op, o.dst with
    | .assign _, some d => d :: assigned r
    | _, _ => assigned r
def canon (ops : List Oper) (α : Al) : List (Nat × Nat) × Al :=
  let p := canonSs 16 (assigned ops) α
  let q := canonBs 16 p.2
  (p.1 ++ q.1, q.2)
def rens (c : VC) : List (Nat × Nat) → VC
  | [] => c
  | p :: r => rens (.seq c (.ren p.1 p.2)) r

/-! ### the translation -/
structure CR where
  code : VC
  nm : Option Al
  ex : List (Nat × Al)
/-- the places of what is known (a hint for the telling of a code) -/
def aliveAs : List At → List Nat
  | [] => []
  | .own t :: r => tC t :: aliveAs r
  | _ :: r => aliveAs r
def aliveSl : Nat → List Sh → List Nat
  | _, [] => []
  | s, .one .dead :: r => aliveSl (s + 1) r
  | s, .one (.gone _) :: r => aliveSl (s + 1) r
  | s, .ogg _ :: r => aliveSl (s + 1) r
  | s, h :: r => sC s :: (aliveAs h.atoms ++ aliveSl (s + 1) r)
def aliveBx : List (Nat × Bx) → List Nat
  | [] => []
  | p :: r => bC p.1 :: (aliveAs p.2.as ++ aliveBx r)
def dedup : List Nat → List Nat
  | [] => []
  | x :: r => let l := dedup r; if l.contains x then l else x :: l
def aliveO : Option Al → List Nat
  | none => []
  | some α => aliveSl 0 α.sl ++ aliveBx α.bx
/-- a way that is not told: nobody may come there -/
def orStuck : Option CR → CR
  | some r => r
  | none => ⟨.stuck, none, []⟩
def exitsTo (id : Nat) : List (Nat × Al) → Option Al
  | [] => none
  | p :: r => if p.1 = id then meetO (some p.2) (exitsTo id r) else exitsTo id r
def exLe (id : Nat) (t : Option Al) (l : List (Nat × Al)) : Bool := l.all fun p => p.1 != id || leO (some p.2) t
def fixL (body : Al → Option CR) : Nat → Al → Option (CR × Al)
  | 0, _ => none
  | n + 1, β => (body β).bind fun r => match r.nm with
    | none => some (r, β)
    | some α => if leAl α β then some (r, β) else fixL body n (meetAl β α)
/-- own rows in variables' parts that are told for good on the other way -/
def frzJ (a b : Al) : List (Nat × Nat) := a.bx.flatMap fun p => if p.2.ro then [] else match b.box p.1 with
  | some y => (List.range p.2.as.length).filterMap fun j => match p.2.as[j]?, y.as[j]? with
    | some (At.own _), some (At.v _) => some (p.1, j)
    | _, _ => none
  | none => []
def frzO (a b : Option Al) : List (Nat × Nat) := match a, b with
  | some a, some b => frzJ a b
  | _, _ => []
def frzC : List (Nat × Nat) → CR → CR
  | [], r => r
  | p :: ps, r => match r.nm with
    | some α => match frzE α p.1 p.2 with
      | some E => frzC ps ⟨.seq r.code (.ins [{ is := E.vis }]), some (E.ap α none), r.ex⟩
      | none => frzC ps r
    | none => frzC ps r
structure Cx where
  P : Program
  sg : Sigs
  N : Nat × List Nat
  hs : Nat → Nat → Nat
  rt : Al → Option VI
def compR (X : Cx) (id : Nat) (ops : Array Oper) (dr : Bool) (α : Al) : Option CR :=
  (regT X.P X.sg X.N (X.hs id) ops 0 ops.toList α []).bind fun p =>
    if dr then
      if anyR X.P ops p.1 p.2 α && Region.noSelect ops then
        let q := canon ops.toList p.2
        some ⟨rens (.ins (p.1.map (·.vg))) q.1, some q.2, []⟩
      else none
    else
      let q := canon ops.toList p.2
      some ⟨rens (.ins (p.1.map (·.vg))) q.1, some q.2, []⟩
def comp (X : Cx) : Code → Al → Option CR
  | .skip, α => some ⟨.ins [], some α, []⟩
  | .label _, α => some ⟨.ins [], some α, []⟩
  | .region id ops dr, α => compR X id ops dr α
  | .seq x y, α => (comp X x α).bind fun r => match r.nm with
    | none => some r
    | some β => let s := orStuck (comp X y β); some ⟨.seq r.code s.code, s.nm, r.ex ++ s.ex⟩
  | .cond c x y, α => match c with
    | .tmp t => match α.slot t with
      | .one (.v _) =>
          let r := frzC (frzO (orStuck (comp X x α)).nm (orStuck (comp X y α)).nm) (orStuck (comp X x α))
          let s := frzC (frzO (orStuck (comp X y α)).nm (orStuck (comp X x α)).nm) (orStuck (comp X y α))
          let m := meetO r.nm s.nm
          if leO r.nm m && leO s.nm m then some ⟨.cond (sC t) (aliveO m) r.code s.code, m, r.ex ++ s.ex⟩ else none
      | _ => none
    | .const (.bool b) => if b then comp X x α else comp X y α
    | _ => none
  | .block id b, α => (comp X b α).bind fun r =>
      let m := meetO r.nm (exitsTo id r.ex)
      if leO r.nm m && exLe id m r.ex then some ⟨.block id (aliveO m) r.code, m, r.ex.filter (·.1 != id)⟩ else none
  | .loop b, α => (fixL (comp X b) 5 α).bind fun q => if leAl α q.2 then some ⟨.loop q.1.code, none, q.1.ex⟩ else none
  | .exit id, α => some ⟨.exit id, none, [(id, α)]⟩
  | .ret, α => (X.rt α).map fun i => ⟨.ret i, none, []⟩
  | _, _ => none
end Go.Proofs.YtlhcgiegganbpaaDoorVs
set_option linter.unusedVariables false
set_option linter.unusedSimpArgs false
namespace Go.Proofs.YtlhcgiegganbpaaDoorVs
/-! ### what comes in -/
def pinB : Nat := 100000
def inAt (base : Nat) : Nat → List PM → List At
  | _, [] => []
  | j, .own :: r => .own (base + j) :: inAt base (j + 1) r
  | j, .fz :: r => .v .fz :: inAt base (j + 1) r
  | j, .lent :: r => .v .lent :: inAt base (j + 1) r
def inSh (s : Nat) : PSh → Sh
  | .one m => match inAt (tokS s 0) 0 [m] with
    | [a] => .one a
    | _ => .one .dead
  | .agg ms => .agg (inAt (tokS s 0) 0 ms)
  | .ptr _ _ => .one (.ptr (pinB + s) 0)
  | .nilp => .one .nilp
  | .nils => .one .dead
def inSl : Nat → List PSh → List Sh
  | _, [] => []
  | s, p :: r => inSh s p :: inSl (s + 1) r
def inBx : Nat → List PSh → List (Nat × Bx)
  | _, [] => []
  | s, .ptr ro ms :: r => (pinB + s, ⟨ro, inAt (tokB (pinB + s) 0) 0 ms⟩) :: inBx (s + 1) r
  | s, _ :: r => inBx (s + 1) r
def inAl (n : Nat) (ps : List PSh) : Al := ⟨inSl 0 ps ++ List.replicate (n - ps.length) (.one .dead), inBx 0 ps⟩
/-- the values that come in: those of own rows stand at the rows' places -/
def inV (m : PM) (x : V) : V := match m with
  | .own => .unit
  | _ => x
def slV (xs : List V) : PSh → List V
  | .one m => List.zipWith inV [m] xs
  | .agg ms => List.zipWith inV ms xs
  | .ptr _ _ => [.unit]
  | .nilp => [.unit]
  | .nils => []
def bxV (xs : List V) : PSh → List V
  | .ptr _ ms => List.zipWith inV ms xs
  | _ => []
def tkV (box : Bool) (j : Nat) (xs : List V) : PSh → List V
  | .ptr _ _ => if box then (xs[j]?).toList else []
  | .nilp => []
  | _ => if box then [] else (xs[j]?).toList
def at2 {β : Type} (f : List V → PSh → List β) (ps : List PSh) (xss : List (List V)) (s : Nat) : List β := match ps[s]?, xss[s]? with
  | some p, some xs => f xs p
  | _, _ => []
def env0 (ps : List PSh) (xss : List (List V)) : Env := fun c =>
  if c % 3 = 0 then at2 slV ps xss (c / 3)
  else if c % 3 = 1 then if c / 3 < pinB then [] else at2 bxV ps xss (c / 3 - pinB)
  else if (c / 3 / 64) % 2 = 0 then at2 (tkV false (c / 3 % 64)) ps xss (c / 3 / 64 / 2)
  else if c / 3 / 64 / 2 < pinB then [] else at2 (tkV true (c / 3 % 64)) ps xss (c / 3 / 64 / 2 - pinB)

/-! ### what goes out -/
/-- how a result is handed out: as an argument of another call would be -/
def outP (s : RSh) (h : Sh) : PSh := match s, h with
  | .one m, _ => .one m
  | .agg ms, _ => .agg ms
  | .obx _, .one .nilp => .nilp
  | .obx ms, _ => .ptr false ms
def outW (s : RSh) (p : PSh) (ps : List Pc) : List Pc := match s, p with
  | .obx ms, .nilp => (.lit [.bool false], 0) :: List.replicate ms.length pcU
  | .obx _, _ => (.lit [.bool true], 0) :: ps
  | _, _ => ps
def noLent (l : List PM) : Bool := l.all (· != .lent)
def RSh.plain : RSh → Bool
  | .one m => noLent [m]
  | .agg ms => noLent ms
  | .obx ms => noLent ms
/-- a result's place -/
def outSeg (P : Program) : ResultVar → RM (Seg × List (Nat × Nat))
  | .tmp t => .sl t fun h => .ok (⟨h, .c (sC t)⟩, [])
  | .cell a t => .sl a fun h => match h with
    | .one (.ptr u 0) => .bx u fun b => do
      let b ← RM.opt b
      let n ← RM.opt (szOf P t)
      let ag ← RM.opt (agT P t)
      RM.need (n == b.as.length)
      let h ← RM.opt (mkSh ag b.as)
      .ok (⟨h, .c (bC u)⟩, [(sC a, 0)])
    | _ => .no
def outSegs (P : Program) : List RSh → List ResultVar → RM (List (PSh × Seg) × List (Nat × Nat))
  | [], [] => .ok ([], [])
  | s :: r, v :: vs => do
    let q ← outSeg P v
    let l ← outSegs P r vs
    .ok ((outP s q.1.sh, q.1) :: l.1, q.2 ++ l.2)
  | _, _ => .no
def backSegs : Nat → List PSh → RM (List (PSh × Seg))
  | _, [] => .ok []
  | s, .ptr false ms :: r => .sl s fun h => do
    let l ← backSegs (s + 1) r
    .ok ((.ptr false (ms.map bkM), ⟨h, .c (sC s)⟩) :: l)
  | s, _ :: r => backSegs (s + 1) r
def passSegs : List (PSh × Seg) → RM (List Arg)
  | [] => .ok []
  | p :: r => do
    let a ← passArg p.1 p.2.sh p.2.arg
    let l ← passSegs r
    .ok (a :: l)
def outWs : List RSh → List (PSh × Seg) → List Arg → List (List Pc)
  | s :: ss, p :: ps, a :: as => outW s p.1 a.ps :: outWs ss ps as
  | [], _, as => as.map (·.ps)
  | _, _, _ => []
def compRet (P : Program) (g : Sig) (rs : List ResultVar) : RM VI := do
  RM.need (g.rs.all RSh.plain)
  let q ← outSegs P g.rs rs
  let bs ← backSegs 0 g.ps
  let as ← passSegs (q.1 ++ bs)
  RM.need (nodupB (as.map Arg.keys).flatten)
  RM.need (as.map (·.ln)).flatten.isEmpty
  .ok { f := .gather (numb 0 (outWs g.rs (q.1 ++ bs) as)), rd := (outWs g.rs (q.1 ++ bs) as).flatten.map (·.1), chk := q.2 ++ (as.map (·.chk)).flatten, asr := (as.map (·.asr)).flatten, wr := [] }
/-- slots that must stay -/
def keepS : Nat → List PSh → List Nat
  | _, [] => []
  | s, .ptr false _ :: r => s :: keepS (s + 1) r
  | s, _ :: r => keepS (s + 1) r
def cxOf (P : Program) (sg : Sigs) (hs : Nat → Nat → Nat) (fn : Func) (g : Sig) : Cx := ⟨P, sg, (fn.ntmps, keepS 0 g.ps), hs, fun α => ((compRet P g fn.results.toList).run α).map (·.1)⟩
def PSh.ms : PSh → List PM
  | .one m => [m]
  | .agg ms => ms
  | .ptr _ ms => ms
  | .nilp => []
  | .nils => []
def ms64 : Nat → List PM → Bool
  | _, [] => true
  | j, m :: r => (m != .own || decide (j < 64)) && ms64 (j + 1) r
def compF (P : Program) (sg : Sigs) (hs : Nat → Nat → Nat) (fn : Func) (g : Sig) : Option VC :=
  if decide (g.ps.length ≤ fn.ntmps) && g.ps.all (fun p => ms64 0 p.ms) then
    match fn.body with
    | some c => (comp (cxOf P sg hs fn g) c (inAl fn.ntmps g.ps)).bind fun r => match r.nm with
      | none => if r.ex.isEmpty then some r.code else none
      | some α => ((compRet P g fn.results.toList).run α).bind fun i => if r.ex.isEmpty then some (.seq r.code (.ret i.1)) else none
    | none => none
  else none
end Go.Proofs.YtlhcgiegganbpaaDoorVs
