/-
  A call of a function comes to what its instructions say. Conditions: each lemma's own premises.
-/
import Derived.Test.YtogfkdpgkloljaaDoorVsV
set_option linter.unusedVariables false
set_option linter.unusedSimpArgs false
namespace Go.Proofs.YtogfkdpgkloljaaDoorVs
section
variable {P : Program} {w0 : World} {M : Nat → Prop} {N : Fr} {α : Al} {ν ν' : Env} {L : Lay} {a : Act} {w w' : World} {Φ : Funs} {o : Oper} {d : Nat} {E : Eff}
theorem run_enter {c : Call} {f : FuncId} (ho : o.op = .call c) (hc : c.callee = .value (.func f)) (he : ∃ fn, P.funcs[f]? = some fn ∧ (fn.name == "runtime.NumGoroutine") = false ∧ fn.body.isNone = false) :
    (execOp a.eval o).run P w = .ok (.enter f (c.args.map a.eval)) w := by
  obtain ⟨fn, h1, h2, h3⟩ := he
  have h2' : ¬ fn.name = "runtime.NumGoroutine" := by simpa using h2
  have h3' : ¬ fn.body = none := by
    intro h; rw [h] at h3; cases h3
  simp [execOp, ho, resolve, hc, Act.eval, Deferred.ofValue, invoke, callFunc, h1, h2', h3']
/-- results -/
theorem resL_ok {F' : Nat → Prop} {raw : List (List V)} {d : Nat} : ∀ (rs : List RSh) (q o : Nat) (raw1 : List (List V)) (vs : List Value), RRess P F' w' rs raw1 vs → (∀ i, i < raw1.length → raw[q + i]? = raw1[i]?) →
    (∀ p ∈ ((resL d q o rs).map (·.outs)).flatten, ∃ zs, outV raw p.2 = some zs ∧ ν' p.1 = zs) → ((resL d q o rs).map Res.ou).flatten.Nodup →
    ∃ rw nb kb, ItOK P F' w' ν' ((resL d q o rs).map Res.ou).flatten ((resL d q o rs).map (·.kill)).flatten ((resL d q o rs).map (·.setb)).flatten rw nb [] kb (ressB w' rs vs) ∧
      ∀ L' : Lay, (∀ b, F' b → L'.F b) → (∀ p ∈ rw, L'.row p.1 = some p.2) → (∀ p ∈ nb, L'.box p.1 = some (p.2, false)) → ∀ zs, outV raw ((resL d q o rs).map (·.sl)).flatten = some zs → RParts P L' w' ((resL d q o rs).map (·.part)) zs vs
  | [], q, o, [], [], h, hr, hν, hn => ⟨[], [], [], .nil, fun L' _ _ _ zs hz => ⟨outV_nil hz, rfl⟩⟩
  | [], q, o, _ :: _, _, h, hr, hν, hn => h.elim
  | [], q, o, [], _ :: _, h, hr, hν, hn => h.elim
  | s :: rs, q, o, [], _, h, hr, hν, hn => h.elim
  | s :: rs, q, o, _ :: _, [], h, hr, hν, hn => h.elim
  | s :: rs, q, o, xs :: raw1, v :: vs, ⟨h1, h2⟩, hr, hν, hn => by
    have hr0 : raw[q]? = some xs := by simpa using hr 0 (by simp)
    simp only [resL, List.map_cons, List.flatten_cons] at hν hn ⊢
    obtain ⟨rw1, nb1, kb1, I1, p1⟩ := res1_ok (P := P) (d := d) (o := o) (ν' := ν') h1 hr0 (fun p hp => hν p (List.mem_append_left _ hp))
    obtain ⟨rw2, nb2, kb2, I2, p2⟩ := resL_ok rs (q + 1) (o + s.width) raw1 vs h2 (fun i hi => by
      have := hr (i + 1) (by simpa using hi)
      rw [show q + 1 + i = q + (i + 1) by omega]
      simpa using this) (fun p hp => hν p (List.mem_append_right _ hp)) (List.nodup_append.1 hn).2.1
    refine ⟨_, _, _, I1.cat I2 hn, fun L' hF hrow hnb zs hz => ?_⟩
    obtain ⟨z1, z2, rfl, h3, h4⟩ := outV_append hz
    exact ⟨z1, z2, v, vs, rfl, rfl, p1 L' hF (fun p hp => hrow p (List.mem_append_left _ hp)) (fun p hp => hnb p (List.mem_append_left _ hp)) z1 h3, p2 L' hF (fun p hp => hrow p (List.mem_append_right _ hp)) (fun p hp => hnb p (List.mem_append_right _ hp)) z2 h4⟩
def cbOf (L : Lay) (A : Arg) : List (Nat × Nat) := match A.back with
  | none => []
  | some (u, ms) => ((L.box u).map fun x => (u, x.1)).toList
/-- variables that come back -/
theorem backL_ok {F' : Nat → Prop} {raw : List (List V)} : ∀ (As : List Arg) (q : Nat) (raw2 : List (List V)), (∀ A ∈ As, ∀ u ms, A.back = some (u, ms) → ∃ b, L.box u = some (b, false)) → RBacks P F' w' (As.map (backP L)).flatten raw2 → (∀ i, i < raw2.length → raw[q + i]? = raw2[i]?) →
    (∀ p ∈ ((backL q As).map (·.outs)).flatten, ∃ zs, outV raw p.2 = some zs ∧ ν' p.1 = zs) → ((backL q As).map Res.ou).flatten.Nodup →
    ∃ rw kb, ItOK P F' w' ν' ((backL q As).map Res.ou).flatten ((backL q As).map (·.kill)).flatten ((backL q As).map (·.setb)).flatten rw [] (As.map (cbOf L)).flatten kb (backsB w' (As.map (backP L)).flatten)
  | [], q, raw2, hb, h, hr, hν, hn => ⟨[], [], .nil⟩
  | A :: As, q, raw2, hb, h, hr, hν, hn => by
    cases hA : A.back with
    | none =>
      have e1 : backP L A = [] := by simp [backP, hA]
      have e2 : cbOf L A = [] := by simp [cbOf, hA]
      simp only [List.map_cons, List.flatten_cons, e1, e2, List.nil_append, backL, hA] at h hν hn ⊢
      exact backL_ok As q raw2 (fun B hB => hb B (List.mem_cons_of_mem _ hB)) h hr hν hn
    | some um =>
      obtain ⟨u, ms⟩ := um
      obtain ⟨b, hu⟩ := hb A List.mem_cons_self u ms hA
      have e1 : backP L A = [(b, ms.map bkM)] := by simp [backP, hA, hu]
      have e2 : cbOf L A = [(u, b)] := by simp [cbOf, hA, hu]
      simp only [List.map_cons, List.flatten_cons, e1, e2, List.singleton_append, backL, hA] at h hν hn ⊢
      cases raw2 with
      | nil => exact h.elim
      | cons xs raw2 =>
        obtain ⟨h1, h2⟩ := h
        obtain ⟨rw1, kb1, I1⟩ := back1_ok (P := P) (ν' := ν') (q := q) (u := u) h1 (by simpa using hr 0 (by simp)) (fun p hp => hν p (List.mem_append_left _ hp))
        obtain ⟨rw2, kb2, I2⟩ := backL_ok As (q + 1) raw2 (fun B hB => hb B (List.mem_cons_of_mem _ hB)) h2 (fun i hi => by
          have := hr (i + 1) (by simpa using hi)
          rw [show q + 1 + i = q + (i + 1) by omega]
          simpa using this) (fun p hp => hν p (List.mem_append_right _ hp)) (List.nodup_append.1 hn).2.1
        exact ⟨_, _, I1.cat I2 hn⟩
/-- the arguments together -/
structure ArgsOK (P : Program) (L : Lay) (w : World) (ps : List PSh) (As : List Arg) (fz : List Nat) (ka : List (Nat × Nat)) (zs : List Nat) (xss : List (List V)) (cs : List Value) : Prop where
  pm : (As.map Arg.keys).flatten.Perm (ka.map (·.1) ++ (fz.map tkK ++ zs))
  row : ∀ t, t ∈ fz → ∃ r, L.row t = some r
  kb : ∀ q, q ∈ ka → L.keyB q.1 q.2
  sn : ka.map (·.2) = argsB w ps cs
  kk : ∀ k, k ∈ (As.map (·.kill)).flatten → ∃ t, k = tkK t
  ok : ∀ F1 S1 : Nat → Prop, (∀ b, L.F b → F1 b) → (∀ b, L.blks fz b → F1 b) → (∀ b, L.S b → S1 b) → (∀ k b, k ∈ (As.map (·.ln)).flatten → L.keyB k b → S1 b) → PArgs P F1 S1 w ps xss cs
  bk : backsOf ps cs = (As.map (backP L)).flatten
  bx : ∀ A ∈ As, ∀ u ms, A.back = some (u, ms) → ∃ b, L.box u = some (b, false) ∧ bxK u ∈ ka.map (·.1)
theorem perm4 (a b c d e f : List Nat) : ((a ++ (b ++ c)) ++ (d ++ (e ++ f))).Perm ((a ++ d) ++ ((b ++ e) ++ (c ++ f))) :=
  List.perm_iff_count.2 fun x => by simp only [List.count_append]; omega
theorem passArgs_ok (R : Rel P w0 M N α ν L a w) : ∀ (ps : List PSh) (args : List (Operand × TypeId)) (As : List Arg) (xss : List (List V)), RM.out α (passArgs P ps args) As → (As.map (·.chk)).flatten.all (unitAt ν) = true → (As.map (·.asr)).flatten.all (trueAt ν) = true →
    xss.length = As.length → (∀ i (h : i < As.length) (h' : i < xss.length), Pieces ν As[i].ps xss[i]) → ∃ fz ka zs, ArgsOK P L w ps As fz ka zs xss (args.map fun p => a.eval p.1)
  | [], [], As, xss, h, hk, hs, hl, hx => by
    simp only [passArgs, out_ok] at h
    subst h
    have : xss = [] := List.eq_nil_of_length_eq_zero hl
    subst this
    exact ⟨[], [], [], by simp, by simp, by simp, rfl, by simp, fun _ _ _ _ _ _ => trivial, rfl, by simp⟩
  | [], _ :: _, As, xss, h, hk, hs, hl, hx => by simp only [passArgs, out_no] at h
  | _ :: _, [], As, xss, h, hk, hs, hl, hx => by simp only [passArgs, out_no] at h
  | p :: ps, (x, t) :: args, As, xss, h, hk, hs, hl, hx => by
    simp only [passArgs, out_bind, out_ok] at h
    obtain ⟨s, h1, A, h2, r, h3, rfl⟩ := h
    cases xss with
    | nil => simp at hl
    | cons xs xss =>
      simp only [List.map_cons, List.flatten_cons, List.all_append, Bool.and_eq_true] at hk hs
      obtain ⟨fz1, ka1, zs1, A1⟩ := passArg_ok R h2 (opd_ok R h1) hk.1 hs.1 (hx 0 (by simp) (by simp))
      obtain ⟨fz2, ka2, zs2, A2⟩ := passArgs_ok R ps args r xss h3 hk.2 hs.2 (by simpa using hl) (fun i hi hi' => hx (i + 1) (by simpa using hi) (by simpa using hi'))
      refine ⟨fz1 ++ fz2, ka1 ++ ka2, zs1 ++ zs2, ?_, ?_, ?_, ?_, ?_, fun F1 S1 k1 k2 k3 k4 => ⟨?_, ?_⟩, ?_, ?_⟩
      · simp only [List.map_cons, List.flatten_cons, List.map_append]
        exact (A1.pm.append A2.pm).trans (perm4 _ _ _ _ _ _)
      · intro t ht
        rcases List.mem_append.1 ht with ht | ht
        · exact A1.row t ht
        · exact A2.row t ht
      · intro q hq
        rcases List.mem_append.1 hq with hq | hq
        · exact A1.kb q hq
        · exact A2.kb q hq
      · simp only [List.map_append, A1.sn, A2.sn, List.map_cons, argsB]
      · intro k hk
        simp only [List.map_cons, List.flatten_cons, List.mem_append] at hk
        rcases hk with hk | hk
        · exact A1.kk k hk
        · exact A2.kk k hk
      · exact A1.ok F1 S1 k1 (fun b hb => k2 b (blks_mono (by simp; intro t h; exact .inl h) b hb)) k3 (fun k b hk => k4 k b (by simp only [List.map_cons, List.flatten_cons, List.mem_append]; exact .inl hk))
      · exact A2.ok F1 S1 k1 (fun b hb => k2 b (blks_mono (by simp; intro t h; exact .inr h) b hb)) k3 (fun k b hk => k4 k b (by simp only [List.map_cons, List.flatten_cons, List.mem_append]; exact .inr hk))
      · simp only [List.map_cons, List.flatten_cons]
        rw [A1.bk, A2.bk]
      · intro B hB u ms hu
        rcases List.mem_cons.1 hB with rfl | hB
        · obtain ⟨b, h4, h5⟩ := A1.bx u ms hu
          exact ⟨b, h4, by rw [List.map_append]; exact List.mem_append_left _ h5⟩
        · obtain ⟨b, h4, h5⟩ := A2.bx B hB u ms hu
          exact ⟨b, h4, by rw [List.map_append]; exact List.mem_append_right _ h5⟩
theorem keyB_inj (R : Rel P w0 M N α ν L a w) {k k' b : Nat} (h : L.keyB k b) (h' : L.keyB k' b) : k = k' := by
  rcases h with ⟨t, r, rfl, h1, h2⟩ | ⟨u, rfl, h1⟩ <;> rcases h' with ⟨t', r', rfl, h3, h4⟩ | ⟨u', rfl, h3⟩
  · rw [R.rr t t' r r' b h1 h3 h2 h4]
  · exact (R.rb t r u' b false h1 h2 h3).elim
  · exact (R.rb t' r' u b false h3 h4 h1).elim
  · rw [R.bb u u' b false h1 h3]
theorem keyB_mine (R : Rel P w0 M N α ν L a w) {k b : Nat} (h : L.keyB k b) : mine w0 M b ∧ b < w.heap.size ∧ ¬ L.S b := by
  rcases h with ⟨t, r, rfl, h1, h2⟩ | ⟨u, rfl, h1⟩
  · exact R.rowmine t r b h1 h2
  · exact R.boxmine u b h1
theorem nodupB_ok : ∀ {l : List Nat}, nodupB l = true → l.Nodup
  | [], _ => List.nodup_nil
  | x :: r, h => by
    simp only [nodupB, Bool.and_eq_true, Bool.not_eq_true'] at h
    exact List.nodup_cons.2 ⟨by simpa using h.1, nodupB_ok h.2⟩
theorem upds_else : ∀ (cs : List Nat) (xss : List (List V)) (ν : Env) (c : Nat), c ∉ cs → ν.upds cs xss c = ν c
  | [], _, ν, c, _ => by simp [Env.upds]
  | _ :: _, [], ν, c, _ => by simp [Env.upds]
  | d :: cs, x :: xss, ν, c, h => by
    simp only [List.mem_cons, not_or] at h
    rw [Env.upds, upds_else cs xss _ c h.2, upd_ne h.1]
theorem upds_get : ∀ (cs : List Nat) (xss : List (List V)) (ν : Env), cs.Nodup → ∀ i (h : i < cs.length) (h' : i < xss.length), ν.upds cs xss cs[i] = xss[i]
  | [], _, ν, _, i, h, _ => by simp at h
  | d :: cs, [], ν, _, i, _, h => by simp at h
  | d :: cs, x :: xss, ν, hn, i, h, h' => by
    obtain ⟨h1, h2⟩ := List.nodup_cons.1 hn
    cases i with
    | zero => simp only [List.getElem_cons_zero]; rw [Env.upds, upds_else cs xss _ d h1, upd_same]
    | succ i => exact upds_get cs xss _ h2 i (by simpa using h) (by simpa using h')
theorem find_of_nodup {β : Type} : ∀ {l : List (Nat × β)} {p : Nat × β}, (l.map (·.1)).Nodup → p ∈ l → l.find? (·.1 == p.1) = some p
  | q :: l, p, hn, hp => by
    simp only [List.map_cons, List.nodup_cons] at hn
    rcases List.mem_cons.1 hp with rfl | hp
    · simp
    · have : (q.1 == p.1) = false := by
        simp only [beq_eq_false_iff_ne]
        intro e
        exact hn.1 (List.mem_map.2 ⟨p, hp, e.symm⟩)
      rw [List.find?_cons, this]
      exact find_of_nodup hn.2 hp
theorem kill_congr {k1 k2 : List Nat} (h : ∀ k, k ∈ k1 ↔ k ∈ k2) (a1 : At) : a1.kill k1 = a1.kill k2 := by
  have h' : ∀ k, k1.contains k = k2.contains k := fun k => by
    rw [Bool.eq_iff_iff]; simpa using h k
  cases a1 with
  | v s => cases s <;> simp only [At.kill, h']
  | iel s j => cases s <;> simp only [At.kill, h']
  | _ => simp only [At.kill, h']
theorem sk_congr {k1 k2 : List Nat} (h : ∀ k, k ∈ k1 ↔ k ∈ k2) (α : Al) : α.sk [] k1 = α.sk [] k2 := by
  simp only [Al.sk]
  congr 1
  funext x
  exact kill_congr h _
end
end Go.Proofs.YtogfkdpgkloljaaDoorVs
