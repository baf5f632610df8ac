/-
  What goes out of a function. Conditions: each lemma's own premises.
-/
import Derived.Test.YtogfkdpgkloljaaDoorVtG
set_option linter.unusedVariables false
set_option linter.unusedSimpArgs false
namespace Go.Proofs.YtogfkdpgkloljaaDoorVs
theorem sem_bind_pure {β : Type} (x : Sem β) : x.bind Sem.pure = x := by
  induction x with
  | pure a => rfl
  | halt h => rfl
  | load m a k ih => simp only [Sem.bind]; congr; funext v; exact ih v
  | store m a v k ih => simp only [Sem.bind]; congr
  | new o k ih => simp only [Sem.bind]; congr; funext v; exact ih v
  | shape r k ih => simp only [Sem.bind]; congr; funext v; exact ih v
  | freeze a n k ih => simp only [Sem.bind]; congr
  | frozen a k ih => simp only [Sem.bind]; congr; funext v; exact ih v
  | getObj r k ih => simp only [Sem.bind]; congr; funext v; exact ih v
  | setObj r o k ih => simp only [Sem.bind]; congr
  | choose q k ih => simp only [Sem.bind]; congr; funext v; exact ih v
  | sys c k ih => simp only [Sem.bind]; congr; funext v; exact ih v
  | program k ih => simp only [Sem.bind]; congr; funext v; exact ih v
  | mark m k ih => simp only [Sem.bind]; congr
theorem sem_bind_assoc {β γ δ : Type} (x : Sem β) (f : β → Sem γ) (g : γ → Sem δ) : (x.bind f).bind g = x.bind (fun y => (f y).bind g) := by
  induction x with
  | pure a => rfl
  | halt h => rfl
  | load m a k ih => simp only [Sem.bind]; congr; funext v; exact ih v
  | store m a v k ih => simp only [Sem.bind]; congr
  | new o k ih => simp only [Sem.bind]; congr; funext v; exact ih v
  | shape r k ih => simp only [Sem.bind]; congr; funext v; exact ih v
  | freeze a n k ih => simp only [Sem.bind]; congr
  | frozen a k ih => simp only [Sem.bind]; congr; funext v; exact ih v
  | getObj r k ih => simp only [Sem.bind]; congr; funext v; exact ih v
  | setObj r o k ih => simp only [Sem.bind]; congr
  | choose q k ih => simp only [Sem.bind]; congr; funext v; exact ih v
  | sys c k ih => simp only [Sem.bind]; congr; funext v; exact ih v
  | program k ih => simp only [Sem.bind]; congr; funext v; exact ih v
  | mark m k ih => simp only [Sem.bind]; congr
theorem sem_lawful : LawfulMonad Sem := LawfulMonad.mk' Sem (id_map := fun x => sem_bind_pure x) (pure_bind := fun _ _ => rfl) (bind_assoc := fun x f g => sem_bind_assoc x f g)
def resV (tmps : Array Value) : ResultVar → Sem Value
  | .tmp t => pure (tmps.getD t undef)
  | .cell a t => do loadVar t (← asAddr (tmps.getD a undef))
theorem results_list {fn : Func} {tmps : Array Value} {P : Program} {w : World} {vs : List Value} (h : (fn.results.toList.mapM (resV tmps)).run P w = .ok vs w) : (results fn tmps).run P w = .ok (tupV vs) w := by
  have e : fn.results.mapM (resV tmps) = List.toArray <$> (fn.results.toList.mapM (resV tmps)) := by
    haveI := sem_lawful
    exact Array.mapM_eq_mapM_toList
  have e2 : results fn tmps = (do
    let vs ← fn.results.mapM (resV tmps)
    pure (if h : vs.size = 1 then vs[0] else .tuple vs)) := by
    unfold results
    congr 1
  rw [e2, e]
  simp only [Sem.run_bind, Sem.run_map, h, Result.andThen, Sem.run_pure]
  congr 1
  match vs with
  | [] => rfl
  | [v] => rfl
  | v :: u :: r => simp [tupV]
section
variable {P : Program} {w0 : World} {M : Nat → Prop} {N : Fr} {α α' β : Al} {ν ν' : Env} {L : Lay} {a : Act} {w w' : World} {Φ : Funs}
def SegsOK (P : Program) (L : Lay) (w : World) (ν : Env) : List (PSh × Seg) → List Value → Prop
  | [], [] => True
  | p :: l, c :: cs => RSl P L w p.2.sh (p.2.arg.get ν) c ∧ SegsOK P L w ν l cs
  | _, _ => False
theorem SegsOK.append {l m : List (PSh × Seg)} {cs ds : List Value} (h : SegsOK P L w ν l cs) (h' : SegsOK P L w ν m ds) : SegsOK P L w ν (l ++ m) (cs ++ ds) := by
  induction l generalizing cs with
  | nil => cases cs with
    | nil => exact h'
    | cons => exact h.elim
  | cons p l ih => cases cs with
    | nil => exact h.elim
    | cons c cs => exact ⟨h.1, ih h.2⟩
theorem passSegs_ok (R : Rel P w0 M N α ν L a w) : ∀ (l : List (PSh × Seg)) (As : List Arg) (xss : List (List V)) (cs : List Value), RM.out α (passSegs l) As → SegsOK P L w ν l cs → (As.map (·.chk)).flatten.all (unitAt ν) = true → (As.map (·.asr)).flatten.all (trueAt ν) = true →
    xss.length = As.length → (∀ i (h : i < As.length) (h' : i < xss.length), Pieces ν As[i].ps xss[i]) → ∃ fz ka zs, ArgsOK P L w (l.map (·.1)) As fz ka zs xss cs
  | [], As, xss, cs, h, H, hk, hs, hl, hx => by
    simp only [passSegs, out_ok] at h
    subst h
    have : xss = [] := List.eq_nil_of_length_eq_zero hl
    subst this
    cases cs with
    | nil => exact ⟨[], [], [], by simp, by simp, by simp, rfl, by simp, fun _ _ _ _ _ _ => trivial, rfl, by simp⟩
    | cons => exact H.elim
  | p :: l, As, xss, [], h, H, hk, hs, hl, hx => H.elim
  | p :: l, As, xss, c :: cs, h, H, hk, hs, hl, hx => by
    simp only [passSegs, out_bind, out_ok] at h
    obtain ⟨A, h2, r, h3, rfl⟩ := h
    cases xss with
    | nil => simp at hl
    | cons xs xss =>
      simp only [List.map_cons, List.flatten_cons, List.all_append, Bool.and_eq_true] at hk hs
      obtain ⟨fz1, ka1, zs1, A1⟩ := passArg_ok R h2 H.1 hk.1 hs.1 (hx 0 (by simp) (by simp))
      obtain ⟨fz2, ka2, zs2, A2⟩ := passSegs_ok R l r xss cs h3 H.2 hk.2 hs.2 (by simpa using hl) (fun i hi hi' => hx (i + 1) (by simpa using hi) (by simpa using hi'))
      refine ⟨fz1 ++ fz2, ka1 ++ ka2, zs1 ++ zs2, ?_, ?_, ?_, ?_, ?_, fun F1 S1 k1 k2 k3 k4 => ⟨?_, ?_⟩, ?_, ?_⟩
      · simp only [List.map_cons, List.flatten_cons, List.map_append]
        exact (A1.pm.append A2.pm).trans (perm4 _ _ _ _ _ _)
      · intro t ht
        rcases List.mem_append.1 ht with ht | ht
        · exact A1.row t ht
        · exact A2.row t ht
      · intro q hq
        rcases List.mem_append.1 hq with hq | hq
        · exact A1.kb q hq
        · exact A2.kb q hq
      · simp only [List.map_append, A1.sn, A2.sn, List.map_cons, argsB]
      · intro k hk
        simp only [List.map_cons, List.flatten_cons, List.mem_append] at hk
        rcases hk with hk | hk
        · exact A1.kk k hk
        · exact A2.kk k hk
      · exact A1.ok F1 S1 k1 (fun b hb => k2 b (blks_mono (by simp; intro t h; exact .inl h) b hb)) k3 (fun k b hk => k4 k b (by simp only [List.map_cons, List.flatten_cons, List.mem_append]; exact .inl hk))
      · exact A2.ok F1 S1 k1 (fun b hb => k2 b (blks_mono (by simp; intro t h; exact .inr h) b hb)) k3 (fun k b hk => k4 k b (by simp only [List.map_cons, List.flatten_cons, List.mem_append]; exact .inr hk))
      · simp only [List.map_cons, List.flatten_cons]
        rw [A1.bk, A2.bk]
      · intro B hB u ms hu
        rcases List.mem_cons.1 hB with rfl | hB
        · obtain ⟨b, h4, h5⟩ := A1.bx u ms hu
          exact ⟨b, h4, by rw [List.map_append]; exact List.mem_append_left _ h5⟩
        · obtain ⟨b, h4, h5⟩ := A2.bx B hB u ms hu
          exact ⟨b, h4, by rw [List.map_append]; exact List.mem_append_right _ h5⟩

/-! ### results -/
theorem outSeg_ok (R : Rel P w0 M N α ν L a w) {v : ResultVar} {q : Seg × List (Nat × Nat)} (h : RM.out α (outSeg P v) q) (hk : q.2.all (unitAt ν) = true) : ∃ c, (resV a.tmps v).run P w = .ok c w ∧ RSl P L w q.1.sh (q.1.arg.get ν) c := by
  cases v with
  | tmp t =>
    simp only [outSeg, out_sl, out_ok] at h
    subst h
    exact ⟨_, rfl, R.slots t⟩
  | cell x t =>
    simp only [outSeg, out_sl] at h
    split at h
    · rename_i u hsl
      simp only [out_bx, out_bind, out_opt, out_need, out_ok] at h
      obtain ⟨b, hb, n, hn, ag, hag, _, hnl, sh, hsh, rfl⟩ := h
      have hn' : n = b.as.length := by simpa using hnl
      subst hn'
      have H := R.slots x
      rw [hsl] at H
      obtain ⟨y, hy, hr⟩ := RAs.single H
      have hun := unit_chk hk (List.mem_singleton.2 rfl) hy rfl
      subst hun
      rcases hr with hr | ⟨_, g, ro, hg, hc⟩
      · cases hr
      obtain ⟨C, ty, fz, hh, hfz, hra⟩ := (R.boxes u g ro hg b hb).2.cells
      have hCl : b.as.length = C.size := by simpa using hra.1
      have hcell : ∀ j, j < b.as.length → w.cell? ⟨g, 0 + j, none⟩ = some (C.getD j undef) := fun j hj => by
        have hj' : j < C.size := by omega
        simp [World.cell?, hh, Array.getD, hj']
      have haddr : (asAddr (a.tmps.getD x undef)).run P w = .ok ⟨g, 0, none⟩ w := by rw [hc]; rfl
      cases ag with
      | true =>
        refine ⟨.agg ((List.range b.as.length).map fun j => C.getD j undef).toArray, ?_, ?_⟩
        · simp only [resV, Sem.run_bind, haddr, Result.andThen]
          exact run_loadVar_ag hag hn hcell
        · simp only [mkSh, if_true, Option.some.injEq] at hsh
          subst hsh
          refine ⟨_, rfl, ?_⟩
          have e : ((List.range b.as.length).map fun j => C.getD j undef) = C.toList := by
            apply List.ext_getElem
            · simp [hCl]
            · intro i h1 h2
              have : i < C.size := by simpa using h2
              simp [Array.getD, this]
          simp only [e]
          exact hra
      | false =>
        simp only [mkSh, Bool.false_eq_true, if_false] at hsh
        split at hsh
        · rename_i a1 has
          cases hsh
          have h0 := hcell 0 (by rw [has]; simp)
          refine ⟨C.getD 0 undef, ?_, ?_⟩
          · simp only [resV, Sem.run_bind, haddr, Result.andThen]
            exact run_loadVar_1 hag h0
          · have hC1 : C.size = 1 := by rw [← hCl, has]; rfl
            have e : C.toList = [C.getD 0 undef] := by
              apply List.ext_getElem
              · simp [hC1]
              · intro i h1 h2
                have : i = 0 := by simpa using h2
                subst this
                simp [Array.getD, hC1]
            rw [has, e] at hra
            exact RSl.one hra
        · cases hsh
    · rw [out_no] at h; exact h.elim
theorem outSegs_ok (R : Rel P w0 M N α ν L a w) : ∀ (rs : List RSh) (vs : List ResultVar) (q : List (PSh × Seg) × List (Nat × Nat)), RM.out α (outSegs P rs vs) q → q.2.all (unitAt ν) = true →
    ∃ cs, (vs.mapM (resV a.tmps)).run P w = .ok cs w ∧ SegsOK P L w ν q.1 cs ∧ q.1.map (·.1) = List.zipWith (fun s (p : PSh × Seg) => outP s p.2.sh) rs q.1 ∧ q.1.length = rs.length ∧ cs.length = rs.length
  | [], [], q, h, hk => by
    simp only [outSegs, out_ok] at h
    subst h
    exact ⟨[], rfl, trivial, rfl, rfl, rfl⟩
  | [], _ :: _, q, h, hk => by simp only [outSegs, out_no] at h
  | _ :: _, [], q, h, hk => by simp only [outSegs, out_no] at h
  | s :: rs, v :: vs, q, h, hk => by
    simp only [outSegs, out_bind, out_ok] at h
    obtain ⟨q1, h1, q2, h2, rfl⟩ := h
    simp only [List.all_append, Bool.and_eq_true] at hk
    obtain ⟨c, h3, h4⟩ := outSeg_ok R h1 hk.1
    obtain ⟨cs, h5, h6, h7, h8, h9⟩ := outSegs_ok R rs vs q2 h2 hk.2
    refine ⟨c :: cs, ?_, ⟨h4, h6⟩, by simp [h7], by simp [h8], by simp [h9]⟩
    simp only [List.mapM_cons, Sem.run_bind, h3, h5, Result.andThen]
    rfl
/-! ### what goes out, put together -/
theorem plain_cells {F S S' : Nat → Prop} {ms : List PM} {xs : List V} {cs : List Value} (h : noLent ms = true) (H : PCells P F S w ms xs cs) : PCells P F S' w ms xs cs :=
  ⟨H.ml, H.xl, fun i h0 h1 h2 => by
    obtain ⟨h3, h4⟩ := H.ok i h0 h1 h2
    refine ⟨h3, ?_⟩
    have h5 := List.all_eq_true.1 h _ (List.getElem_mem h0)
    cases hm : ms[i] with
    | lent => rw [hm] at h5; simp at h5
    | fz => rw [hm] at h4; exact h4
    | own => rw [hm] at h4; exact h4⟩
theorem noLent_bk (ms : List PM) : noLent (ms.map bkM) = true := by
  simp only [noLent, List.all_map, List.all_eq_true]
  intro m _
  cases m <;> rfl
def outWv (s : RSh) (p : PSh) (xs : List V) : List V := match s, p with
  | .obx ms, .nilp => .bool false :: List.replicate ms.length .unit
  | .obx _, _ => .bool true :: xs
  | _, _ => xs
theorem outRes {F S : Nat → Prop} {s : RSh} {sh : Sh} {xs : List V} {c : Value} (h : PArg P F S w (outP s sh) xs c) (hp : s.plain = true) : RRes P F w s (outWv s (outP s sh) xs) c ∧ resB w s c = argB w (outP s sh) c := by
  cases s with
  | one m => exact ⟨plain_cells hp h, rfl⟩
  | agg ms =>
    obtain ⟨cs, rfl, h2⟩ := h
    exact ⟨⟨cs, rfl, plain_cells hp h2⟩, rfl⟩
  | obx ms =>
    by_cases hs : sh = .one .nilp
    · subst hs
      have hc : c = .pointer none := h
      subst hc
      exact ⟨.inl ⟨rfl, rfl⟩, rfl⟩
    · have e : outP (.obx ms) sh = .ptr false ms := by
        unfold outP
        split <;> simp_all
      rw [e] at h ⊢
      obtain ⟨b, rfl, h2, h3, _⟩ := h
      exact ⟨.inr ⟨b, xs, rfl, h2, rfl, plain_cells hp h3⟩, rfl⟩
def RawOK : List RSh → List (PSh × Seg) → List (List V) → List (List V) → Prop
  | s :: ss, p :: ps, xs :: xss, r :: raw => r = outWv s p.1 xs ∧ RawOK ss ps xss raw
  | [], _, xss, raw => raw = xss
  | _, _, _, _ => False
theorem res_split {F S : Nat → Prop} : ∀ (rs : List RSh) (l1 bs : List (PSh × Seg)) (xss raw : List (List V)) (cs1 ds : List Value), l1.length = rs.length → cs1.length = rs.length → l1.map (·.1) = List.zipWith (fun s (p : PSh × Seg) => outP s p.2.sh) rs l1 → rs.all RSh.plain = true →
    RawOK rs (l1 ++ bs) xss raw → PArgs P F S w ((l1 ++ bs).map (·.1)) xss (cs1 ++ ds) →
    ∃ raw1 raw2, raw = raw1 ++ raw2 ∧ raw1.length = rs.length ∧ RRess P F w rs raw1 cs1 ∧ PArgs P F S w (bs.map (·.1)) raw2 ds ∧ argsB w ((l1 ++ bs).map (·.1)) (cs1 ++ ds) = ressB w rs cs1 ++ argsB w (bs.map (·.1)) ds
  | [], l1, bs, xss, raw, cs1, ds, h1, h2, h3, h4, h5, h6 => by
    have e1 : l1 = [] := List.eq_nil_of_length_eq_zero h1
    have e2 : cs1 = [] := List.eq_nil_of_length_eq_zero h2
    subst e1; subst e2
    have e3 : raw = xss := by unfold RawOK at h5; exact h5
    subst e3
    exact ⟨[], raw, rfl, rfl, trivial, h6, rfl⟩
  | s :: rs, [], bs, xss, raw, cs1, ds, h1, h2, h3, h4, h5, h6 => by simp at h1
  | s :: rs, p :: l1, bs, xss, raw, [], ds, h1, h2, h3, h4, h5, h6 => by simp at h2
  | s :: rs, p :: l1, bs, [], raw, c :: cs1, ds, h1, h2, h3, h4, h5, h6 => by simp [PArgs] at h6
  | s :: rs, p :: l1, bs, xs :: xss, [], c :: cs1, ds, h1, h2, h3, h4, h5, h6 => by simp [RawOK] at h5
  | s :: rs, p :: l1, bs, xs :: xss, r :: raw, c :: cs1, ds, h1, h2, h3, h4, h5, h6 => by
    simp only [List.map_cons, List.zipWith_cons_cons, List.cons.injEq] at h3
    simp only [List.all_cons, Bool.and_eq_true] at h4
    obtain ⟨h5a, h5b⟩ : r = outWv s p.1 xs ∧ RawOK rs (l1 ++ bs) xss raw := h5
    obtain ⟨h6a, h6b⟩ : PArg P F S w p.1 xs c ∧ PArgs P F S w ((l1 ++ bs).map (fun x : PSh × Seg => x.1)) xss (cs1 ++ ds) := h6
    obtain ⟨raw1, raw2, rfl, h7, h8, h9, h10⟩ := res_split rs l1 bs xss raw cs1 ds (by simpa using h1) (by simpa using h2) h3.2 h4.2 h5b h6b
    rw [h3.1] at h6a h5a
    obtain ⟨h11, h12⟩ := outRes h6a h4.1
    refine ⟨r :: raw1, raw2, rfl, by simp [h7], ⟨h5a ▸ h11, h8⟩, h9, ?_⟩
    simp only [List.cons_append, List.map_cons, argsB, ressB, h10, h3.1, h12, List.append_assoc]
theorem raw_ok : ∀ (rs : List RSh) (l : List (PSh × Seg)) (As : List Arg) (raw : List (List V)), l.length = As.length → rs.length ≤ l.length → (∀ i (h : i < l.length) (h' : i < As.length), l[i].1 = .nilp → As[i].ps = []) →
    raw.length = (outWs rs l As).length → (∀ i (h : i < (outWs rs l As).length) (h' : i < raw.length), Pieces ν (outWs rs l As)[i] raw[i]) →
    ∃ xss, xss.length = As.length ∧ (∀ i (h : i < As.length) (h' : i < xss.length), Pieces ν As[i].ps xss[i]) ∧ RawOK rs l xss raw
  | [], l, As, raw, h1, h2, h3, h4, h5 => by
    have e : outWs [] l As = As.map (·.ps) := by unfold outWs; rfl
    rw [e] at h4
    refine ⟨raw, by simpa using h4, fun i h h' => ?_, by unfold RawOK; rfl⟩
    have := h5 i (by rw [e]; simpa using h) h'
    simp only [e, List.getElem_map] at this
    exact this
  | s :: rs, [], As, raw, h1, h2, h3, h4, h5 => by simp at h2
  | s :: rs, p :: l, [], raw, h1, h2, h3, h4, h5 => by simp at h1
  | s :: rs, p :: l, A :: As, [], h1, h2, h3, h4, h5 => by simp [outWs] at h4
  | s :: rs, p :: l, A :: As, r :: raw, h1, h2, h3, h4, h5 => by
    obtain ⟨xss, h6, h7, h8⟩ := raw_ok rs l As raw (by simpa using h1) (by simpa using h2) (fun i h h' => h3 (i + 1) (by simpa using h) (by simpa using h')) (by simpa [outWs] using h4) (fun i h h' => by
      have := h5 (i + 1) (by simpa [outWs] using h) (by simpa using h')
      simpa [outWs] using this)
    have h9 : Pieces ν (outW s p.1 A.ps) r := by
      have := h5 0 (by simp [outWs]) (by simp)
      simpa [outWs] using this
    have h10 : ∃ xs, Pieces ν A.ps xs ∧ r = outWv s p.1 xs := by
      have hbool : ∀ (b : Bool) (ps : List Pc) (x : List V), Pieces ν ((.lit [.bool b], 0) :: ps) x → ∃ y, x = .bool b :: y ∧ Pieces ν ps y := by
        intro b ps x hx
        cases x with
        | nil => have := hx.1; simp at this
        | cons y ys =>
          obtain ⟨h11, h12⟩ := hx.2 0 (by simp) (by simp)
          have e : y = .bool b := by simpa [pcGet, VArg.get] using h11.symm
          subst e
          exact ⟨ys, rfl, by have := hx.1; simpa using this, fun j hj hj' => by
            have := hx.2 (j + 1) (by simpa using hj) (by simpa using hj')
            simpa using this⟩
      cases s with
      | one m => exact ⟨r, h9, rfl⟩
      | agg ms => exact ⟨r, h9, rfl⟩
      | obx ms =>
        by_cases hp : p.1 = .nilp
        · rw [hp] at h9 ⊢
          have hA := h3 0 (by simp) (by simp) (by simpa using hp)
          obtain ⟨y, rfl, hy⟩ := hbool _ _ _ h9
          refine ⟨[], ⟨by simp at hA; simp [hA], fun j hj hj' => by simp at hj'⟩, ?_⟩
          simp only [outWv]
          congr 1
          apply List.ext_getElem
          · have := hy.1; simpa using this
          · intro i h12 h13
            obtain ⟨h14, _⟩ := hy.2 i (by have := hy.1; omega) h12
            simp only [List.getElem_replicate, pcU, pcGet, VArg.get] at h14
            simpa using h14.symm
        · have e : outW (.obx ms) p.1 A.ps = (.lit [.bool true], 0) :: A.ps := by
            unfold outW
            split <;> simp_all
          rw [e] at h9
          obtain ⟨y, rfl, hy⟩ := hbool _ _ _ h9
          refine ⟨y, hy, ?_⟩
          unfold outWv
          split <;> simp_all
    obtain ⟨xs, h11, h12⟩ := h10
    refine ⟨xs :: xss, by simp [h6], fun i h h' => ?_, ⟨h12, h8⟩⟩
    cases i with
    | zero => exact h11
    | succ i => simpa using h7 i (by simpa using h) (by simpa using h')
/-- the slots of the variables that come back still hold what came in -/
def KeptOK (a : Act) : Nat → List PSh → List Value → Prop
  | s, .ptr false _ :: ps, c :: cs => (a.tmps.getD s undef = c ∧ ∃ b, c = .pointer (some ⟨b, 0, none⟩)) ∧ KeptOK a (s + 1) ps cs
  | s, _ :: ps, _ :: cs => KeptOK a (s + 1) ps cs
  | _, [], [] => True
  | _, _, _ => False
theorem backSegs_ok (R : Rel P w0 M N α ν L a w) : ∀ (ps : List PSh) (s : Nat) (cs : List Value) (l : List (PSh × Seg)), RM.out α (backSegs s ps) l → KeptOK a s ps cs →
    ∃ ds, SegsOK P L w ν l ds ∧ argsB w (l.map (·.1)) ds = backsB w (backsOf ps cs) ∧ (∀ p ∈ l, p.1 ≠ .nilp) ∧ ∀ (F S : Nat → Prop) (xss : List (List V)), PArgs P F S w (l.map (·.1)) xss ds → RBacks P F w (backsOf ps cs) xss
  | [], s, [], l, h, hk => by
    simp only [backSegs, out_ok] at h
    subst h
    refine ⟨[], trivial, rfl, by simp, fun F S xss hx => ?_⟩
    cases xss with
    | nil => trivial
    | cons => exact hx.elim
  | [], s, _ :: _, l, h, hk => by simp [KeptOK] at hk
  | p :: ps, s, [], l, h, hk => by
    cases p with
    | ptr ro ms => cases ro <;> simp [KeptOK] at hk
    | _ => simp [KeptOK] at hk
  | p :: ps, s, c :: cs, l, h, hk => by
    have other : (∀ ms, p ≠ .ptr false ms) → backsOf (p :: ps) (c :: cs) = backsOf ps cs ∧ RM.out α (backSegs (s + 1) ps) l ∧ KeptOK a (s + 1) ps cs := by
      intro hn
      cases p with
      | ptr ro ms =>
        cases ro with
        | false => exact absurd rfl (hn ms)
        | true => exact ⟨by simp [backsOf], by simpa only [backSegs] using h, by simpa [KeptOK] using hk⟩
      | _ => exact ⟨by simp [backsOf], by simpa only [backSegs] using h, by simpa [KeptOK] using hk⟩
    by_cases hp : ∃ ms, p = .ptr false ms
    · obtain ⟨ms, rfl⟩ := hp
      simp only [backSegs, out_sl, out_bind, out_ok] at h
      obtain ⟨l', h1, rfl⟩ := h
      obtain ⟨⟨h2, b, rfl⟩, h3⟩ : (a.tmps.getD s undef = c ∧ ∃ b, c = .pointer (some ⟨b, 0, none⟩)) ∧ KeptOK a (s + 1) ps cs := hk
      obtain ⟨ds, h4, h5, h6, h7⟩ := backSegs_ok R ps (s + 1) cs l' h1 h3
      have H := R.slots s
      rw [h2] at H
      refine ⟨.pointer (some ⟨b, 0, none⟩) :: ds, ⟨H, h4⟩, ?_, ?_, ?_⟩
      · simp only [List.map_cons, argsB, argB, backsOf, backsB, h5]
        rfl
      · intro q hq
        rcases List.mem_cons.1 hq with rfl | hq
        · simp
        · exact h6 q hq
      · intro F S xss hx
        cases xss with
        | nil => exact hx.elim
        | cons xs xss =>
          obtain ⟨⟨b', hb, h8, h9, _⟩, h10⟩ : PArg P F S w (.ptr false (ms.map bkM)) xs (.pointer (some ⟨b, 0, none⟩)) ∧ PArgs P F S w (l'.map (fun x : PSh × Seg => x.1)) xss ds := hx
          have : b' = b := by
            simp only [Value.pointer.injEq, Option.some.injEq, Addr.mk.injEq] at hb
            exact hb.1.symm
          subst this
          exact ⟨⟨h8, plain_cells (noLent_bk ms) h9⟩, h7 F S xss h10⟩
    · obtain ⟨e, h1, h2⟩ := other (fun ms hm => hp ⟨ms, hm⟩)
      rw [e]
      exact backSegs_ok R ps (s + 1) cs l h1 h2
theorem passSegs_nil : ∀ (l : List (PSh × Seg)) (As : List Arg), RM.out α (passSegs l) As → l.length = As.length ∧ ∀ i (h : i < l.length) (h' : i < As.length), l[i].1 = .nilp → As[i].ps = []
  | [], As, h => by
    simp only [passSegs, out_ok] at h
    subst h
    exact ⟨rfl, fun i h => by simp at h⟩
  | p :: l, As, h => by
    simp only [passSegs, out_bind, out_ok] at h
    obtain ⟨A, h2, r, h3, rfl⟩ := h
    obtain ⟨h4, h5⟩ := passSegs_nil l r h3
    refine ⟨by simp [h4], fun i h h' hn => ?_⟩
    cases i with
    | zero =>
      simp only [List.getElem_cons_zero] at hn ⊢
      rw [hn] at h2
      unfold passArg at h2
      split at h2 <;> first | (rename_i e1 _ _; cases e1; done) | skip
      all_goals simp_all [out_ok, out_no]
    | succ i => simpa using h5 i (by simpa using h) (by simpa using h') (by simpa using hn)
theorem ret_ok (R : Rel P w0 M N α ν L a w) {g : Sig} {rs : List ResultVar} {i : VI} (h : RM.out α (compRet P g rs) i) {cs0 : List Value} (hkept : KeptOK a 0 g.ps cs0) (hM : ∀ b, M b ↔ b ∈ argsB w0 g.ps cs0) {n : Nat} {out : Out} (hv : (VC.ret i).run Φ n ν = some out) :
    ∃ raw, out = .ret raw ∧ a.defers = [] ∧ ∃ vs F', (rs.mapM (resV a.tmps)).run P w = .ok vs w ∧ SimPost P N.F w0 g cs0 raw vs F' w := by
  simp only [compRet, out_bind, out_need, out_ok] at h
  obtain ⟨_, hpl, q, hq, bs, hbs, As, hAs, _, hnd, _, hln, rfl⟩ := h
  simp only [VC.run] at hv
  split at hv
  · rename_i hchk
    simp only [VF.sem, Option.map_eq_some_iff] at hv
    obtain ⟨raw, hraw, rfl⟩ := hv
    simp only [List.all_append, Bool.and_eq_true] at hchk
    obtain ⟨⟨hk1, hk2⟩, hk3⟩ := hchk
    obtain ⟨vs, hvs, hS1, hl1, hl2, hvl⟩ := outSegs_ok R g.rs rs q hq hk1
    obtain ⟨ds, hS2, hB, hnn, hbk⟩ := backSegs_ok R g.ps 0 cs0 bs hbs hkept
    obtain ⟨hlen, hnil⟩ := passSegs_nil _ As hAs
    obtain ⟨hrl, hpc⟩ := ins_pieces hraw
    obtain ⟨xss, hxl, hxp, hro⟩ := raw_ok (ν := ν) g.rs (q.1 ++ bs) As raw hlen (by simp [hl2]) hnil hrl (fun i h h' => hpc i h h')
    obtain ⟨fz, ka, zs, AO⟩ := passSegs_ok R _ As xss (vs ++ ds) hAs (hS1.append hS2) hk2 hk3 hxl hxp
    have hK := nodupB_ok hnd
    have hln' : (As.map (·.ln)).flatten = [] := List.isEmpty_iff.1 hln
    obtain ⟨hF, hPA, hnd2, hsz, hmn⟩ := call_pre R AO hK (fun k hk => by rw [hln'] at hk; simp at hk)
    obtain ⟨raw1, raw2, h1, h2, h3, h4, h5⟩ := res_split g.rs q.1 bs xss raw vs ds hl2 hvl hl1 hpl hro hPA
    refine ⟨raw, rfl, R.nd.nd, vs, (L.frozen fz).F, hvs, ?_⟩
    rw [h5, hB] at hnd2
    exact {
      hw := ⟨R.kp.os, R.kp.tape, R.kp.output, R.kp.size, fun b h1 h2 => R.kp.block b h1 (fun hm => h2 ((hM b).1 hm))⟩
      hF := fun b hb => .inl (R.nd.lo b hb)
      hF' := fun b hb => by
        rcases hb with hb | hb
        · rcases R.nd.hi b hb with h | h
          · exact .inl h
          · exact .inr ⟨R.sl b (R.fs b hb), h.imp id (hM b).1⟩
        · obtain ⟨t, r, ht, h6, h7⟩ := hb
          obtain ⟨h8, h9, _⟩ := R.rowmine t r b h6 h7
          exact .inr ⟨h9, h8.imp id (hM b).1⟩
      res := ⟨raw1, raw2, h1, h2, h3, hbk _ _ _ h4⟩
      nd := hnd2
      bl := fun b hb => by
        rw [← hB, ← h5] at hb
        exact ⟨hsz b hb, (hmn b hb).imp id (hM b).1, fun hf => (hF b hf).2 hb⟩ }
  · cases hv
end
end Go.Proofs.YtogfkdpgkloljaaDoorVs
