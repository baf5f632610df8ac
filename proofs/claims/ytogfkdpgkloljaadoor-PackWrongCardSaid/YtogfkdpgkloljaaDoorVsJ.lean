/-
  Operations that make memory, or write it. Conditions: each lemma's own premises.
-/
import Derived.Test.YtogfkdpgkloljaaDoorVsI
set_option linter.unusedVariables false
set_option linter.unusedSimpArgs false
namespace Go.Proofs.YtogfkdpgkloljaaDoorVs
section
variable {P : Program} {w0 : World} {M : Nat → Prop} {N : Fr} {α : Al} {ν ν' : Env} {L : Lay} {a : Act} {w w' : World} {Φ : Funs} {o : Oper} {d : Nat} {E : Eff}

theorem upds_append (ν : Env) : ∀ (cs : List Nat) (xs : List (List V)) (cs' : List Nat) (xs' : List (List V)), cs.length = xs.length → ν.upds (cs ++ cs') (xs ++ xs') = (ν.upds cs xs).upds cs' xs'
  | [], [], cs', xs', _ => rfl
  | c :: cs, x :: xs, cs', xs', h => by
    simp only [List.cons_append, Env.upds]
    exact upds_append _ cs xs cs' xs' (by simpa using h)
theorem sk_sk (k1 k2 : List Nat) (α : Al) : (α.sk [] k1).sk [] k2 = α.sk [] (k1 ++ k2) := by
  simp only [Al.sk, map_map]
  congr 1
  funext x
  have h0 : ∀ y : At, y.stale [] = y := fun y => by cases y <;> first | rfl | (rename_i s; cases s <;> rfl) | (rename_i s j; cases s <;> rfl)
  simp only [At.sk, h0]
  exact kill_append k1 k2 x
theorem nil_row (F : Nat → Prop) (e : TypeId) : RowOK P F w ⟨.slice none 0 0, e⟩ [.list e []] := ⟨[], rfl, .inl ⟨rfl, rfl⟩⟩
/-- empty rows get their names -/
theorem nilRows : ∀ (ts : List (Nat × TypeId)) {α : Al} {ν : Env} {L : Lay}, Rel P w0 M N α ν L a w →
    ∃ L1, Rel P w0 M N (α.sk [] (ts.map fun p => tkK p.1)) (ν.upds (ts.map fun p => tC p.1) (ts.map fun p => [.list p.2 []])) L1 a w ∧ L1.box = L.box ∧ (∀ b, L1.F b ↔ L.F b) ∧ (∀ b, L1.S b ↔ L.S b) ∧
      (∀ t, t ∉ ts.map (·.1) → L1.row t = L.row t) ∧ (∀ t, t ∈ ts.map (·.1) → ∃ e, L1.row t = some ⟨.slice none 0 0, e⟩)
  | [], α, ν, L, R => ⟨L, by simpa [Al.sk_nil, Env.upds] using R, rfl, fun _ => Iff.rfl, fun _ => Iff.rfl, fun _ _ => rfl, fun t h => by simp at h⟩
  | (k, e) :: ts, α, ν, L, R => by
    have hb : ∀ b, ¬ L.blks ([] : List Nat) b := fun b ⟨t, h, _⟩ => by simp at h
    have hks : ∀ t, t ∈ [k] ∨ t ∈ ([] : List Nat) → tkK t ∈ [tkK k] ∨ (t = k ∧ k ∈ ([] : List Nat) ∧ L.row k = some ⟨.slice none 0 0, e⟩) := by
      intro t h
      have : t = k := by simpa using h
      subst this
      exact .inl (by simp)
    have R1 := R.rowStep k ⟨.slice none 0 0, e⟩ [.list e []] [k] [] [] [tkK k] (by simp) (WStep.refl w _) hks (by simp) (nil_row _ e) (fun b h => by simp [Row.blk, Value.ownBlock] at h)
    obtain ⟨L1, R2, h1, h2, h3, h4, h5⟩ := nilRows ts R1
    refine ⟨L1, ?_, h1, fun b => (h2 b).trans ?_, fun b => (h3 b).trans ?_, fun t ht => ?_, fun t ht => ?_⟩
    · rw [sk_sk] at R2
      exact R2
    · simp [Lay.withRow, hb b]
    · simp [Lay.withRow, hb b]
    · simp only [List.map_cons, List.mem_cons, not_or] at ht
      rw [h4 t ht.2]
      simp [Lay.withRow, ht.1]
    · by_cases hm : t ∈ ts.map (·.1)
      · exact h5 t hm
      · simp only [List.map_cons, List.mem_cons] at ht
        rcases ht with rfl | ht
        · exact ⟨e, by rw [h4 _ hm]; simp [Lay.withRow]⟩
        · exact absurd ht hm
theorem nil_ext {L L1 : Lay} {ks : List Nat} (hfs : ∀ b, L.F b → L.S b) (h1 : L1.box = L.box) (h2 : ∀ b, L1.F b ↔ L.F b) (h3 : ∀ b, L1.S b ↔ L.S b) (h4 : ∀ t, tkK t ∉ ks → L1.row t = L.row t) : Ext L L1 w w ks [] :=
  ⟨fun b h => (h2 b).2 h, fun b h => (h3 b).2 h, hfs, fun _ _ => rfl, fun t r h h' => by rw [h4 t h]; exact h', fun _ _ _ _ _ _ _ => rfl, fun u b ro _ h => by rw [h1]; exact h⟩
theorem tkK_inj {s t : Nat} (h : tkK s = tkK t) : s = t := by simp only [tkK] at h; omega
/-- what the pieces say of some cells -/
def RPcs (P : Program) (L : Lay) (w : World) (ν : Env) (l : List APc) (cs : List Value) : Prop :=
  l.length = cs.length ∧ ∀ i (h : i < l.length) (h' : i < cs.length) x, pcGet ν l[i].2 = some x → x ≠ .undef → RA P L w l[i].1 x cs[i]
theorem ownTl_mem (base : Nat) : ∀ (l : List APc) (j : Nat) (p : Nat × Pc), p ∈ ownTl base j l ↔ ∃ i, ∃ h : i < l.length, l[i].1 = .nils ∧ p = (base + (j + i), l[i].2)
  | [], j, p => by simp [ownTl]
  | q :: r, j, p => by
    have ih := ownTl_mem base r (j + 1) p
    simp only [ownTl]
    constructor
    · intro h
      split at h
      · rename_i hq
        rcases List.mem_cons.1 h with rfl | h
        · exact ⟨0, by simp, by simpa using hq, rfl⟩
        · obtain ⟨i, hi, h1, h2⟩ := ih.1 h
          exact ⟨i + 1, by simpa using hi, by simpa using h1, by rw [h2]; simp; omega⟩
      · obtain ⟨i, hi, h1, h2⟩ := ih.1 h
        exact ⟨i + 1, by simpa using hi, by simpa using h1, by rw [h2]; simp; omega⟩
    · rintro ⟨i, hi, h1, h2⟩
      cases i with
      | zero =>
        have hq : q.1 = .nils := by simpa using h1
        rw [if_pos hq]
        exact List.mem_cons.2 (.inl (by rw [h2]; rfl))
      | succ i =>
        have : p ∈ ownTl base (j + 1) r := ih.2 ⟨i, by simpa using hi, by simpa using h1, by rw [h2]; simp; omega⟩
        split
        · exact List.mem_cons.2 (.inr this)
        · exact this
/-- own names for what is nil, and then the cells -/
theorem own_ok (R : Rel P w0 M N α ν L a w) (base : Nat) (l : List APc) (cs : List Value) (H : RPcs P L w ν l cs) (hcl : clean (ownK base l) (l.map (·.1)) = true)
    (tv : List (List V)) (htl : tv.length = (ownT base l).length) (htv : ∀ i (h : i < (ownT base l).length) (h' : i < tv.length), Pieces ν (ownT base l)[i].2 tv[i]) :
    ∃ L1, Rel P w0 M N (α.sk [] (ownK base l)) (ν.upds ((ownT base l).map (·.1)) tv) L1 a w ∧ Ext L L1 w w (ownK base l) [] ∧ L1.box = L.box ∧ (∀ b, L1.F b ↔ L.F b) ∧ (∀ b, L1.S b ↔ L.S b) ∧ ∀ xs, Pieces ν (ownP l) xs → RAs P L1 w (ownA base l) xs cs := by
  obtain ⟨hlen, hra⟩ := H
  -- the rows' types
  have key : ∀ i (h : i < (ownTl base 0 l).length), ∃ e, pcGet ν ((ownTl base 0 l)[i]).2 = some (.list e []) ∧ tv[i]? = some [.list e []] := by
    intro i hi
    have hmem := (ownTl_mem base l 0 _).1 (List.getElem_mem hi)
    obtain ⟨m, hm, h1, h2⟩ := hmem
    have hp := htv i (by simpa [ownT] using hi) (by rw [htl]; simpa [ownT] using hi)
    simp only [ownT, List.getElem_map] at hp
    obtain ⟨x, hx, hx1, hx2⟩ := hp.one
    have hx3 : pcGet ν l[m].2 = some x := by
      have : (ownTl base 0 l)[i].2 = l[m].2 := by rw [h2]
      rw [← this]; exact hx1
    have := hra m hm (by omega) x hx3 hx2
    rw [h1] at this
    rcases this with h | ⟨_, e, rfl⟩
    · exact absurd h hx2
    · refine ⟨e, hx1, ?_⟩
      rw [List.getElem?_eq_getElem (by rw [htl]; simpa [ownT] using hi), hx]
  let es : List TypeId := (ownTl base 0 l).map fun p => match pcGet ν p.2 with | some (.list e _) => e | _ => 0
  let ts : List (Nat × TypeId) := (ownTl base 0 l).map fun p => (p.1, match pcGet ν p.2 with | some (.list e _) => e | _ => 0)
  have hts1 : ts.map (fun p => tkK p.1) = ownK base l := by simp [ts, ownK]
  have hts2 : ts.map (fun p => tC p.1) = (ownT base l).map (·.1) := by simp [ts, ownT]
  have hts3 : (ts.map fun p => [V.list p.2 []]) = tv := by
    apply List.ext_getElem?
    intro i
    by_cases hi : i < (ownTl base 0 l).length
    · obtain ⟨e, h1, h2⟩ := key i hi
      rw [h2]
      simp [ts, List.getElem?_eq_getElem hi, h1]
    · have h1 : (ts.map fun p => [V.list p.2 []]).length ≤ i := by simpa [ts] using hi
      have h2 : tv.length ≤ i := by rw [htl]; simpa [ownT] using hi
      rw [List.getElem?_eq_none h1, List.getElem?_eq_none h2]
  obtain ⟨L1, R1, h1, h2, h3, h4, h5⟩ := nilRows (a := a) (w := w) ts R
  rw [hts1, hts2, hts3] at R1
  have hts4 : ts.map (·.1) = (ownTl base 0 l).map (·.1) := by simp [ts]
  have hE : Ext L L1 w w (ownK base l) [] := nil_ext R.fs h1 h2 h3 (fun t ht => h4 t (fun hm => ht (by
    rw [hts4] at hm
    obtain ⟨p, hp, rfl⟩ := List.mem_map.1 hm
    exact List.mem_map.2 ⟨p, hp, rfl⟩)))
  refine ⟨L1, R1, hE, h1, h2, h3, fun xs hxs => ?_⟩
  obtain ⟨hx1, hx2⟩ := hxs
  simp only [ownP, List.length_map] at hx1
  refine ⟨by simpa [ownA] using hlen, by simpa [ownA] using hx1, fun i h0 hi1 hi2 => ?_⟩
  have hi : i < l.length := by simpa [ownA] using h0
  have hpc := hx2 i (by simpa [ownP] using hi) hi1
  simp only [ownP, List.getElem_map] at hpc
  simp only [ownA, List.getElem_map, List.getElem_zipIdx]
  by_cases hn : l[i].1 = .nils
  · simp only [hn, if_true] at hpc ⊢
    have hu : xs[i] = .unit := by
      have := hpc.1
      simp [pcGet, pcU, VArg.get] at this
      exact this.symm
    have hm : (base + i, l[i].2) ∈ ownTl base 0 l := (ownTl_mem base l 0 _).2 ⟨i, hi, hn, by simp⟩
    obtain ⟨e, hrow⟩ := h5 (base + i) (by rw [hts4]; exact List.mem_map.2 ⟨_, hm, rfl⟩)
    have hcv : cs[i] = .slice none 0 0 := by
      obtain ⟨q, hq, hqe⟩ := List.getElem_of_mem hm
      obtain ⟨e2, h7, _⟩ := key q hq
      have := hra i hi hi2 (.list e2 []) (by rw [hqe] at h7; exact h7) (by simp)
      rw [hn] at this
      rcases this with h | ⟨h, _⟩
      · cases h
      · exact h
    simp only [Nat.zero_add]
    exact .inr ⟨hu, _, hrow, hcv⟩
  · simp only [hn, if_false] at hpc ⊢
    have hr := hra i hi hi2 xs[i] hpc.1 hpc.2
    have := hr.ext hE
    have hc : l[i].1.kill (ownK base l) = l[i].1 := by
      have := List.all_eq_true.1 hcl l[i].1 (List.mem_map.2 ⟨l[i], List.getElem_mem hi, rfl⟩)
      simpa using this
    have h0 : ∀ y : At, y.stale [] = y := fun y => by cases y <;> first | rfl | (rename_i s; cases s <;> rfl) | (rename_i s j; cases s <;> rfl)
    simpa [At.sk, h0, hc] using this

theorem Pieces.upd_ne : True := trivial
theorem viG_two {ts : List (Nat × List Pc)} {last : List (Nat × List Pc)} {chk asr : List (Nat × Nat)} (h : (viG (ts ++ last) chk asr).run Φ ν = some ν') :
    chk.all (unitAt ν) = true ∧ asr.all (trueAt ν) = true ∧ ∃ tv ls : List (List V), tv.length = ts.length ∧ ls.length = last.length ∧ (∀ i (h : i < ts.length) (h' : i < tv.length), Pieces ν ts[i].2 tv[i]) ∧
      (∀ i (h : i < last.length) (h' : i < ls.length), Pieces ν last[i].2 ls[i]) ∧ ν' = (ν.upds (ts.map (·.1)) tv).upds (last.map (·.1)) ls := by
  obtain ⟨h1, h2, xss, h3, h4, h5⟩ := viG_inv h
  simp only [List.length_append] at h3
  refine ⟨h1, h2, xss.take ts.length, xss.drop ts.length, by simp; omega, by simp; omega, fun i hi hi' => ?_, fun i hi hi' => ?_, ?_⟩
  · have := h4 i (by simp; omega) (by omega)
    rw [List.getElem_append_left hi] at this
    simpa using this
  · have := h4 (ts.length + i) (by simp; omega) (by omega)
    rw [List.getElem_append_right (by omega)] at this
    simpa using this
  · rw [h5, List.map_append]
    conv => lhs; rw [← List.take_append_drop ts.length xss]
    rw [upds_append _ _ _ _ _ (by simp; omega)]
theorem apc_get (as : List At) (g : VArg) (i : Nat) (h : i < (apc as g).length) : (apc as g)[i] = (as[i]'(by simpa [apc] using h), (g, i)) := by simp [apc]
theorem apc_len (as : List At) (g : VArg) : (apc as g).length = as.length := by simp [apc]
theorem apc_fst (as : List At) (g : VArg) : (apc as g).map (·.1) = as := by
  apply List.ext_getElem
  · simp [apc]
  · intro i h1 h2; simp [apc]
/-- an operand's cells, as pieces -/
theorem RAs.pcs {as : List At} {g : VArg} {cs : List Value} (h : RAs P L w as (g.get ν) cs) : RPcs P L w ν (apc as g) cs := by
  refine ⟨by rw [apc_len]; exact h.1, fun i hi hi' x hx hne => ?_⟩
  rw [apc_get] at hx ⊢
  simp only [pcGet] at hx
  obtain ⟨h1, h2⟩ := List.getElem?_eq_some_iff.1 hx
  have := h.2.2 i (by simpa [apc] using hi) h1 hi'
  rw [h2] at this
  exact this
theorem row_val (R : Rel P w0 M N α ν L a w) {t : Nat} {r : Row} (h : L.row t = some r) : ∃ ad n cap, r.val = .slice ad n cap := by
  obtain ⟨xs, _, H⟩ := row_rd R h
  exact ⟨_, _, _, H.slice.choose_spec.choose_spec⟩
theorem RA.cells (R : Rel P w0 M N α ν L a w) {at1 : At} {x : V} {c : Value} (h : RA P L w at1 x c) (hm : memAt at1 = true) (hx : x ≠ .undef) : c.cells = #[c] ∧ c.oneCell' = true := by
  rcases h with h | hr
  · exact absurd h hx
  cases at1 <;> first
    | (simp [memAt] at hm; done)
    | (rcases hr with ⟨_, rfl⟩ | ⟨_, b, ro, _, rfl⟩ <;> exact ⟨rfl, rfl⟩)
    | (cases hr <;> first | (exact absurd rfl hx) | exact ⟨rfl, rfl⟩)
    | (obtain ⟨rfl, _⟩ := hr; exact ⟨rfl, rfl⟩)
    | (obtain ⟨_, r, h1, rfl⟩ := hr; obtain ⟨ad, n, cap, h2⟩ := row_val R h1; rw [h2]; exact ⟨rfl, rfl⟩)
    | (obtain ⟨_, b, ro, _, rfl⟩ := hr; exact ⟨rfl, rfl⟩)
theorem flat_ok (R : Rel P w0 M N α ν L a w) {h : Sh} {b : Bool} {as : List At} {xs : List V} {c : Value} (hf : h.flat = some (b, as)) (hm : as.all memAt = true) (hne : ∀ x ∈ xs, x ≠ .undef) (H : RSl P L w h xs c) :
    RAs P L w as xs c.cells.toList ∧ (∀ v ∈ c.cells.toList, v.oneCell' = true) := by
  have go : ∀ {cs : List Value}, RAs P L w as xs cs → ∀ v ∈ cs, v.oneCell' = true := by
    intro cs hr v hv
    obtain ⟨i, hi, rfl⟩ := List.getElem_of_mem hv
    have h1 : i < as.length := by have := hr.1; omega
    have h2 : i < xs.length := by have := hr.2.1; omega
    exact (RA.cells R (hr.2.2 i h1 h2 hi) (List.all_eq_true.1 hm _ (List.getElem_mem h1)) (hne _ (List.getElem_mem h2))).2
  cases h with
  | one a1 =>
    cases hf
    have hra : RAs P L w [a1] xs [c] := by cases a1 <;> first | exact H | (simp [memAt] at hm; done)
    obtain ⟨x, rfl, hr⟩ := RAs.single hra
    have := (RA.cells R hr (by simpa using hm) (hne x (by simp))).1
    rw [this]
    exact ⟨hra, go hra⟩
  | agg as' =>
    cases hf
    obtain ⟨cs, rfl, hr⟩ := H
    exact ⟨hr, go hr⟩
  | tup ps => cases hf
theorem pcs_ne {base : Nat} {l : List APc} {tv : List (List V)} {xs : List V} (htl : tv.length = (ownT base l).length) (htv : ∀ i (h : i < (ownT base l).length) (h' : i < tv.length), Pieces ν (ownT base l)[i].2 tv[i]) (hxs : Pieces ν (ownP l) xs) :
    ∀ i (h : i < l.length), ∃ x, pcGet ν l[i].2 = some x ∧ x ≠ .undef := by
  intro i hi
  by_cases hn : l[i].1 = .nils
  · have hm : (base + i, l[i].2) ∈ ownTl base 0 l := (ownTl_mem base l 0 _).2 ⟨i, hi, hn, by simp⟩
    obtain ⟨q, hq, hqe⟩ := List.getElem_of_mem hm
    have := htv q (by simpa [ownT] using hq) (by rw [htl]; simpa [ownT] using hq)
    simp only [ownT, List.getElem_map, hqe] at this
    obtain ⟨x, _, h1, h2⟩ := this.one
    exact ⟨x, h1, h2⟩
  · obtain ⟨h1, h2⟩ := hxs
    have h3 := h2 i (by simpa [ownP] using hi) (by rw [h1]; simpa [ownP] using hi)
    simp only [ownP, List.getElem_map, hn, if_false] at h3
    exact ⟨_, h3⟩
theorem apc_ne {as : List At} {g : VArg} (hlen : (g.get ν).length = as.length) (h : ∀ i (h : i < (apc as g).length), ∃ x, pcGet ν (apc as g)[i].2 = some x ∧ x ≠ .undef) : ∀ x ∈ g.get ν, x ≠ .undef := by
  intro x hx
  obtain ⟨i, hi, rfl⟩ := List.getElem_of_mem hx
  obtain ⟨y, h1, h2⟩ := h i (by rw [apc_len]; omega)
  rw [apc_get] at h1
  simp only [pcGet, List.getElem?_eq_getElem hi, Option.some.injEq] at h1
  rw [h1]; exact h2

/-! #### moves -/
theorem sk_setBs (α : Al) (ks : List Nat) : (α.map (At.stale [])).map (At.kill ks) = α.sk [] ks := ap_sk [] ks α
theorem copMove_ok (R : Rel P w0 M N α ν L a w) (hd : N.W d) {x : Operand} {t : TypeId} (ho : o.op = .move x ∨ o.op = .assign x) (hod : o.dst = some d) (h : RM.out α (copMove P d x t) E) (hv : runIs Φ E.vis ν = some ν') :
    OpG P o a w (Goal P w0 M N (E.ap α (some d)) ν') := by
  simp only [copMove, out_bind] at h
  obtain ⟨s, h1, h⟩ := h
  have H := opd_ok R h1
  have hrun : (execOp a.eval o).run P w = .ok (.value (a.eval x)) w := by rcases ho with ho | ho <;> simp [execOp, ho]
  split at h
  · rename_i hs
    rw [out_ok] at h; subst h
    rw [hs] at H
    obtain ⟨y, hy, hr⟩ := RAs.single H
    have hv' := run_ins1 hv
    obtain ⟨_, _, xss, h3, h4, rfl⟩ := viG_inv hv'
    have hlen : xss.length = 2 := by simpa using h3
    obtain ⟨t1, x1, rfl⟩ : ∃ t1 x1, xss = [t1, x1] := by
      match xss, hlen with
      | [t1, x1], _ => exact ⟨t1, x1, rfl⟩
    have hp1 := h4 0 (by simp) (by simp)
    have hp2 := h4 1 (by simp) (by simp)
    simp only [List.getElem_cons_zero, List.getElem_cons_succ] at hp1 hp2
    obtain ⟨z, rfl, hz, hne⟩ := hp1.one
    rw [hy] at hz
    simp only [List.getElem?_cons_zero, Option.some.injEq] at hz
    subst hz
    have hx1 := hp2.unit
    subst hx1
    rcases hr with hr | ⟨hc, e, rfl⟩
    · exact absurd hr hne
    obtain ⟨L1, R1, hb1, hF, hS, hrow, hin⟩ := nilRows [(tokS d 0, e)] R
    obtain ⟨e2, hrow1⟩ := hin (tokS d 0) (by simp)
    refine OpG.value hrun ?_
    rw [hod]
    simp only [Eff.ap, Al.setBs, sk_setBs]
    exact ⟨L1, R1.put hd (RSl.one (RAs.one (.inr ⟨rfl, _, hrow1, hc⟩)))⟩
  · simp only [out_bind, out_need, out_ok] at h
    obtain ⟨_, hn, rfl⟩ := h
    obtain ⟨_, _, xs, hx, rfl⟩ := viG1 (run_ins1 hv)
    refine OpG.value hrun ?_
    rw [hod]
    refine Goal.plain R hd rfl rfl rfl ?_
    by_cases hdd : s.sh = .one .dead
    · rw [hdd]; trivial
    · by_cases hgg : ∃ k, s.sh = .one (.gone k)
      · obtain ⟨k, hk⟩ := hgg; rw [hk]; trivial
      · have hlen := atoms_len H hdd (fun k e => hgg ⟨k, e⟩)
        rw [hx.all hlen]
        exact H

/-! #### variables in memory -/
theorem kill_split {k1 k2 : List Nat} {a : At} (h : a.kill (k1 ++ k2) = a) : a.kill k1 = a ∧ a.kill k2 = a := by
  cases a with
  | v s => cases s with
    | of t => simp only [At.kill, List.contains_iff_mem, List.mem_append] at *; by_cases h1 : tkK t ∈ k1 <;> by_cases h2 : tkK t ∈ k2 <;> simp_all
    | _ => exact ⟨rfl, rfl⟩
  | iel s j => cases s with
    | of t => simp only [At.kill, List.contains_iff_mem, List.mem_append] at *; by_cases h1 : tkK t ∈ k1 <;> by_cases h2 : tkK t ∈ k2 <;> simp_all
    | _ => exact ⟨rfl, rfl⟩
  | own t => simp only [At.kill, List.contains_iff_mem, List.mem_append] at *; by_cases h1 : tkK t ∈ k1 <;> by_cases h2 : tkK t ∈ k2 <;> simp_all
  | elt t j => simp only [At.kill, List.contains_iff_mem, List.mem_append] at *; by_cases h1 : tkK t ∈ k1 <;> by_cases h2 : tkK t ∈ k2 <;> simp_all
  | ptr t j => simp only [At.kill, List.contains_iff_mem, List.mem_append] at *; by_cases h1 : bxK t ∈ k1 <;> by_cases h2 : bxK t ∈ k2 <;> simp_all
  | opt t => simp only [At.kill, List.contains_iff_mem, List.mem_append] at *; by_cases h1 : bxK t ∈ k1 <;> by_cases h2 : bxK t ∈ k2 <;> simp_all
  | _ => exact ⟨rfl, rfl⟩
theorem stale_nil (a : At) : a.stale [] = a := by cases a <;> first | rfl | (rename_i s; cases s <;> rfl) | (rename_i s j; cases s <;> rfl)
theorem sk_eq (ks : List Nat) (a : At) : At.sk [] ks a = a.kill ks := by rw [At.sk, stale_nil]
theorem map_sk_id {ks : List Nat} {as : List At} (h : ∀ a ∈ as, a.kill ks = a) : as.map (At.sk [] ks) = as := by
  conv => rhs; rw [← List.map_id as]
  exact List.map_congr_left fun a ha => by rw [sk_eq, h a ha]; rfl
theorem ownA_clean {base u : Nat} {l : List APc} (h : ∀ p ∈ l, p.1.kill [bxK u] = p.1) : ∀ a ∈ ownA base l, a.kill [bxK u] = a := by
  intro a ha
  obtain ⟨⟨p, i⟩, hp, rfl⟩ := List.mem_map.1 ha
  have hm : p ∈ l := by
    have := List.mem_zipIdx hp
    have h2 := this.2.2
    rw [h2]; exact List.getElem_mem _
  simp only
  split
  · have : tkK (base + i) ∉ [bxK u] := by simp only [List.mem_singleton, tkK, bxK]; omega
    simp [At.kill, this]
  · exact h p hm
theorem box_made (R : Rel P w0 M N α ν L a w) (hd : N.W d) {l : List APc} {cs : List Value} {t : TypeId} (H : RPcs P L w ν l cs) (hcl : clean (ownK (tokB d 0) l ++ [bxK d]) (l.map (·.1)) = true)
    (hv : runIs Φ [viG (ownT (tokB d 0) l ++ [(bC d, ownP l), (sC d, [pcU])]) [] []] ν = some ν') (hod : o.dst = some d)
    (hrun : (∀ i (h : i < l.length), ∃ x, pcGet ν l[i].2 = some x ∧ x ≠ .undef) → (execOp a.eval o).run P w = .ok (.value (.pointer (some ⟨w.heap.size, 0, none⟩))) (w.alloc (.cells cs.toArray t))) :
    OpG P o a w (Goal P w0 M N ((Eff.mk [viG (ownT (tokB d 0) l ++ [(bC d, ownP l), (sC d, [pcU])]) [] []] (ownK (tokB d 0) l ++ [bxK d]) [] [(d, ⟨false, ownA (tokB d 0) l⟩)] (.one (.ptr d 0))).ap α (some d)) ν') := by
  obtain ⟨_, _, tv, ls, h1, h2, h3, h4, rfl⟩ := viG_two (run_ins1 hv)
  obtain ⟨xs, u1, rfl⟩ : ∃ xs u1, ls = [xs, u1] := by
    match ls, h2 with
    | [x, y], _ => exact ⟨x, y, rfl⟩
  have hp1 := h4 0 (by simp) (by simp)
  have hp2 := h4 1 (by simp) (by simp)
  simp only [List.getElem_cons_zero, List.getElem_cons_succ] at hp1 hp2
  have hu1 := hp2.unit
  subst hu1
  have hcl1 : ∀ p ∈ l, p.1.kill (ownK (tokB d 0) l) = p.1 ∧ p.1.kill [bxK d] = p.1 := fun p hp => by
    have := List.all_eq_true.1 hcl p.1 (List.mem_map.2 ⟨p, hp, rfl⟩)
    exact kill_split (by simpa using this)
  obtain ⟨L1, R1, hE, hbx, hF, hS, hRA⟩ := own_ok R (tokB d 0) l cs H (List.all_eq_true.2 fun a ha => by
    obtain ⟨p, hp, rfl⟩ := List.mem_map.1 ha
    simpa using (hcl1 p hp).1) tv h1 h3
  have hra := hRA xs hp1
  refine OpG.value (hrun (pcs_ne h1 h3 hp1)) ?_
  rw [hod]
  have hW : WStep w (w.alloc (.cells cs.toArray t)) (fun g => g = w.heap.size) := WStep.alloc w _ _
  have hb : (w.heap.size ≤ w.heap.size ∧ w.heap.size < (w.alloc (.cells cs.toArray t)).heap.size ∧ bxK d ∈ [bxK d]) ∨ L1.box d = some (w.heap.size, false) := .inl ⟨Nat.le_refl _, by simp, by simp⟩
  have hE2 := R1.boxExt d w.heap.size [bxK d] hW hb
  have hbox : BoxOK P (L1.withBox d w.heap.size) (w.alloc (.cells cs.toArray t)) w.heap.size (ownA (tokB d 0) l) xs := by
    refine ⟨cs.toArray, t, (0, 0), heap_alloc_new w _, .inl (by simp), ?_⟩
    have := hra.ext hE2
    rw [map_sk_id (ownA_clean (fun p hp => (hcl1 p hp).2))] at this
    simpa using this
  have R2 := R1.boxStep d w.heap.size _ xs [bxK d] hW hb hbox
  rw [sk_sk] at R2
  have R3 := R2.put hd (h := .one (.ptr d 0)) (xs := [.unit]) (v := .pointer (some ⟨w.heap.size, 0, none⟩)) (RSl.one (RAs.one (.inr ⟨rfl, w.heap.size, false, by simp [Lay.withBox], rfl⟩)))
  simp only [Eff.ap, Al.setBs, sk_setBs]
  exact ⟨_, R3⟩
theorem memAt_live {h : Sh} {b : Bool} {as : List At} (hf : h.flat = some (b, as)) (hm : as.all memAt = true) : h ≠ .one .dead ∧ (∀ k, h ≠ .one (.gone k)) ∧ h.atoms = as := by
  cases h with
  | one a1 => cases hf; refine ⟨?_, ?_, rfl⟩ <;> (intros; rintro ⟨⟩; simp [memAt] at hm)
  | agg as' => cases hf; exact ⟨by simp, by simp, rfl⟩
  | tup ps => cases hf
theorem copBox_ok (R : Rel P w0 M N α ν L a w) (hd : N.W d) {x : Operand} {t : TypeId} (ho : o.op = .box t x) (hod : o.dst = some d) (h : RM.out α (copBox P d t x) E) (hv : runIs Φ E.vis ν = some ν') :
    OpG P o a w (Goal P w0 M N (E.ap α (some d)) ν') := by
  simp only [copBox, out_bind, out_opt, out_need, out_ok, Bool.and_eq_true] at h
  obtain ⟨s, h1, ⟨b, as⟩, hf, _, ⟨hsz, hm⟩, _, hcl, rfl⟩ := h
  have H := opd_ok R h1
  obtain ⟨hl1, hl2, hat⟩ := memAt_live hf hm
  have hlen := atoms_len H hl1 hl2
  rw [hat] at hlen
  -- the cells, if no value is missing
  by_cases hne : ∀ y ∈ s.arg.get ν, y ≠ .undef
  · obtain ⟨hra, hone⟩ := flat_ok R hf hm hne H
    refine box_made R hd (t := t) (RAs.pcs hra) (by rw [apc_fst]; exact hcl) hv hod (fun _ => ?_)
    simp [execOp, ho, Instr.box, newVar, newRow]
  · exfalso
    obtain ⟨_, _, tv, ls, h2, h3, h4, h5, _⟩ := viG_two (run_ins1 hv)
    have hp1 := h5 0 (by simp) (by rw [h3]; simp)
    simp only [List.getElem_cons_zero] at hp1
    exact hne (apc_ne hlen (pcs_ne h2 h4 hp1))

/-- a type's zero -/
theorem zip_zV : ∀ {zs : List Value} {ls : List TypeId} {l : List (At × V)}, zs.length = ls.length → (zs.zip ls).mapM (fun p => zV P p.1 p.2) = some l → RAs P L w (l.map (·.1)) (l.map (·.2)) zs
  | [], [], l, _, h => by simp only [List.zip_nil_left, List.mapM_nil] at h; cases h; exact ⟨rfl, rfl, fun i h => by simp at h⟩
  | z :: zs, t :: ls, l, hl, h => by
    simp only [List.zip_cons_cons, List.mapM_cons, Option.bind_eq_bind, Option.bind_eq_some_iff, Option.pure_def, Option.some.injEq] at h
    obtain ⟨x, hx, r, hr, rfl⟩ := h
    have ih := zip_zV (zs := zs) (ls := ls) (by simpa using hl) hr
    refine ⟨by simpa using ih.1, by simp, fun i h0 h1 h2 => ?_⟩
    cases i with
    | zero => exact zV_ok (y := x.2) (at1 := x.1) hx
    | succ i => exact ih.2.2 i (by simpa using h0) (by simpa using h1) (by simpa using h2)
theorem zeroOf_ok {t : TypeId} {as : List At} {vs : List V} (h : zeroOf P t = some (as, vs)) : ∃ i z, P.info? t = some i ∧ i.zero = some z ∧ RAs P L w as vs z.cells.toList ∧ i.size = as.length := by
  simp only [zeroOf, Option.bind_eq_some_iff] at h
  obtain ⟨i, hi, z, hz, ls, hls, h⟩ := h
  split at h
  · rename_i hl
    simp only [Option.map_eq_some_iff, Prod.mk.injEq] at h
    obtain ⟨l, hl2, rfl, rfl⟩ := h
    have := zip_zV (P := P) (L := L) (w := w) (by simpa using hl.1) hl2
    refine ⟨i, z, hi, hz, this, ?_⟩
    have h2 := this.1
    simp only [Array.length_toList] at h2
    omega
  · cases h
theorem copAlloc_ok (R : Rel P w0 M N α ν L a w) (hd : N.W d) {t : TypeId} (ho : o.op = .alloc t) (hod : o.dst = some d) (h : RM.out α (copAlloc P d t) E) (hv : runIs Φ E.vis ν = some ν') :
    OpG P o a w (Goal P w0 M N (E.ap α (some d)) ν') := by
  simp only [copAlloc, out_bind, out_opt, out_need, out_ok] at h
  obtain ⟨⟨as, vs⟩, hz, _, hcl, rfl⟩ := h
  obtain ⟨i, z, hi, hz2, hra, _⟩ := zeroOf_ok (L := L) (w := w) hz
  have hz3 : (zeroValue t).run P w = .ok z w := by simp [zeroValue, typeInfo, hi, hz2]
  refine box_made R hd (t := t) (RAs.pcs (g := .lit vs) hra) ?_ hv hod (fun _ => ?_)
  · rw [apc_fst]
    exact hcl
  · simp [execOp, ho, Instr.alloc, newVar, newRow, hz3]
end
end Go.Proofs.YtogfkdpgkloljaaDoorVs
