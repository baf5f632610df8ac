/-
  Rows: literals, makes, appends, stores, cuts. Conditions: each lemma's own premises.
-/
import Derived.Test.YtogfkdpgkloljaaDoorVsL
set_option linter.unusedVariables false
set_option linter.unusedSimpArgs false
namespace Go.Proofs.YtogfkdpgkloljaaDoorVs
section
variable {P : Program} {w0 : World} {M : Nat → Prop} {N : Fr} {α : Al} {ν ν' : Env} {L : Lay} {a : Act} {w w' : World} {Φ : Funs} {o : Oper} {d : Nat} {E : Eff}

/-! #### values given away for good -/
theorem row_rdF (R : Rel P w0 M N α ν L a w) {t : Nat} {r : Row} (h : L.row t = some r) (F' : Nat → Prop) (hF : ∀ b, L.F b → F' b) (hb : ∀ b, r.blk = some b → F' b) : ∃ xs, ν (tC t) = [.list r.e xs] ∧ Rd P F' w (.list r.e xs) r.val := by
  obtain ⟨xs, hx, H⟩ := R.rows t r h
  refine ⟨xs, hx, ?_⟩
  rcases H with ⟨h1, rfl⟩ | ⟨b, q, cap, sz, ag, C, fz, H⟩
  · rw [h1]; exact .nil _ _ _
  · rw [H.hv]
    refine Rd.of_row (H.rd.mono hF (fun _ _ => rfl)) b q cap (hb b (by rw [Row.blk, H.hv]; rfl)) H.hc (fun i hi => ?_)
    have : q + i < C.size := by
      have h1 := H.hs
      have h2 : xs.length * sz ≤ cap * sz := Nat.mul_le_mul_right _ H.hc
      omega
    simp [World.cell?, H.hh, this]
theorem chk_one {i j : Nat} {chk : List (Nat × Nat)} (h : chk.all (unitAt ν) = true) (hm : (i, j) ∈ chk) : (ν i)[j]? = some .unit := by
  have := List.all_eq_true.1 h _ hm
  simp only [unitAt] at this
  split at this
  · assumption
  · cases this
/-- one atom's value, told for good -/
structure Frzd (P : Program) (ν : Env) (L : Lay) (w : World) (q : Pcs) (toks : List Nat) (cs : List Value) : Prop where
  kill : q.kill = toks.map tkK
  row : ∀ t ∈ toks, ∃ r, L.row t = some r
  len : q.ps.length = cs.length
  rd : ∀ i (h : i < q.ps.length) (h' : i < cs.length) x, pcGet ν q.ps[i] = some x → x ≠ .undef → Rd P (fun b => L.F b ∨ L.blks toks b) w x cs[i] ∧ cs[i].cells = #[cs[i]] ∧ cs[i].oneCell' = true
theorem Rd.cell1 {S : Nat → Prop} {x : V} {c : Value} (h : Rd P S w x c) (hx : x ≠ .undef) : c.cells = #[c] ∧ c.oneCell' = true := by
  cases h <;> first | (exact absurd rfl hx) | exact ⟨rfl, rfl⟩
theorem frz1_ok (R : Rel P w0 M N α ν L a w) {g : VArg} {j : Nat} {at1 : At} {q : Pcs} {c : Value} (h : frz1 g j at1 = some q) (hr : ∀ x, (g.get ν)[j]? = some x → RA P L w at1 x c) (hk : q.chk.all (unitAt ν) = true) :
    ∃ toks, Frzd P ν L w q toks [c] := by
  cases at1 with
  | v s =>
    cases s <;> first | (cases h; done) | skip
    cases h
    refine ⟨[], rfl, by simp, rfl, fun i hi hi' x hx hne => ?_⟩
    have : i = 0 := by simpa using hi
    subst this
    rcases hr x hx with h | h
    · exact absurd h hne
    · exact ⟨h.mono (fun b hb => .inl hb) (fun _ _ => rfl), h.cell1 hne⟩
  | nils =>
    cases h
    refine ⟨[], rfl, by simp, rfl, fun i hi hi' x hx hne => ?_⟩
    have : i = 0 := by simpa using hi
    subst this
    rcases hr x hx with h | ⟨rfl, e, rfl⟩
    · exact absurd h hne
    · exact ⟨.nil _ _ _, rfl, rfl⟩
  | own t =>
    cases g with
    | lit vs => cases h
    | c k =>
      cases h
      have hu := chk_one hk (List.mem_singleton.2 rfl)
      rcases hr .unit hu with h | ⟨_, r, hrow, rfl⟩
      · cases h
      refine ⟨[t], rfl, by simp [hrow], rfl, fun i hi hi' x hx hne => ?_⟩
      have : i = 0 := by simpa using hi
      subst this
      obtain ⟨xs, hxs, hrd⟩ := row_rdF R hrow (fun b => L.F b ∨ L.blks [t] b) (fun b h => .inl h) (fun b hb => .inr ⟨t, by simp, r, hrow, hb⟩)
      have hx' : (ν (tC t))[0]? = some x := hx
      rw [hxs] at hx'
      cases hx'
      exact ⟨hrd, hrd.cell1 hne⟩
  | _ => cases h
theorem blks_mono {L : Lay} {t1 t2 : List Nat} (h : ∀ t ∈ t1, t ∈ t2) : ∀ b, L.blks t1 b → L.blks t2 b := fun b ⟨t, ht, r, h1, h2⟩ => ⟨t, h t ht, r, h1, h2⟩
theorem Frzd.cat {q1 q2 : Pcs} {t1 t2 : List Nat} {c1 c2 : List Value} (h1 : Frzd P ν L w q1 t1 c1) (h2 : Frzd P ν L w q2 t2 c2) : Frzd P ν L w (q1.cat q2) (t1 ++ t2) (c1 ++ c2) where
  kill := by simp [Pcs.cat, h1.kill, h2.kill]
  row t ht := by
    rcases List.mem_append.1 ht with h | h
    · exact h1.row t h
    · exact h2.row t h
  len := by simp [Pcs.cat, h1.len, h2.len]
  rd i h h' x hx hne := by
    simp only [Pcs.cat, List.length_append] at h
    simp only [List.length_append] at h'
    have hlen := h1.len
    by_cases hi : i < q1.ps.length
    · simp only [Pcs.cat, List.getElem_append, hi, dif_pos, show i < c1.length by omega] at hx ⊢
      obtain ⟨h3, h4⟩ := h1.rd i hi (by omega) x hx hne
      exact ⟨h3.mono (fun b hb => hb.imp id (blks_mono (by simp; intro t ht; exact .inl ht) b)) (fun _ _ => rfl), h4⟩
    · simp only [Pcs.cat, List.getElem_append, hi, show ¬ i < c1.length by omega, dite_false] at hx ⊢
      have e : i - q1.ps.length = i - c1.length := by omega
      obtain ⟨h3, h4⟩ := h2.rd (i - q1.ps.length) (by omega) (by omega) x hx hne
      simp only [e] at h3 h4
      exact ⟨h3.mono (fun b hb => hb.imp id (blks_mono (by simp; intro t ht; exact .inr ht) b)) (fun _ _ => rfl), h4⟩
theorem frzL_ok (R : Rel P w0 M N α ν L a w) {g : VArg} : ∀ (as : List At) (j : Nat) (q : Pcs) (cs : List Value), pcsL (frz1 g) j as = some q → as.length = cs.length → (∀ i (h : i < as.length) (h' : i < cs.length) x, (g.get ν)[j + i]? = some x → RA P L w as[i] x cs[i]) → q.chk.all (unitAt ν) = true → ∃ toks, Frzd P ν L w q toks cs
  | [], j, q, cs, h, hl, hr, hk => by
    cases h
    have : cs = [] := List.eq_nil_of_length_eq_zero hl.symm
    subst this
    exact ⟨[], rfl, by simp, rfl, fun i h => by simp at h⟩
  | a1 :: as, j, q, [], h, hl, hr, hk => by simp at hl
  | a1 :: as, j, q, c :: cs, h, hl, hr, hk => by
    simp only [pcsL, Option.bind_eq_some_iff, Option.map_eq_some_iff] at h
    obtain ⟨q1, h1, q2, h2, rfl⟩ := h
    simp only [Pcs.cat, List.all_append, Bool.and_eq_true] at hk
    obtain ⟨t1, f1⟩ := frz1_ok R h1 (fun x hx => hr 0 (by simp) (by simp) x (by simpa using hx)) hk.1
    obtain ⟨t2, f2⟩ := frzL_ok R as (j + 1) q2 cs h2 (by simpa using hl) (fun i hi hi' x hx => by
      have := hr (i + 1) (by simpa using hi) (by simpa using hi') x (by rw [← hx]; congr 1; omega)
      simpa using this) hk.2
    exact ⟨t1 ++ t2, f1.cat f2⟩
theorem RAs.at {as : List At} {xs : List V} {cs : List Value} (h : RAs P L w as xs cs) : ∀ i (h : i < as.length) (h' : i < cs.length) x, xs[0 + i]? = some x → RA P L w as[i] x cs[i] := by
  intro i hi hi' x hx
  rw [Nat.zero_add] at hx
  obtain ⟨h1, rfl⟩ := List.getElem?_eq_some_iff.1 hx
  exact h.2.2 i hi h1 hi'

/-! #### a store into a row -/
theorem getD_setRow {C : Array Value} {vs : List Value} {p n i : Nat} (hn : vs.length = n) (hp : p + n ≤ C.size) : ((C.toList.take p ++ vs ++ C.toList.drop (p + n)).toArray).getD i undef = if p ≤ i ∧ i < p + n then vs.getD (i - p) undef else C.getD i undef := by
  simp only [Array.getD_eq_getD_getElem?, List.getElem?_toArray, List.getD_eq_getElem?_getD]
  by_cases h1 : i < p
  · rw [if_neg (by omega), List.getElem?_append_left (by simp; omega), List.getElem?_append_left (by simp; omega), List.getElem?_take, if_pos h1]
    simp
  · by_cases h2 : i < p + n
    · rw [if_pos ⟨by omega, h2⟩, List.getElem?_append_left (by simp; omega), List.getElem?_append_right (by simp; omega)]
      simp [Nat.min_eq_left (show p ≤ C.size by omega)]
    · rw [if_neg (by omega), List.getElem?_append_right (by simp; omega)]
      simp only [List.length_append, List.length_take, Array.length_toList, hn, List.getElem?_drop, Nat.min_eq_left (show p ≤ C.size by omega)]
      rw [show p + n + (i - (p + n)) = i by omega]
      simp
theorem vput_el {S : Nat → Prop} {ag : Bool} {sz j n : Nat} {x y : V} {zs : List V} {f g : Nat → Value} (h : vput j n x zs = some y) (hx : RdE P S w ag sz x f) (hz : ag = false → sz = 1) (hn : zs.length = n)
    (hg2 : ∀ i, i < sz → ¬ (j ≤ i ∧ i < j + n) → g i = f i) (hzs : ∀ i (h : i < zs.length), zs[i] ≠ .undef ∧ Rd P S w zs[i] (g (j + i))) : RdE P S w ag sz y g ∧ j + n ≤ sz := by
  unfold vput at h
  split at h
  · rename_i ys
    split at h
    · rename_i hl
      cases h
      cases ag with
      | false => exact absurd rfl ((show _ ∧ Rd P S w (.agg ys) (f 0) from hx).2.not_agg ys)
      | true =>
        obtain ⟨ys', he, hl2, hr⟩ := hx
        injection he with he
        subst he
        refine ⟨⟨_, rfl, by simp; omega, fun i hi => ?_⟩, by omega⟩
        simp only [List.length_append, List.length_take, List.length_drop] at hi
        by_cases h1 : i < j
        · rw [hg2 i (by omega) (by omega)]
          have := hr i (by omega)
          rw [List.getElem_append_left (by simp; omega), List.getElem_append_left (by simp; omega)]
          simpa using this
        · by_cases h2 : i < j + n
          · have := hzs (i - j) (by omega)
            rw [show j + (i - j) = i by omega] at this
            rw [List.getElem_append_left (by simp; omega), List.getElem_append_right (by simp; omega)]
            simpa [Nat.min_eq_left (show j ≤ ys.length by omega)] using this
          · rw [hg2 i (by omega) (by omega)]
            have := hr i (by omega)
            rw [List.getElem_append_right (by simp; omega)]
            simp only [List.length_append, List.length_take, List.getElem_drop]
            have e : j + n + (i - (min j ys.length + zs.length)) = i := by rw [Nat.min_eq_left (by omega)]; omega
            simpa [e] using this
    · cases h
  · rename_i x' z hna
    split at h
    · rename_i hj
      obtain ⟨rfl, rfl⟩ := hj
      cases h
      cases ag with
      | true =>
        obtain ⟨ys, he, _⟩ := hx
        exact (hna ys he).elim
      | false =>
        have := hz rfl
        subst this
        have := hzs 0 (by simp)
        exact ⟨⟨by simpa using this.1, by simpa using this.2⟩, by omega⟩
    · cases h
  · cases h

theorem flat_cells {h : Sh} {b : Bool} {as : List At} {xs : List V} {c : Value} (hf : h.flat = some (b, as)) (hm : as.all memAt = true) (H : RSl P L w h xs c) : ∃ cs : List Value, RAs P L w as xs cs ∧ (c = .agg cs.toArray ∨ cs = [c]) := by
  cases h with
  | one a1 =>
    cases hf
    have hra : RAs P L w [a1] xs [c] := by cases a1 <;> first | exact H | (simp [memAt] at hm; done)
    exact ⟨[c], hra, .inr rfl⟩
  | agg as' =>
    cases hf
    obtain ⟨cs, rfl, hr⟩ := H
    exact ⟨cs.toList, hr, .inl (by simp)⟩
  | tup ps => cases hf
theorem pieces_of {ps : List Pc} {zs : List V} (h : pks (ps.map fun p => VArg.get ν p.1) (ps.zipIdx.map fun p => (p.2, p.1.2)) = some zs) : Pieces ν ps zs := by
  obtain ⟨hi, H⟩ := numb_args (ν := ν) [ps] [] 0 (by simp)
  have := H zs (by simpa [numb] using h)
  exact ⟨by simpa using this.1, fun j hj hj' => by simpa [pcGet] using this.2 j hj hj'⟩
theorem Frzd.cells {q : Pcs} {toks : List Nat} {cs : List Value} {zs : List V} {c : Value} (f : Frzd P ν L w q toks cs) (hz : Pieces ν q.ps zs) (hc : c = .agg cs.toArray ∨ cs = [c]) : c.cells.toList = cs ∧ zs.length = cs.length ∧ (∀ v ∈ cs, v.oneCell' = true) ∧
    ∀ i (h : i < zs.length) (h' : i < cs.length), Rd P (fun b => L.F b ∨ L.blks toks b) w zs[i] cs[i] := by
  have hlen := f.len
  have hz1 := hz.1
  have key : ∀ i (h : i < q.ps.length), _ := fun i h => f.rd i h (by omega) (zs[i]'(by omega)) (hz.2 i h (by omega)).1 (hz.2 i h (by omega)).2
  refine ⟨?_, by omega, fun v hv => ?_, fun i h h' => (key i (by omega)).1⟩
  · rcases hc with rfl | rfl
    · simp [Value.cells]
    · have := (key 0 (by simp at hlen; omega)).2.1
      simp only [List.getElem_cons_zero] at this
      rw [this]
  · obtain ⟨i, hi, rfl⟩ := List.getElem_of_mem hv
    exact (key i (by omega)).2.2
theorem copStore_ok2 (R : Rel P w0 M N α ν L a w) {x : Operand} {s sy : Seg} {v : Value} {t : TypeId} {n k j i : Nat} {b0 : Bool} {as : List At} {q : Pcs} (hrun : ∀ b p, a.eval x = .pointer (some ⟨b, p, none⟩) → (execOp a.eval o).run P w = ((storeVar t ⟨b, p, none⟩ v).run P w).andThen fun _ w => .ok .skip w) (hod : o.dst = none)
    (hs : s.sh = .one (.elt k j)) (hg : s.arg = .c i) (H : RSl P L w s.sh (s.arg.get ν) (a.eval x)) (Hy : RSl P L w sy.sh (sy.arg.get ν) v) (hsz : szOf P t = some n) (hf : sy.sh.flat = some (b0, as)) (hn : as.length = n) (hm : as.all memAt = true)
    (hq : pcsL (frz1 sy.arg) 0 as = some q) (hnk : q.kill.contains (tkK k) = false)
    (hv : runIs Φ [{ f := .sto j n (q.ps.zipIdx.map fun p => (p.2, p.1.2)), rd := .c i :: .c (tC k) :: q.ps.map (·.1), chk := q.chk, wr := [tC k] }] ν = some ν') :
    OpG P o a w (Goal P w0 M N ((α.sk [k] q.kill)) ν') := by
  obtain ⟨hk, _, z, hz, rfl⟩ := VI.inv1 (run_ins1 hv)
  rw [hs, hg] at H
  obtain ⟨y, hy, hr⟩ := RAs.single H
  rw [get_c] at hy
  simp only [List.map_cons, get_c, hy] at hz
  rcases hr with rfl | ⟨r, m, b, p, nn, cap, sz, hrow, rfl, hval, hsze, hlt, hc⟩
  · cases hz
  obtain ⟨xs, hxs, Hr⟩ := R.rows k r hrow
  rw [hxs] at hz
  rcases Hr with ⟨h3, _⟩ | ⟨b', p', cap', sz', ag, C, fz, HR⟩
  · rw [h3] at hval; cases hval
  rw [HR.hv] at hval
  cases hval
  have hse : sz' = sz := by have := HR.rd.hz; rw [hsze] at this; exact (Option.some.inj this).symm
  subst hse
  rw [VF.sem] at hz
  rw [if_pos (by omega)] at hz
  simp only [Option.bind_eq_some_iff, Option.map_eq_some_iff, Int.toNat_natCast] at hz
  obtain ⟨el, hel, zs, hzs, y, hput, hz⟩ := hz
  cases hz
  rw [List.map_map] at hzs
  have hpc : Pieces ν q.ps zs := pieces_of hzs
  obtain ⟨cs, hra, hcs⟩ := flat_cells hf hm Hy
  obtain ⟨toks, f⟩ := frzL_ok R as 0 q cs hq hra.1 hra.at hk
  obtain ⟨hcells, hzl, hone, hrd⟩ := f.cells hpc hcs
  have hcl : cs.length = n := by have := hra.1; omega
  have hlt2 : m < xs.length := hlt
  have hel2 : xs[m] = el := by simpa [List.getElem?_eq_getElem hlt2] using hel
  have hntok : ∀ t ∈ toks, t ∉ [k] := by
    intro t ht e
    have : t = k := by simpa using e
    subst this
    have : tkK t ∈ q.kill := by rw [f.kill]; exact List.mem_map.2 ⟨t, ht, rfl⟩
    simp [this] at hnk
  -- the cells
  have hfit0 : m * sz' + sz' ≤ xs.length * sz' := by
    have := Nat.mul_le_mul_right sz' (show m + 1 ≤ xs.length from hlt2)
    rw [Nat.add_mul] at this; omega
  have hcap : xs.length * sz' ≤ cap * sz' := Nat.mul_le_mul_right _ HR.hc
  have hHs := HR.hs
  have hE0 := HR.rd.hx m hlt2
  rw [hel2] at hE0
  let F' : Nat → Prop := fun b => L.F b ∨ L.blks toks b
  have hE1 : RdE P F' w ag sz' el (fun jj => C.getD (p + (m * sz' + jj)) undef) := hE0.mono (fun b h => .inl h) (fun _ _ => rfl)
  have hjn : j + n ≤ sz' := by
    cases ag with
    | true =>
      obtain ⟨ys, he, hl2, _⟩ := hE0
      rw [he] at hput
      simp only [vput] at hput
      split at hput
      · rename_i h; omega
      · cases hput
    | false =>
      have := HR.rd.ha rfl
      unfold vput at hput
      split at hput
      · rename_i ys; exact absurd rfl ((show _ ∧ Rd P L.F w (.agg ys) _ from hE0).2.not_agg ys)
      · split at hput
        · rename_i h; omega
        · cases hput
      · cases hput
  have hfit : p + m * sz' + j + n ≤ C.size := by omega
  have hst := run_storeVar_at (P := P) (w := w) (v := v) (b := b) (q := p + m * sz' + j) hsz (by have := congrArg List.length hcells; simp at this; omega) HR.hh HR.hfz hfit (by rw [hcells]; exact hone)
  rw [hcells] at hst
  refine OpG.skip (by rw [hrun b _ hc, hst]; rfl) ?_
  rw [hod]
  have hkey : ∀ ii, ((C.toList.take (p + m * sz' + j) ++ cs ++ C.toList.drop (p + m * sz' + j + n)).toArray).getD ii undef = if p + m * sz' + j ≤ ii ∧ ii < p + m * sz' + j + n then cs.getD (ii - (p + m * sz' + j)) undef else C.getD ii undef := fun ii => getD_setRow hcl hfit
  obtain ⟨hE2, _⟩ := vput_el (S := F') (g := fun jj => ((C.toList.take (p + m * sz' + j) ++ cs ++ C.toList.drop (p + m * sz' + j + n)).toArray).getD (p + (m * sz' + jj)) undef) hput hE1 HR.rd.ha (by omega) (fun ii h1 h2 => by
    show _ = _
    rw [hkey, if_neg (by omega)]) (fun ii hii => by
    have := hrd ii hii (by omega)
    refine ⟨(hpc.2 ii (by have := hpc.1; omega) hii).2, ?_⟩
    show Rd P F' w zs[ii] _
    rw [hkey, if_pos (by omega), show p + (m * sz' + (j + ii)) - (p + m * sz' + j) = ii by omega]
    simpa [List.getD_eq_getElem?_getD, List.getElem?_eq_getElem (show ii < cs.length by omega)] using this)
  have hW : WStep w (w.setRow b (C.toList.take (p + m * sz' + j) ++ cs ++ C.toList.drop (p + m * sz' + j + n)).toArray) (L.blks [k]) := WStep.setRow w b _ _ ⟨k, by simp, r, hrow, by rw [Row.blk, HR.hv]; rfl⟩
  have hFb : ∀ bb, F' bb → bb ≠ b := by
    rintro bb (h | ⟨t, ht, r2, h1, h2⟩) e
    · subst e
      exact (R.rowmine k r bb hrow (by rw [Row.blk, HR.hv]; rfl)).2.2 (R.fs bb h)
    · subst e
      exact hntok t ht (by rw [R.rr t k r2 r bb h1 hrow h2 (by rw [Row.blk, HR.hv]; rfl)]; simp)
  have hheap : ∀ bb, F' bb → (w.setRow b (C.toList.take (p + m * sz' + j) ++ cs ++ C.toList.drop (p + m * sz' + j + n)).toArray).heap[bb]? = w.heap[bb]? := fun bb h => setRow_other w b bb _ (hFb bb h)
  have hrow' : RowOK P (L.withRow k r [k] toks).F (w.setRow b (C.toList.take (p + m * sz' + j) ++ cs ++ C.toList.drop (p + m * sz' + j + n)).toArray) r [.list r.e (xs.set m y)] := by
    refine ⟨_, rfl, .inr ⟨b, p, cap, sz', ag, _, fz, by simpa using HR.hv, setRow_heap w b C _ r.e fz HR.hh, ?_, by simpa using HR.hc, HR.hm, ?_, ?_⟩⟩
    · rcases HR.hfz with h | h
      · exact .inl h
      · right; simp; omega
    · simp; omega
    · refine ⟨HR.rd.hk, HR.rd.hz, HR.rd.hp, HR.rd.ha, fun ii hii => ?_⟩
      simp only [List.length_set] at hii
      by_cases hm2 : ii = m
      · subst hm2
        simp only [List.getElem_set_self]
        exact hE2.mono (fun _ h => h) hheap
      · rw [List.getElem_set_ne (fun e => hm2 e.symm)]
        have h1 := (HR.rd.hx ii hii).mono (S' := F') (fun b h => .inl h) (w' := w) (fun _ _ => rfl)
        have h2 : RdE P F' w ag sz' xs[ii] (fun jj => ((C.toList.take (p + m * sz' + j) ++ cs ++ C.toList.drop (p + m * sz' + j + n)).toArray).getD (p + (ii * sz' + jj)) undef) := by
          have hcong : ∀ jj, jj < sz' → ((C.toList.take (p + m * sz' + j) ++ cs ++ C.toList.drop (p + m * sz' + j + n)).toArray).getD (p + (ii * sz' + jj)) undef = C.getD (p + (ii * sz' + jj)) undef := by
            intro jj hjj
            rw [hkey, if_neg ?_]
            rcases Nat.lt_or_gt_of_ne hm2 with h | h
            · have := Nat.mul_le_mul_right sz' (show ii + 1 ≤ m from h)
              rw [Nat.add_mul] at this; omega
            · have := Nat.mul_le_mul_right sz' (show m + 1 ≤ ii from h)
              rw [Nat.add_mul] at this; omega
          cases ag with
          | false =>
            have := HR.rd.ha rfl
            have h0 := hcong 0 (by omega)
            refine ⟨h1.1, ?_⟩
            show Rd P F' w xs[ii] (((C.toList.take (p + m * sz' + j) ++ cs ++ C.toList.drop (p + m * sz' + j + n)).toArray).getD (p + (ii * sz' + 0)) undef)
            rw [h0]
            exact h1.2
          | true =>
            obtain ⟨ys, he, hl2, hr⟩ := h1
            refine ⟨ys, he, hl2, fun jj hjj => ?_⟩
            have h0 := hcong jj (by omega)
            refine ⟨(hr jj hjj).1, ?_⟩
            show Rd P F' w ys[jj] (((C.toList.take (p + m * sz' + j) ++ cs ++ C.toList.drop (p + m * sz' + j + n)).toArray).getD (p + (ii * sz' + jj)) undef)
            rw [h0]
            exact (hr jj hjj).2
        exact h2.mono (fun _ h => h) hheap
  have R2 := R.rowStep k r [.list r.e (xs.set m y)] [k] toks [k] q.kill (by simp) hW (fun t ht => by
    rcases ht with ht | ht
    · have : t = k := by simpa using ht
      subst this
      exact .inr ⟨rfl, by simp, hrow⟩
    · exact .inl (by rw [f.kill]; exact List.mem_map.2 ⟨t, ht, rfl⟩)) hntok hrow' (fun bb hbb => ⟨by
      have := (R.rowmine k r bb hrow hbb).2.1
      simpa using this, .inr ⟨k, by simp, r, hrow, hbb⟩⟩)
  exact ⟨_, R2⟩

theorem copStore_ok (R : Rel P w0 M N α ν L a w) {t : TypeId} {x y : Operand} (ho : o.op = .store t x y) (hod : o.dst = none) (h : RM.out α (copStore P t x y) E) (hv : runIs Φ E.vis ν = some ν') :
    OpG P o a w (Goal P w0 M N (E.ap α none) ν') := by
  simp only [copStore, out_bind, out_opt, out_need] at h
  obtain ⟨s, h1, sy, h2, n, hsz, ⟨b0, as⟩, hf, _, hn, _, hm, h⟩ := h
  have H := opd_ok R h1
  have Hy := opd_ok R h2
  have hn' : as.length = n := by simpa using hn
  have hrun : ∀ b p, a.eval x = .pointer (some ⟨b, p, none⟩) → (execOp a.eval o).run P w = ((storeVar t ⟨b, p, none⟩ (a.eval y)).run P w).andThen fun _ w => .ok .skip w := by
    intro b p hc
    simp [execOp, ho, hc, Instr.storeAt, Instr.sureAddr]
  split at h
  · rename_i u off i hs hg
    simp only [out_bx, out_bind, out_opt, out_need, out_ok, Bool.and_eq_true, decide_eq_true_eq, Bool.not_eq_true'] at h
    obtain ⟨bx, hbx, _, ⟨hle, hro⟩, _, ⟨hc1, hc2⟩, rfl⟩ := h
    have := copStore_ok1 R (fun b => hrun b off) hod hs hg H Hy hsz hf hn' hm hbx hle hro hc1 hc2 hv
    simpa only [Eff.ap, Al.setBs, sk_setBs] using this
  · rename_i k j i hs hg
    simp only [out_bind, out_opt, out_need, out_ok, Bool.not_eq_true'] at h
    obtain ⟨q, hq, _, hnk, rfl⟩ := h
    have := copStore_ok2 R hrun hod hs hg H Hy hsz hf hn' hm hq hnk hv
    simpa only [Eff.ap, Al.setBs, ap_sk] using this
  · rw [out_no] at h; exact h.elim
end
end Go.Proofs.YtogfkdpgkloljaaDoorVs
