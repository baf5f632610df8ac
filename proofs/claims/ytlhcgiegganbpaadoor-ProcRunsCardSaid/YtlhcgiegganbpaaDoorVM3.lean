/-
  Several texts in one: Struct literals, stores into rows, rows made. Conditions: each lemma's own premises. | Rows: literals, makes, appends, stores, cuts. Conditions: each lemma's own premises. | Cuts of rows and strings. Conditions: each lemma's own premises. | Rows that are made: literals, makes, bytes of strings, appends. Conditions: each lemma's own premises. | Makes and appends. Conditions: each lemma's own premises. | Appends come to what their instructions say; all operations but calls. Conditions: each lemma's own premises. | A function literal: it holds variables that nobody changes from then on. Conditions: each lemma's own premises.
-/
import Derived.Test.YtlhcgiegganbpaaDoorVM2
import Derived.Great.BuildSlice
set_option linter.unusedVariables false
set_option linter.unusedSimpArgs false
namespace Go.Proofs.YtlhcgiegganbpaaDoorVs
section
variable {P : Program} {w0 : World} {M : Nat → Prop} {N : Fr} {α : Al} {ν ν' : Env} {L : Lay} {a : Act} {w w' : World} {Φ : Funs} {o : Oper} {d : Nat} {E : Eff}

/-! #### struct literals -/
theorem fill_one {place : Nat → Option (Nat × Nat)} {i off n : Nat} {v : Value} {cells : Array Value} {r : List (Nat × Value)} (hp : place i = some (off, n)) (hv : v.cells.size = n) (hl : off + n ≤ cells.size) :
    Instr.fill place cells ((i, v) :: r) = Instr.fill place (cells.toList.take off ++ v.cells.toList ++ cells.toList.drop (off + n)).toArray r := by
  have hcells : (v.cells.zipIdx.foldl (fun cs (x : Value × Nat) => cs.setIfInBounds (off + x.2) x.1) cells) = (cells.toList.take off ++ v.cells.toList ++ cells.toList.drop (off + n)).toArray := by
    rw [← Array.foldl_toList, Array.toList_zipIdx]
    obtain ⟨h1, h2⟩ := Go.Great.foldl_set off v.cells.toList 0 cells
    apply Array.ext_getElem?
    intro k
    rw [h2 k]
    simp only [Nat.add_zero, Array.length_toList, hv, List.getElem?_toArray]
    by_cases hk : off ≤ k ∧ k < off + n ∧ k < cells.size
    · rw [if_pos hk]
      rw [List.getElem?_append_left (by simp; omega), List.getElem?_append_right (by simp; omega)]
      simp [Nat.min_eq_left (show off ≤ cells.size by omega)]
    · rw [if_neg hk]
      by_cases h3 : k < off
      · rw [List.getElem?_append_left (by simp; omega), List.getElem?_append_left (by simp; omega), List.getElem?_take, if_pos h3]
        simp
      · by_cases h4 : off + n ≤ k
        · rw [List.getElem?_append_right (by simp; omega)]
          simp only [List.length_append, List.length_take, Array.length_toList, hv, List.getElem?_drop, Nat.min_eq_left (show off ≤ cells.size by omega)]
          rw [show off + n + (k - (off + n)) = k by omega]
          simp
        · have : cells.size ≤ k := by omega
          omega
  conv => lhs; unfold Instr.fill
  rw [hp]
  simp only
  rw [if_neg (by simp [hv]; omega)]
  exact congrArg (fun z => Instr.fill place z r) hcells
theorem RPcs.splice {l : List APc} {cs : List Value} (H : RPcs P L w ν l cs) {as : List At} {g : VArg} {vs : List Value} (Hv : RPcs P L w ν (apc as g) vs) (off n : Nat) (hn : as.length = n) (hl : off + n ≤ l.length) :
    RPcs P L w ν (l.take off ++ apc as g ++ l.drop (off + n)) (cs.take off ++ vs ++ cs.drop (off + n)) := by
  obtain ⟨h1, h2⟩ := H
  obtain ⟨h3, h4⟩ := Hv
  rw [apc_len] at h3
  refine ⟨by simp [apc_len]; omega, fun i hi hi' x hx hne => ?_⟩
  simp only [List.length_append, List.length_take, List.length_drop, apc_len] at hi hi'
  by_cases hA : i < off
  · have e1 : (l.take off ++ apc as g ++ l.drop (off + n))[i]'(by simp [apc_len]; omega) = l[i] := by
      rw [List.getElem_append_left (by simp [apc_len]; omega), List.getElem_append_left (by simp; omega)]
      simp
    have e2 : (cs.take off ++ vs ++ cs.drop (off + n))[i]'(by simp; omega) = cs[i] := by
      rw [List.getElem_append_left (by simp; omega), List.getElem_append_left (by simp; omega)]
      simp
    rw [e1] at hx ⊢
    rw [e2]
    exact h2 i (by omega) (by omega) x hx hne
  · by_cases hB : i < off + n
    · have e1 : (l.take off ++ apc as g ++ l.drop (off + n))[i]'(by simp [apc_len]; omega) = (apc as g)[i - off]'(by rw [apc_len]; omega) := by
        rw [List.getElem_append_left (by simp [apc_len]; omega), List.getElem_append_right (by simp; omega)]
        simp [Nat.min_eq_left (show off ≤ l.length by omega)]
      have e2 : (cs.take off ++ vs ++ cs.drop (off + n))[i]'(by simp; omega) = vs[i - off]'(by omega) := by
        rw [List.getElem_append_left (by simp; omega), List.getElem_append_right (by simp; omega)]
        simp [Nat.min_eq_left (show off ≤ cs.length by omega)]
      rw [e1] at hx ⊢
      rw [e2]
      exact h4 (i - off) (by rw [apc_len]; omega) (by omega) x hx hne
    · have e1 : (l.take off ++ apc as g ++ l.drop (off + n))[i]'(by simp [apc_len]; omega) = l[i]'(by omega) := by
        rw [List.getElem_append_right (by simp [apc_len]; omega)]
        simp only [List.length_append, List.length_take, apc_len, List.getElem_drop]
        congr 1; omega
      have e2 : (cs.take off ++ vs ++ cs.drop (off + n))[i]'(by simp; omega) = cs[i]'(by omega) := by
        rw [List.getElem_append_right (by simp; omega)]
        simp only [List.length_append, List.length_take, List.getElem_drop]
        congr 1; omega
      rw [e1] at hx ⊢
      rw [e2]
      exact h2 i (by omega) (by omega) x hx hne
theorem dfn_ne (R : Rel P w0 M N α ν L a w) {s : Seg} {b : Bool} {as : List At} {c : Value} (hf : s.sh.flat = some (b, as)) (hm : as.all memAt = true) (H : RSl P L w s.sh (s.arg.get ν) c) (hd : (dfnOf s).all (defAt ν) = true) (hlit : ∀ vs, s.arg = .lit vs → ∀ x ∈ vs, x ≠ .undef) :
    c.cells.size = as.length ∧ RPcs P L w ν (apc as s.arg) c.cells.toList := by
  obtain ⟨hl1, hl2, hat, hog⟩ := memAt_live hf hm
  have hlen := atoms_len H hl1 hl2 hog
  rw [hat] at hlen
  cases hsh : s.sh with
  | agg as' =>
    rw [hsh] at hf H
    cases hf
    obtain ⟨cs, rfl, hr⟩ := H
    exact ⟨by simpa [Value.cells] using hr.1.symm, RAs.pcs hr⟩
  | ogg ps => rw [hsh] at hf; cases hf
  | tup ps => rw [hsh] at hf; cases hf
  | one a1 =>
    have hne : ∀ x ∈ s.arg.get ν, x ≠ .undef := by
      cases harg : s.arg with
      | lit vs => exact hlit vs harg
      | c i =>
        rw [hsh] at hf; cases hf
        simp only [dfnOf, hsh, harg, List.all_cons, List.all_nil, Bool.and_true, defAt] at hd
        rw [harg, get_c] at hlen
        obtain ⟨x, hx⟩ := List.length_eq_one_iff.1 (by simpa using hlen)
        intro y hy e
        subst e
        rw [get_c, hx] at hy
        have : x = .undef := by simp only [List.mem_singleton] at hy; exact hy.symm
        rw [hx, this] at hd
        simp at hd
    obtain ⟨hr, _⟩ := flat_ok R hf hm hne H
    exact ⟨by simpa using hr.1.symm, RAs.pcs hr⟩
theorem zV_ne {v : Value} {t : TypeId} {at1 : At} {y : V} (h : zV P v t = some (at1, y)) : y ≠ .undef := by
  unfold zV at h
  split at h <;> simp_all <;> (try (obtain ⟨_, _, _, rfl⟩ := h; simp)) <;> (try (obtain ⟨_, rfl⟩ := h; simp))
theorem opd_lit {x : Operand} {ty : TypeId} {s : Seg} (h : RM.out α (opd P x ty) s) : ∀ vs, s.arg = .lit vs → ∀ x ∈ vs, x ≠ .undef := by
  unfold opd at h
  split at h
  · rw [out_sl, out_ok] at h; subst h; intro vs e; cases e
  · split at h
    · rename_i hz
      rw [out_ok] at h; subst h
      intro vs e
      cases e
      intro x hx
      simp only [List.mem_singleton] at hx
      subst hx
      exact zV_ne hz
    · rw [out_no] at h; exact h.elim
  · rw [out_ok] at h; subst h
    intro vs e
    cases e
    intro x hx
    simp only [List.mem_singleton] at hx
    subst hx
    simp
  · rw [out_no] at h; exact h.elim
theorem part_struct {t : TypeId} {fs : Array Field} {places : List (Nat × Nat)} (hu : P.underlying t = some (.struct fs)) (hp : placesOf P fs.toList = some places) : ∀ i off n ft, partAt P t i = some (off, n, ft) → places.toArray[i]? = some (off, n) := by
  intro i off n ft h
  simp only [partAt, hu, Option.bind_eq_some_iff, Option.map_eq_some_iff] at h
  obtain ⟨⟨off', n', ag⟩, hf, ft', _, he⟩ := h
  cases he
  obtain ⟨fs', g, hu', hg, hsz, hag, hoff⟩ := fieldOf_ok hf
  rw [hu] at hu'
  cases hu'
  have go : ∀ (fs : List Field) (places : List (Nat × Nat)) (i : Nat) (g : Field), placesOf P fs = some places → fs[i]? = some g → szOf P g.type = some n' → places[i]? = some (g.offset, n') := by
    intro fs
    induction fs with
    | nil => intro pl i g _ h; simp at h
    | cons f fs ih =>
      intro pl i g h1 h2 h3
      simp only [placesOf, List.mapM_cons, Option.bind_eq_bind, Option.bind_eq_some_iff, Option.pure_def, Option.some.injEq, Option.map_eq_some_iff] at h1
      obtain ⟨p, ⟨ti, hti, rfl⟩, q, hq, rfl⟩ := h1
      cases i with
      | zero =>
        simp only [List.getElem?_cons_zero, Option.some.injEq] at h2 ⊢
        subst h2
        simp only [szOf, hti, Option.map_some, Option.some.injEq] at h3
        rw [h3]
      | succ i => simpa using ih q i g hq (by simpa using h2) h3
  have := go fs.toList places i g hp (by simpa using hg) hsz
  simpa [hoff] using this
theorem part_array {t k e : TypeId} {i : TypeInfo} (hu : P.underlying t = some (.array k e)) (hi : P.info? e = some i) : ∀ j off n ft, partAt P t j = some (off, n, ft) → some (j * i.size, i.size) = some (off, n) := by
  intro j off n ft h
  simp only [partAt, hu, szOf, hi, Option.map_some, Option.some.injEq, Prod.mk.injEq] at h
  obtain ⟨rfl, rfl, _⟩ := h
  rfl
theorem buildL_ok (R : Rel P w0 M N α ν L a w) {t : TypeId} {place : Nat → Option (Nat × Nat)} (hpl : ∀ i off n ft, partAt P t i = some (off, n, ft) → place i = some (off, n)) : ∀ (parts : List (Nat × Operand)) {l l' : List APc} {ds : List (Nat × Nat)} {cs : List Value},
    RM.out α (buildL P t parts l) (l', ds) → ds.all (defAt ν) = true → RPcs P L w ν l cs →
    ∃ cs', Instr.fill place cs.toArray (parts.map fun p => (p.1, a.eval p.2)) = some cs'.toArray ∧ RPcs P L w ν l' cs'
  | [], l, l', ds, cs, h, hd, H => by
    rw [buildL, out_ok] at h
    cases h
    exact ⟨cs, rfl, H⟩
  | (i, x) :: r, l, l', ds, cs, h, hd, H => by
    simp only [buildL, out_bind, out_opt, out_need, out_ok, Bool.and_eq_true, beq_iff_eq, decide_eq_true_eq] at h
    obtain ⟨⟨off, n, ft⟩, hf, s, hs, ⟨b, as⟩, hfl, _, ⟨⟨hn, hle⟩, hm⟩, ⟨l2, ds2⟩, hb, he⟩ := h
    cases he
    simp only [List.all_append, Bool.and_eq_true] at hd
    have Hx := opd_ok R hs
    obtain ⟨hcs, hpc⟩ := dfn_ne R hfl hm Hx hd.1 (opd_lit hs)
    have hcl : l.length = cs.length := H.1
    simp only at hn hle
    have := RPcs.splice H hpc off n hn hle
    obtain ⟨cs', h1, h2⟩ := buildL_ok R hpl r hb hd.2 this
    refine ⟨cs', ?_, h2⟩
    simp only [List.map_cons]
    rw [fill_one (hpl i off n ft hf) (by rw [hcs]; exact hn) (by simp; omega)]
    exact h1
theorem copBuild_ok (R : Rel P w0 M N α ν L a w) (hd : N.W d) {t : TypeId} {parts : Array (Nat × Operand)} (ho : o.op = .build t parts) (hod : o.dst = some d) (h : RM.out α (copBuild P d t parts) E) (hv : runIs Φ E.vis ν = some ν') :
    OpG P o a w (Goal P w0 M N (E.ap α (some d)) ν') := by
  simp only [copBuild, out_bind, out_opt, out_need, out_ok] at h
  obtain ⟨_, hk, ⟨as, vs⟩, hz, ⟨l, ds⟩, hb, _, hcl, rfl⟩ := h
  obtain ⟨i, z, hi, hz2, hra, _⟩ := zeroOf_ok (L := L) (w := w) hz
  have hrun1 := run_ins1 hv
  have hdf := VI.inv_dfn hrun1
  have hbu : ∃ cs', P.built t (parts.map fun (i, x) => (i, a.eval x)).toList = some cs'.toArray ∧ RPcs P L w ν l cs' := by
    split at hk
    · rename_i fs hu
      obtain ⟨places, hp⟩ := Option.isSome_iff_exists.1 hk
      obtain ⟨cs', h1, h2⟩ := buildL_ok R (place := fun j => places.toArray[j]?) (part_struct hu hp) parts.toList hb hdf (RAs.pcs (g := .lit vs) (ν := ν) hra)
      refine ⟨cs', ?_, h2⟩
      unfold Program.built
      rw [hi, hu]
      simp only [hz2]
      have hp' : (fs.toList.mapM fun f => (P.info? f.type).map fun i => (f.offset, i.size)) = some places := hp
      rw [hp']
      simpa using h1
    · rename_i k e hu
      cases he : P.info? e with
      | none => rw [he] at hk; cases hk
      | some ie =>
        obtain ⟨cs', h1, h2⟩ := buildL_ok R (place := fun j => some (j * ie.size, ie.size)) (part_array hu he) parts.toList hb hdf (RAs.pcs (g := .lit vs) (ν := ν) hra)
        refine ⟨cs', ?_, h2⟩
        unfold Program.built
        rw [hi, hu]
        simp only [hz2, he]
        simpa using h1
    · cases hk
  obtain ⟨cs', hbuilt, h2⟩ := hbu
  have hrun2 : (viG (ownT (tokS d 0) l ++ [(sC d, ownP l)]) [] []).run Φ ν = some ν' := by
    unfold VI.run at hrun1 ⊢
    split at hrun1
    · rename_i hc
      rw [if_pos ⟨hc.1, by rfl⟩]
      exact hrun1
    · cases hrun1
  obtain ⟨_, _, tv, ls, h3, h4, h5, h6, rfl⟩ := viG_two hrun2
  obtain ⟨xs, rfl⟩ : ∃ xs, ls = [xs] := by
    match ls, h4 with
    | [x], _ => exact ⟨x, rfl⟩
  have hp1 := h6 0 (by simp) (by simp)
  simp only [List.getElem_cons_zero] at hp1
  obtain ⟨L1, R1, hE, hbx, hF, hS, hRA⟩ := own_ok R (tokS d 0) l cs' h2 hcl tv h3 h5
  refine OpG.value (v := .agg cs'.toArray) (w' := w) (by simp [execOp, ho, run_build w t _ _ hbuilt]) ?_
  rw [hod]
  simp only [Eff.ap, Al.setBs, sk_setBs]
  exact ⟨L1, R1.put hd ⟨cs'.toArray, rfl, by simpa using hRA xs hp1⟩⟩
end
end Go.Proofs.YtlhcgiegganbpaaDoorVs
set_option linter.unusedVariables false
set_option linter.unusedSimpArgs false
namespace Go.Proofs.YtlhcgiegganbpaaDoorVs
section
variable {P : Program} {w0 : World} {M : Nat → Prop} {N : Fr} {α : Al} {ν ν' : Env} {L : Lay} {a : Act} {w w' : World} {Φ : Funs} {o : Oper} {d : Nat} {E : Eff}

/-! #### values given away for good -/
theorem row_rdF (R : Rel P w0 M N α ν L a w) {t : Nat} {r : Row} (h : L.row t = some r) (F' : Nat → Prop) (hF : ∀ b, L.F b → F' b) (hb : ∀ b, r.blk = some b → F' b) : ∃ xs, ν (tC t) = [.list r.e xs] ∧ Rd P F' w (.list r.e xs) r.val := by
  obtain ⟨xs, hx, H⟩ := R.rows t r h
  refine ⟨xs, hx, ?_⟩
  rcases H with ⟨h1, rfl⟩ | ⟨b, q, cap, sz, ag, C, fz, H⟩
  · rw [h1]; exact .nil _ _ _
  · rw [H.hv]
    refine Rd.of_row (H.rd.mono hF (fun _ _ => rfl)) b q cap (hb b (by rw [Row.blk, H.hv]; rfl)) H.hc (fun i hi => ?_)
    have : q + i < C.size := by
      have h1 := H.hs
      have h2 : xs.length * sz ≤ cap * sz := Nat.mul_le_mul_right _ H.hc
      omega
    simp [World.cell?, H.hh, this]
theorem chk_one {i j : Nat} {chk : List (Nat × Nat)} (h : chk.all (unitAt ν) = true) (hm : (i, j) ∈ chk) : (ν i)[j]? = some .unit := by
  have := List.all_eq_true.1 h _ hm
  simp only [unitAt] at this
  split at this
  · assumption
  · cases this
/-- one atom's value, told for good -/
structure Frzd (P : Program) (ν : Env) (L : Lay) (w : World) (q : Pcs) (toks : List Nat) (cs : List Value) : Prop where
  kill : q.kill = toks.map tkK
  row : ∀ t ∈ toks, ∃ r, L.row t = some r
  len : q.ps.length = cs.length
  rd : ∀ i (h : i < q.ps.length) (h' : i < cs.length) x, pcGet ν q.ps[i] = some x → x ≠ .undef → Rd P (fun b => L.F b ∨ L.blks toks b) w x cs[i] ∧ cs[i].cells = #[cs[i]] ∧ cs[i].oneCell' = true
theorem Rd.cell1 {S : Nat → Prop} {x : V} {c : Value} (h : Rd P S w x c) (hx : x ≠ .undef) : c.cells = #[c] ∧ c.oneCell' = true := by
  cases h <;> first | (exact absurd rfl hx) | exact ⟨rfl, rfl⟩
theorem frz1_ok (R : Rel P w0 M N α ν L a w) {g : VArg} {j : Nat} {at1 : At} {q : Pcs} {c : Value} (h : frz1 g j at1 = some q) (hr : ∀ x, (g.get ν)[j]? = some x → RA P L w at1 x c) (hk : q.chk.all (unitAt ν) = true) :
    ∃ toks, Frzd P ν L w q toks [c] := by
  cases at1 with
  | v s =>
    cases s <;> first | (cases h; done) | skip
    cases h
    refine ⟨[], rfl, by simp, rfl, fun i hi hi' x hx hne => ?_⟩
    have : i = 0 := by simpa using hi
    subst this
    rcases hr x hx with h | h
    · exact absurd h hne
    · exact ⟨h.mono (fun b hb => .inl hb) (fun _ _ => rfl), h.cell1 hne⟩
  | nils =>
    cases h
    refine ⟨[], rfl, by simp, rfl, fun i hi hi' x hx hne => ?_⟩
    have : i = 0 := by simpa using hi
    subst this
    rcases hr x hx with h | ⟨rfl, e, rfl⟩
    · exact absurd h hne
    · exact ⟨.nil _ _ _, rfl, rfl⟩
  | own t =>
    cases g with
    | lit vs => cases h
    | c k =>
      cases h
      have hu := chk_one hk (List.mem_singleton.2 rfl)
      rcases hr .unit hu with h | ⟨_, r, hrow, rfl⟩
      · cases h
      refine ⟨[t], rfl, by simp [hrow], rfl, fun i hi hi' x hx hne => ?_⟩
      have : i = 0 := by simpa using hi
      subst this
      obtain ⟨xs, hxs, hrd⟩ := row_rdF R hrow (fun b => L.F b ∨ L.blks [t] b) (fun b h => .inl h) (fun b hb => .inr ⟨t, by simp, r, hrow, hb⟩)
      have hx' : (ν (tC t))[0]? = some x := hx
      rw [hxs] at hx'
      cases hx'
      exact ⟨hrd, hrd.cell1 hne⟩
  | _ => cases h
theorem blks_mono {L : Lay} {t1 t2 : List Nat} (h : ∀ t ∈ t1, t ∈ t2) : ∀ b, L.blks t1 b → L.blks t2 b := fun b ⟨t, ht, r, h1, h2⟩ => ⟨t, h t ht, r, h1, h2⟩
theorem Frzd.cat {q1 q2 : Pcs} {t1 t2 : List Nat} {c1 c2 : List Value} (h1 : Frzd P ν L w q1 t1 c1) (h2 : Frzd P ν L w q2 t2 c2) : Frzd P ν L w (q1.cat q2) (t1 ++ t2) (c1 ++ c2) where
  kill := by simp [Pcs.cat, h1.kill, h2.kill]
  row t ht := by
    rcases List.mem_append.1 ht with h | h
    · exact h1.row t h
    · exact h2.row t h
  len := by simp [Pcs.cat, h1.len, h2.len]
  rd i h h' x hx hne := by
    simp only [Pcs.cat, List.length_append] at h
    simp only [List.length_append] at h'
    have hlen := h1.len
    by_cases hi : i < q1.ps.length
    · simp only [Pcs.cat, List.getElem_append, hi, dif_pos, show i < c1.length by omega] at hx ⊢
      obtain ⟨h3, h4⟩ := h1.rd i hi (by omega) x hx hne
      exact ⟨h3.mono (fun b hb => hb.imp id (blks_mono (by simp; intro t ht; exact .inl ht) b)) (fun _ _ => rfl), h4⟩
    · simp only [Pcs.cat, List.getElem_append, hi, show ¬ i < c1.length by omega, dite_false] at hx ⊢
      have e : i - q1.ps.length = i - c1.length := by omega
      obtain ⟨h3, h4⟩ := h2.rd (i - q1.ps.length) (by omega) (by omega) x hx hne
      simp only [e] at h3 h4
      exact ⟨h3.mono (fun b hb => hb.imp id (blks_mono (by simp; intro t ht; exact .inr ht) b)) (fun _ _ => rfl), h4⟩
theorem frzL_ok (R : Rel P w0 M N α ν L a w) {g : VArg} : ∀ (as : List At) (j : Nat) (q : Pcs) (cs : List Value), pcsL (frz1 g) j as = some q → as.length = cs.length → (∀ i (h : i < as.length) (h' : i < cs.length) x, (g.get ν)[j + i]? = some x → RA P L w as[i] x cs[i]) → q.chk.all (unitAt ν) = true → ∃ toks, Frzd P ν L w q toks cs
  | [], j, q, cs, h, hl, hr, hk => by
    cases h
    have : cs = [] := List.eq_nil_of_length_eq_zero hl.symm
    subst this
    exact ⟨[], rfl, by simp, rfl, fun i h => by simp at h⟩
  | a1 :: as, j, q, [], h, hl, hr, hk => by simp at hl
  | a1 :: as, j, q, c :: cs, h, hl, hr, hk => by
    simp only [pcsL, Option.bind_eq_some_iff, Option.map_eq_some_iff] at h
    obtain ⟨q1, h1, q2, h2, rfl⟩ := h
    simp only [Pcs.cat, List.all_append, Bool.and_eq_true] at hk
    obtain ⟨t1, f1⟩ := frz1_ok R h1 (fun x hx => hr 0 (by simp) (by simp) x (by simpa using hx)) hk.1
    obtain ⟨t2, f2⟩ := frzL_ok R as (j + 1) q2 cs h2 (by simpa using hl) (fun i hi hi' x hx => by
      have := hr (i + 1) (by simpa using hi) (by simpa using hi') x (by rw [← hx]; congr 1; omega)
      simpa using this) hk.2
    exact ⟨t1 ++ t2, f1.cat f2⟩
theorem RAs.at {as : List At} {xs : List V} {cs : List Value} (h : RAs P L w as xs cs) : ∀ i (h : i < as.length) (h' : i < cs.length) x, xs[0 + i]? = some x → RA P L w as[i] x cs[i] := by
  intro i hi hi' x hx
  rw [Nat.zero_add] at hx
  obtain ⟨h1, rfl⟩ := List.getElem?_eq_some_iff.1 hx
  exact h.2.2 i hi h1 hi'

/-! #### a store into a row -/
theorem getD_setRow {C : Array Value} {vs : List Value} {p n i : Nat} (hn : vs.length = n) (hp : p + n ≤ C.size) : ((C.toList.take p ++ vs ++ C.toList.drop (p + n)).toArray).getD i undef = if p ≤ i ∧ i < p + n then vs.getD (i - p) undef else C.getD i undef := by
  simp only [Array.getD_eq_getD_getElem?, List.getElem?_toArray, List.getD_eq_getElem?_getD]
  by_cases h1 : i < p
  · rw [if_neg (by omega), List.getElem?_append_left (by simp; omega), List.getElem?_append_left (by simp; omega), List.getElem?_take, if_pos h1]
    simp
  · by_cases h2 : i < p + n
    · rw [if_pos ⟨by omega, h2⟩, List.getElem?_append_left (by simp; omega), List.getElem?_append_right (by simp; omega)]
      simp [Nat.min_eq_left (show p ≤ C.size by omega)]
    · rw [if_neg (by omega), List.getElem?_append_right (by simp; omega)]
      simp only [List.length_append, List.length_take, Array.length_toList, hn, List.getElem?_drop, Nat.min_eq_left (show p ≤ C.size by omega)]
      rw [show p + n + (i - (p + n)) = i by omega]
      simp
theorem vput_el {S : Nat → Prop} {ag : Bool} {sz j n : Nat} {x y : V} {zs : List V} {f g : Nat → Value} (h : vput j n x zs = some y) (hx : RdE P S w ag sz x f) (hz : ag = false → sz = 1) (hn : zs.length = n)
    (hg2 : ∀ i, i < sz → ¬ (j ≤ i ∧ i < j + n) → g i = f i) (hzs : ∀ i (h : i < zs.length), zs[i] ≠ .undef ∧ Rd P S w zs[i] (g (j + i))) : RdE P S w ag sz y g ∧ j + n ≤ sz := by
  unfold vput at h
  split at h
  · rename_i ys
    split at h
    · rename_i hl
      cases h
      cases ag with
      | false => exact absurd rfl ((show _ ∧ Rd P S w (.agg ys) (f 0) from hx).2.not_agg ys)
      | true =>
        obtain ⟨ys', he, hl2, hr⟩ := hx
        injection he with he
        subst he
        refine ⟨⟨_, rfl, by simp; omega, fun i hi => ?_⟩, by omega⟩
        simp only [List.length_append, List.length_take, List.length_drop] at hi
        by_cases h1 : i < j
        · rw [hg2 i (by omega) (by omega)]
          have := hr i (by omega)
          rw [List.getElem_append_left (by simp; omega), List.getElem_append_left (by simp; omega)]
          simpa using this
        · by_cases h2 : i < j + n
          · have := hzs (i - j) (by omega)
            rw [show j + (i - j) = i by omega] at this
            rw [List.getElem_append_left (by simp; omega), List.getElem_append_right (by simp; omega)]
            simpa [Nat.min_eq_left (show j ≤ ys.length by omega)] using this
          · rw [hg2 i (by omega) (by omega)]
            have := hr i (by omega)
            rw [List.getElem_append_right (by simp; omega)]
            simp only [List.length_append, List.length_take, List.getElem_drop]
            have e : j + n + (i - (min j ys.length + zs.length)) = i := by rw [Nat.min_eq_left (by omega)]; omega
            simpa [e] using this
    · cases h
  · rename_i x' z hna
    split at h
    · rename_i hj
      obtain ⟨rfl, rfl⟩ := hj
      cases h
      cases ag with
      | true =>
        obtain ⟨ys, he, _⟩ := hx
        exact (hna ys he).elim
      | false =>
        have := hz rfl
        subst this
        have := hzs 0 (by simp)
        exact ⟨⟨by simpa using this.1, by simpa using this.2⟩, by omega⟩
    · cases h
  · cases h

theorem flat_cells {h : Sh} {b : Bool} {as : List At} {xs : List V} {c : Value} (hf : h.flat = some (b, as)) (hm : as.all memAt = true) (H : RSl P L w h xs c) : ∃ cs : List Value, RAs P L w as xs cs ∧ (c = .agg cs.toArray ∨ cs = [c]) := by
  cases h with
  | one a1 =>
    cases hf
    have hra : RAs P L w [a1] xs [c] := by cases a1 <;> first | exact H | (simp [memAt] at hm; done)
    exact ⟨[c], hra, .inr rfl⟩
  | agg as' =>
    cases hf
    obtain ⟨cs, rfl, hr⟩ := H
    exact ⟨cs.toList, hr, .inl (by simp)⟩
  | ogg ps => cases hf
  | tup ps => cases hf
theorem pieces_of {ps : List Pc} {zs : List V} (h : pks (ps.map fun p => VArg.get ν p.1) (ps.zipIdx.map fun p => (p.2, p.1.2)) = some zs) : Pieces ν ps zs := by
  obtain ⟨hi, H⟩ := numb_args (ν := ν) [ps] [] 0 (by simp)
  have := H zs (by simpa [numb] using h)
  exact ⟨by simpa using this.1, fun j hj hj' => by simpa [pcGet] using this.2 j hj hj'⟩
theorem Frzd.cells {q : Pcs} {toks : List Nat} {cs : List Value} {zs : List V} {c : Value} (f : Frzd P ν L w q toks cs) (hz : Pieces ν q.ps zs) (hc : c = .agg cs.toArray ∨ cs = [c]) : c.cells.toList = cs ∧ zs.length = cs.length ∧ (∀ v ∈ cs, v.oneCell' = true) ∧
    ∀ i (h : i < zs.length) (h' : i < cs.length), Rd P (fun b => L.F b ∨ L.blks toks b) w zs[i] cs[i] := by
  have hlen := f.len
  have hz1 := hz.1
  have key : ∀ i (h : i < q.ps.length), _ := fun i h => f.rd i h (by omega) (zs[i]'(by omega)) (hz.2 i h (by omega)).1 (hz.2 i h (by omega)).2
  refine ⟨?_, by omega, fun v hv => ?_, fun i h h' => (key i (by omega)).1⟩
  · rcases hc with rfl | rfl
    · simp [Value.cells]
    · have := (key 0 (by simp at hlen; omega)).2.1
      simp only [List.getElem_cons_zero] at this
      rw [this]
  · obtain ⟨i, hi, rfl⟩ := List.getElem_of_mem hv
    exact (key i (by omega)).2.2
theorem copStore_ok2 (R : Rel P w0 M N α ν L a w) {x : Operand} {s sy : Seg} {v : Value} {t : TypeId} {n k j i : Nat} {b0 : Bool} {as : List At} {q : Pcs} (hrun : ∀ b p, a.eval x = .pointer (some ⟨b, p, none⟩) → (execOp a.eval o).run P w = ((storeVar t ⟨b, p, none⟩ v).run P w).andThen fun _ w => .ok .skip w) (hod : o.dst = none)
    (hs : s.sh = .one (.elt k j)) (hg : s.arg = .c i) (H : RSl P L w s.sh (s.arg.get ν) (a.eval x)) (Hy : RSl P L w sy.sh (sy.arg.get ν) v) (hsz : szOf P t = some n) (hf : sy.sh.flat = some (b0, as)) (hn : as.length = n) (hm : as.all memAt = true)
    (hq : pcsL (frz1 sy.arg) 0 as = some q) (hnk : q.kill.contains (tkK k) = false)
    (hv : runIs Φ [{ f := .sto j n (q.ps.zipIdx.map fun p => (p.2, p.1.2)), rd := .c i :: .c (tC k) :: q.ps.map (·.1), chk := q.chk, wr := [tC k] }] ν = some ν') :
    OpG P o a w (Goal P w0 M N ((α.sk [k] q.kill)) ν') := by
  obtain ⟨hk, _, z, hz, rfl⟩ := VI.inv1 (run_ins1 hv)
  rw [hs, hg] at H
  obtain ⟨y, hy, hr⟩ := RAs.single H
  rw [get_c] at hy
  simp only [List.map_cons, get_c, hy] at hz
  rcases hr with rfl | ⟨r, m, b, p, nn, cap, sz, hrow, rfl, hval, hsze, hlt, hc⟩
  · cases hz
  obtain ⟨xs, hxs, Hr⟩ := R.rows k r hrow
  rw [hxs] at hz
  rcases Hr with ⟨h3, _⟩ | ⟨b', p', cap', sz', ag, C, fz, HR⟩
  · rw [h3] at hval; cases hval
  rw [HR.hv] at hval
  cases hval
  have hse : sz' = sz := by have := HR.rd.hz; rw [hsze] at this; exact (Option.some.inj this).symm
  subst hse
  rw [VF.sem] at hz
  rw [if_pos (by omega)] at hz
  simp only [Option.bind_eq_some_iff, Option.map_eq_some_iff, Int.toNat_natCast] at hz
  obtain ⟨el, hel, zs, hzs, y, hput, hz⟩ := hz
  cases hz
  rw [List.map_map] at hzs
  have hpc : Pieces ν q.ps zs := pieces_of hzs
  obtain ⟨cs, hra, hcs⟩ := flat_cells hf hm Hy
  obtain ⟨toks, f⟩ := frzL_ok R as 0 q cs hq hra.1 hra.at hk
  obtain ⟨hcells, hzl, hone, hrd⟩ := f.cells hpc hcs
  have hcl : cs.length = n := by have := hra.1; omega
  have hlt2 : m < xs.length := hlt
  have hel2 : xs[m] = el := by simpa [List.getElem?_eq_getElem hlt2] using hel
  have hntok : ∀ t ∈ toks, t ∉ [k] := by
    intro t ht e
    have : t = k := by simpa using e
    subst this
    have : tkK t ∈ q.kill := by rw [f.kill]; exact List.mem_map.2 ⟨t, ht, rfl⟩
    simp [this] at hnk
  -- the cells
  have hfit0 : m * sz' + sz' ≤ xs.length * sz' := by
    have := Nat.mul_le_mul_right sz' (show m + 1 ≤ xs.length from hlt2)
    rw [Nat.add_mul] at this; omega
  have hcap : xs.length * sz' ≤ cap * sz' := Nat.mul_le_mul_right _ HR.hc
  have hHs := HR.hs
  have hE0 := HR.rd.hx m hlt2
  rw [hel2] at hE0
  let F' : Nat → Prop := fun b => L.F b ∨ L.blks toks b
  have hE1 : RdE P F' w ag sz' el (fun jj => C.getD (p + (m * sz' + jj)) undef) := hE0.mono (fun b h => .inl h) (fun _ _ => rfl)
  have hjn : j + n ≤ sz' := by
    cases ag with
    | true =>
      obtain ⟨ys, he, hl2, _⟩ := hE0
      rw [he] at hput
      simp only [vput] at hput
      split at hput
      · rename_i h; omega
      · cases hput
    | false =>
      have := HR.rd.ha rfl
      unfold vput at hput
      split at hput
      · rename_i ys; exact absurd rfl ((show _ ∧ Rd P L.F w (.agg ys) _ from hE0).2.not_agg ys)
      · split at hput
        · rename_i h; omega
        · cases hput
      · cases hput
  have hfit : p + m * sz' + j + n ≤ C.size := by omega
  have hst := run_storeVar_at (P := P) (w := w) (v := v) (b := b) (q := p + m * sz' + j) hsz (by have := congrArg List.length hcells; simp at this; omega) HR.hh HR.hfz hfit (by rw [hcells]; exact hone)
  rw [hcells] at hst
  refine OpG.skip (by rw [hrun b _ hc, hst]; rfl) ?_
  rw [hod]
  have hkey : ∀ ii, ((C.toList.take (p + m * sz' + j) ++ cs ++ C.toList.drop (p + m * sz' + j + n)).toArray).getD ii undef = if p + m * sz' + j ≤ ii ∧ ii < p + m * sz' + j + n then cs.getD (ii - (p + m * sz' + j)) undef else C.getD ii undef := fun ii => getD_setRow hcl hfit
  obtain ⟨hE2, _⟩ := vput_el (S := F') (g := fun jj => ((C.toList.take (p + m * sz' + j) ++ cs ++ C.toList.drop (p + m * sz' + j + n)).toArray).getD (p + (m * sz' + jj)) undef) hput hE1 HR.rd.ha (by omega) (fun ii h1 h2 => by
    show _ = _
    rw [hkey, if_neg (by omega)]) (fun ii hii => by
    have := hrd ii hii (by omega)
    refine ⟨(hpc.2 ii (by have := hpc.1; omega) hii).2, ?_⟩
    show Rd P F' w zs[ii] _
    rw [hkey, if_pos (by omega), show p + (m * sz' + (j + ii)) - (p + m * sz' + j) = ii by omega]
    simpa [List.getD_eq_getElem?_getD, List.getElem?_eq_getElem (show ii < cs.length by omega)] using this)
  have hW : WStep w (w.setRow b (C.toList.take (p + m * sz' + j) ++ cs ++ C.toList.drop (p + m * sz' + j + n)).toArray) (L.blks [k]) := WStep.setRow w b _ _ ⟨k, by simp, r, hrow, by rw [Row.blk, HR.hv]; rfl⟩
  have hFb : ∀ bb, F' bb → bb ≠ b := by
    rintro bb (h | ⟨t, ht, r2, h1, h2⟩) e
    · subst e
      exact (R.rowmine k r bb hrow (by rw [Row.blk, HR.hv]; rfl)).2.2 (R.fs bb h)
    · subst e
      exact hntok t ht (by rw [R.rr t k r2 r bb h1 hrow h2 (by rw [Row.blk, HR.hv]; rfl)]; simp)
  have hheap : ∀ bb, F' bb → (w.setRow b (C.toList.take (p + m * sz' + j) ++ cs ++ C.toList.drop (p + m * sz' + j + n)).toArray).heap[bb]? = w.heap[bb]? := fun bb h => setRow_other w b bb _ (hFb bb h)
  have hrow' : RowOK P (L.withRow k r [k] toks).F (w.setRow b (C.toList.take (p + m * sz' + j) ++ cs ++ C.toList.drop (p + m * sz' + j + n)).toArray) r [.list r.e (xs.set m y)] := by
    refine ⟨_, rfl, .inr ⟨b, p, cap, sz', ag, _, fz, by simpa using HR.hv, setRow_heap w b C _ r.e fz HR.hh, ?_, by simpa using HR.hc, HR.hm, ?_, ?_⟩⟩
    · rcases HR.hfz with h | h
      · exact .inl h
      · right; simp; omega
    · simp; omega
    · refine ⟨HR.rd.hk, HR.rd.hz, HR.rd.hp, HR.rd.ha, fun ii hii => ?_⟩
      simp only [List.length_set] at hii
      by_cases hm2 : ii = m
      · subst hm2
        simp only [List.getElem_set_self]
        exact hE2.mono (fun _ h => h) hheap
      · rw [List.getElem_set_ne (fun e => hm2 e.symm)]
        have h1 := (HR.rd.hx ii hii).mono (S' := F') (fun b h => .inl h) (w' := w) (fun _ _ => rfl)
        have h2 : RdE P F' w ag sz' xs[ii] (fun jj => ((C.toList.take (p + m * sz' + j) ++ cs ++ C.toList.drop (p + m * sz' + j + n)).toArray).getD (p + (ii * sz' + jj)) undef) := by
          have hcong : ∀ jj, jj < sz' → ((C.toList.take (p + m * sz' + j) ++ cs ++ C.toList.drop (p + m * sz' + j + n)).toArray).getD (p + (ii * sz' + jj)) undef = C.getD (p + (ii * sz' + jj)) undef := by
            intro jj hjj
            rw [hkey, if_neg ?_]
            rcases Nat.lt_or_gt_of_ne hm2 with h | h
            · have := Nat.mul_le_mul_right sz' (show ii + 1 ≤ m from h)
              rw [Nat.add_mul] at this; omega
            · have := Nat.mul_le_mul_right sz' (show m + 1 ≤ ii from h)
              rw [Nat.add_mul] at this; omega
          cases ag with
          | false =>
            have := HR.rd.ha rfl
            have h0 := hcong 0 (by omega)
            refine ⟨h1.1, ?_⟩
            show Rd P F' w xs[ii] (((C.toList.take (p + m * sz' + j) ++ cs ++ C.toList.drop (p + m * sz' + j + n)).toArray).getD (p + (ii * sz' + 0)) undef)
            rw [h0]
            exact h1.2
          | true =>
            obtain ⟨ys, he, hl2, hr⟩ := h1
            refine ⟨ys, he, hl2, fun jj hjj => ?_⟩
            have h0 := hcong jj (by omega)
            refine ⟨(hr jj hjj).1, ?_⟩
            show Rd P F' w ys[jj] (((C.toList.take (p + m * sz' + j) ++ cs ++ C.toList.drop (p + m * sz' + j + n)).toArray).getD (p + (ii * sz' + jj)) undef)
            rw [h0]
            exact (hr jj hjj).2
        exact h2.mono (fun _ h => h) hheap
  have R2 := R.rowStep k r [.list r.e (xs.set m y)] [k] toks [k] q.kill (by simp) hW (fun t ht => by
    rcases ht with ht | ht
    · have : t = k := by simpa using ht
      subst this
      exact .inr ⟨rfl, by simp, hrow⟩
    · exact .inl (by rw [f.kill]; exact List.mem_map.2 ⟨t, ht, rfl⟩)) hntok hrow' (fun bb hbb => ⟨by
      have := (R.rowmine k r bb hrow hbb).2.1
      simpa using this, .inr ⟨k, by simp, r, hrow, hbb⟩⟩)
  exact ⟨_, R2⟩

theorem copStore_ok (R : Rel P w0 M N α ν L a w) {t : TypeId} {x y : Operand} (ho : o.op = .store t x y) (hod : o.dst = none) (h : RM.out α (copStore P t x y) E) (hv : runIs Φ E.vis ν = some ν') :
    OpG P o a w (Goal P w0 M N (E.ap α none) ν') := by
  simp only [copStore, out_bind, out_opt, out_need] at h
  obtain ⟨s, h1, sy, h2, n, hsz, ⟨b0, as⟩, hf, _, hn, _, hm, h⟩ := h
  have H := opd_ok R h1
  have Hy := opd_ok R h2
  have hn' : as.length = n := by simpa using hn
  have hrun : ∀ b p, a.eval x = .pointer (some ⟨b, p, none⟩) → (execOp a.eval o).run P w = ((storeVar t ⟨b, p, none⟩ (a.eval y)).run P w).andThen fun _ w => .ok .skip w := by
    intro b p hc
    simp [execOp, ho, hc, Instr.storeAt, Instr.sureAddr]
  split at h
  · rename_i u off i hs hg
    simp only [out_bx, out_bind, out_opt, out_need, out_ok, Bool.and_eq_true, decide_eq_true_eq, Bool.not_eq_true'] at h
    obtain ⟨bx, hbx, _, ⟨hle, hro⟩, _, ⟨hc1, hc2⟩, rfl⟩ := h
    have := copStore_ok1 R (fun b => hrun b off) hod hs hg H Hy hsz hf hn' hm hbx hle hro hc1 hc2 hv
    simpa only [Eff.ap, Al.setBs, sk_setBs] using this
  · rename_i k j i hs hg
    simp only [out_bind, out_opt, out_need, out_ok, Bool.not_eq_true'] at h
    obtain ⟨q, hq, _, hnk, rfl⟩ := h
    have := copStore_ok2 R hrun hod hs hg H Hy hsz hf hn' hm hq hnk hv
    simpa only [Eff.ap, Al.setBs, ap_sk] using this
  · rw [out_no] at h; exact h.elim
end
end Go.Proofs.YtlhcgiegganbpaaDoorVs
set_option linter.unusedVariables false
set_option linter.unusedSimpArgs false
namespace Go.Proofs.YtlhcgiegganbpaaDoorVs
section
variable {P : Program} {w0 : World} {M : Nat → Prop} {N : Fr} {α : Al} {ν ν' : Env} {L : Lay} {a : Act} {w w' : World} {Φ : Funs} {o : Oper} {d : Nat} {E : Eff}

/-- a cut of a row that is read -/
theorem Rd.sub {S : Nat → Prop} {e : TypeId} {xs : List V} {c : Value} {sz : Nat} (h : Rd P S w (.list e xs) c) (hsz : szOf P e = some sz) (l m : Nat) (hlm : l ≤ m) (hm : m ≤ xs.length) :
    ∃ ad cap, c = .slice ad xs.length cap ∧ m ≤ cap ∧ Rd P S w (.list e ((xs.take m).drop l)) (sliced ad l m cap sz) := by
  rcases h.inv e xs rfl with ⟨rfl, ad, cap, rfl⟩ | ⟨b, q, cap, sz', ag, f, rfl, hb, hc, hrow, hf⟩
  · have : m = 0 := by simpa using hm
    subst this
    have : l = 0 := by omega
    subst this
    exact ⟨ad, cap, rfl, by omega, by simpa [sliced] using Rd.nil e _ _⟩
  · have hs' : sz' = sz := by have := hrow.hz; rw [hsz] at this; exact (Option.some.inj this).symm
    subst hs'
    refine ⟨some ⟨b, q, none⟩, cap, rfl, by omega, ?_⟩
    have hlen : ((xs.take m).drop l).length = m - l := by simp; omega
    by_cases he : l = m
    · subst he
      have : (xs.take l).drop l = [] := List.eq_nil_of_length_eq_zero (by rw [hlen]; omega)
      rw [this]
      simpa [sliced] using Rd.nil e _ _
    · have hne : ¬ cap = l := by omega
      simp only [sliced, hne, if_false, Option.map_some, add_plain]
      rw [← hlen]
      refine Rd.of_row (f := fun i => f (l * sz' + i)) ⟨hrow.hk, hrow.hz, hrow.hp, hrow.ha, fun i hi => ?_⟩ b (q + l * sz') (cap - l) hb (by rw [hlen]; omega) (fun i hi => ?_)
      · have h1 : l + i < xs.length := by rw [hlen] at hi; omega
        have := hrow.hx (l + i) h1
        simp only [List.getElem_drop, List.getElem_take]
        have e : ∀ j, (l + i) * sz' + j = l * sz' + (i * sz' + j) := fun j => by rw [Nat.add_mul, Nat.add_assoc]
        simpa only [e] using this
      · rw [hlen] at hi
        have h1 : l * sz' + i < xs.length * sz' := by
          have : m * sz' ≤ xs.length * sz' := Nat.mul_le_mul_right _ hm
          have h2 : (m - l) * sz' + l * sz' = m * sz' := by rw [← Nat.add_mul, Nat.sub_add_cancel hlm]
          omega
        have := hf (l * sz' + i) h1
        rw [← this, Nat.add_assoc]
/-- .. of one that is the call's own -/
theorem RowOK.sub {F : Nat → Prop} {r : Row} {xs : List V} {sz : Nat} (h : RowOK P F w r [.list r.e xs]) (hsz : szOf P r.e = some sz) (l m : Nat) (hlm : l ≤ m) (hm : m ≤ xs.length) :
    ∃ ad cap, r.val = .slice ad xs.length cap ∧ m ≤ cap ∧ RowOK P F w ⟨sliced ad l m cap sz, r.e⟩ [.list r.e ((xs.take m).drop l)] ∧ (∀ b, (sliced ad l m cap sz).ownBlock = some b → r.blk = some b) := by
  obtain ⟨xs', he, h⟩ := h
  simp only [List.cons.injEq, V.list.injEq, true_and, and_true] at he
  subst he
  rcases h with ⟨hv, rfl⟩ | ⟨b, q, cap, sz', ag, C, fz, H⟩
  · have : m = 0 := by simpa using hm
    subst this
    have : l = 0 := by omega
    subst this
    exact ⟨none, 0, hv, by omega, ⟨_, rfl, .inl ⟨by simp [sliced], by simp⟩⟩, fun b hb => by simp [sliced, Value.ownBlock] at hb⟩
  · have hs' : sz' = sz := by have := H.rd.hz; rw [hsz] at this; exact (Option.some.inj this).symm
    subst hs'
    have hcc := H.hc
    refine ⟨some ⟨b, q, none⟩, cap, H.hv, by omega, ?_, fun b' hb' => ?_⟩
    · have hlen : ((xs.take m).drop l).length = m - l := by simp; omega
      refine ⟨_, rfl, .inr ?_⟩
      by_cases hcl : cap = l
      · have hlm2 : m - l = 0 := by omega
        refine ⟨b, q, 0, sz', ag, C, fz, ?_, H.hh, H.hfz, by rw [hlen]; omega, by have := H.hm; omega, by have := H.hs; omega, H.rd.hk, H.rd.hz, H.rd.hp, H.rd.ha, fun i hi => by rw [hlen] at hi; omega⟩
        simp [sliced, hcl, hlen, hlm2]
      · refine ⟨b, q + l * sz', cap - l, sz', ag, C, fz, ?_, H.hh, H.hfz, by rw [hlen]; omega, by have := H.hm; omega, ?_, H.rd.hk, H.rd.hz, H.rd.hp, H.rd.ha, fun i hi => ?_⟩
        · simp [sliced, hcl, add_plain, hlen]
        · have h1 := H.hs
          have h2 : (cap - l) * sz' + l * sz' = cap * sz' := by rw [← Nat.add_mul, Nat.sub_add_cancel (by omega)]
          omega
        · have h1 : l + i < xs.length := by rw [hlen] at hi; omega
          have := H.rd.hx (l + i) h1
          simp only [List.getElem_drop, List.getElem_take]
          have e : ∀ j, q + ((l + i) * sz' + j) = q + l * sz' + (i * sz' + j) := fun j => by rw [Nat.add_mul]; omega
          simpa only [e] using this
    · rw [Row.blk, H.hv]
      simp only [sliced] at hb'
      split at hb' <;> simpa [Value.ownBlock, add_plain] using hb'
theorem optOpd_ok (R : Rel P w0 M N α ν L a w) {x : Option Operand} {l : List VArg} (h : RM.out α (optOpd P x) l) : (x = none ∧ l = []) ∨ ∃ y g z, x = some y ∧ l = [g] ∧ g.get ν = [z] ∧ (z = .undef ∨ ∃ S, Rd P S w z (a.eval y)) := by
  cases x with
  | none => simp only [optOpd, out_ok] at h; exact .inl ⟨rfl, h⟩
  | some y =>
    simp only [optOpd, out_bind, out_ok] at h
    obtain ⟨s, h1, k, hk, rfl⟩ := h
    obtain ⟨z, hz, hr⟩ := opd1 R h1 hk
    exact .inr ⟨y, s.arg, z, rfl, rfl, hz, hr.imp id (fun h => ⟨_, h⟩)⟩
/-- the bounds of a cut -/
theorem slc_bounds (R : Rel P w0 M N α ν L a w) {t e : TypeId} {sz : Nat} {lo hi : Option Operand} {l1 l2 : List VArg} {xs : List V} {e' : TypeId} {z : List V} (ht : P.underlying t = some (.slice e)) (hsz : szOf P e = some sz) (h1 : RM.out α (optOpd P lo) l1) (h2 : RM.out α (optOpd P hi) l2)
    (hz : (VF.slc e lo.isSome hi.isSome).sem Φ ([.list e' xs] :: (l1 ++ l2).map (VArg.get ν)) = some [z]) :
    e' = e ∧ ∃ l m : Nat, l ≤ m ∧ m ≤ xs.length ∧ z = [.list e ((xs.take m).drop l)] ∧ ∀ ad cap, m ≤ cap → xs.length ≤ cap → (Instr.slice t (.slice ad xs.length cap) (lo.map a.eval) (hi.map a.eval) none).run P w = .ok (sliced ad l m cap sz) w := by
  have ht' := elem_of ht
  have he := elem_eq ht
  rcases optOpd_ok R h1 with ⟨rfl, rfl⟩ | ⟨y1, g1, z1, rfl, rfl, hg1, hr1⟩ <;> rcases optOpd_ok R h2 with ⟨rfl, rfl⟩ | ⟨y2, g2, z2, rfl, rfl, hg2, hr2⟩
  · simp only [Option.isSome_none, List.append_nil, List.map_nil, VF.sem] at hz
    split at hz
    · rename_i hh; cases hz; subst hh
      exact ⟨rfl, 0, xs.length, by omega, Nat.le_refl _, by simp, fun ad cap _ hc => by simp [run_slice_all w t _ _ _ ht', he, run_sizeOf hsz]⟩
    · cases hz
  · simp only [Option.isSome_none, Option.isSome_some, List.nil_append, List.map_cons, List.map_nil, hg2] at hz
    cases z2 with
    | int k n =>
      rw [VF.sem] at hz
      split at hz
      · rename_i hh; cases hz
        obtain ⟨rfl, h0, hn⟩ := hh
        rcases hr2 with hr2 | ⟨S, hr2⟩
        · cases hr2
        refine ⟨rfl, 0, n.toNat, by omega, by omega, by simp, fun ad cap hc hc2 => ?_⟩
        simp [hr2.int_inv, run_slice_h w t ad xs.length cap ht' k n h0 (by omega), he, run_sizeOf hsz]
      · cases hz
    | _ => simp [VF.sem] at hz
  · simp only [Option.isSome_none, Option.isSome_some, List.append_nil, List.map_cons, List.map_nil, hg1] at hz
    cases z1 with
    | int k n =>
      rw [VF.sem] at hz
      split at hz
      · rename_i hh; cases hz
        obtain ⟨rfl, h0, hn⟩ := hh
        rcases hr1 with hr1 | ⟨S, hr1⟩
        · cases hr1
        refine ⟨rfl, n.toNat, xs.length, by omega, Nat.le_refl _, by simp, fun ad cap hc hc2 => ?_⟩
        simp [hr1.int_inv, run_slice_l w t ad xs.length cap ht' k n h0 (by omega), he, run_sizeOf hsz]
      · cases hz
    | _ => simp [VF.sem] at hz
  · simp only [Option.isSome_some, List.singleton_append, List.map_cons, List.map_nil, hg1, hg2] at hz
    cases z1 with
    | int k n => cases z2 with
      | int k2 n2 =>
        rw [VF.sem] at hz
        split at hz
        · rename_i hh; cases hz
          obtain ⟨rfl, h0, hn, hn2⟩ := hh
          rcases hr1 with hr1 | ⟨S, hr1⟩
          · cases hr1
          rcases hr2 with hr2 | ⟨S, hr2⟩
          · cases hr2
          refine ⟨rfl, n.toNat, n2.toNat, by omega, by omega, rfl, fun ad cap hc hc2 => ?_⟩
          simp [hr1.int_inv, hr2.int_inv, run_slice_lh w t ad xs.length cap ht' k k2 n n2 h0 hn (by omega), he, run_sizeOf hsz]
        · cases hz
      | _ => simp [VF.sem] at hz
    | _ => simp [VF.sem] at hz

theorem sls_bounds (R : Rel P w0 M N α ν L a w) {t : TypeId} {lo hi : Option Operand} {l1 l2 : List VArg} {s : ByteArray} {z : List V} (ht : P.underlying t = some .string) (h1 : RM.out α (optOpd P lo) l1) (h2 : RM.out α (optOpd P hi) l2)
    (hz : (VF.sls lo.isSome hi.isSome).sem Φ ([.str s] :: (l1 ++ l2).map (VArg.get ν)) = some [z]) :
    ∃ s', z = [.str s'] ∧ (Instr.slice t (.string s) (lo.map a.eval) (hi.map a.eval) none).run P w = .ok (.string s') w := by
  rcases optOpd_ok R h1 with ⟨rfl, rfl⟩ | ⟨y1, g1, z1, rfl, rfl, hg1, hr1⟩ <;> rcases optOpd_ok R h2 with ⟨rfl, rfl⟩ | ⟨y2, g2, z2, rfl, rfl, hg2, hr2⟩
  · simp only [Option.isSome_none, List.append_nil, List.map_nil, VF.sem] at hz
    cases hz
    exact ⟨_, rfl, by simp [run_slice_string_all w t s ht]⟩
  · simp only [Option.isSome_none, Option.isSome_some, List.nil_append, List.map_cons, List.map_nil, hg2] at hz
    cases z2 with
    | int k n =>
      rw [VF.sem] at hz
      split at hz
      · rename_i hh; cases hz
        rcases hr2 with hr2 | ⟨S, hr2⟩
        · cases hr2
        exact ⟨_, rfl, by simp [hr2.int_inv, run_slice_string_h w t s ht k n hh.1 (by omega)]⟩
      · cases hz
    | _ => simp [VF.sem] at hz
  · simp only [Option.isSome_none, Option.isSome_some, List.append_nil, List.map_cons, List.map_nil, hg1] at hz
    cases z1 with
    | int k n =>
      rw [VF.sem] at hz
      split at hz
      · rename_i hh; cases hz
        rcases hr1 with hr1 | ⟨S, hr1⟩
        · cases hr1
        exact ⟨_, rfl, by simp [hr1.int_inv, run_slice_string_l w t s ht k n hh.1 (by omega)]⟩
      · cases hz
    | _ => simp [VF.sem] at hz
  · simp only [Option.isSome_some, List.singleton_append, List.map_cons, List.map_nil, hg1, hg2] at hz
    cases z1 with
    | int k n => cases z2 with
      | int k2 n2 =>
        rw [VF.sem] at hz
        split at hz
        · rename_i hh; cases hz
          rcases hr1 with hr1 | ⟨S, hr1⟩
          · cases hr1
          rcases hr2 with hr2 | ⟨S, hr2⟩
          · cases hr2
          refine ⟨_, rfl, ?_⟩
          have h0 : 0 ≤ n2 := by omega
          have e2 : ((n2.toNat : Nat) : Int) = n2 := Int.toNat_of_nonneg h0
          simp [Instr.slice, run_underlying ht, Instr.sliceBounds, run_sliceBound, hr1.int_inv, hr2.int_inv, hh, h0, e2]
        · cases hz
      | _ => simp [VF.sem] at hz
    | _ => simp [VF.sem] at hz
theorem copSlice_ok (R : Rel P w0 M N α ν L a w) (hd : N.W d) {cut : Bool} {t : TypeId} {x : Operand} {lo hi mx : Option Operand} (ho : o.op = .slice t x lo hi mx) (hod : o.dst = some d) (h : RM.out α (copSlice P d cut t x lo hi mx) E) (hv : runIs Φ E.vis ν = some ν') :
    OpR P o a w (Goal P w0 M N (E.ap α (some d)) ν') := by
  simp only [copSlice, out_bind, out_need] at h
  obtain ⟨_, hmx, s, h1, l1, h2, l2, h3, h⟩ := h
  have hmx' : mx = none := by simpa using hmx
  subst hmx'
  have H := opd_ok R h1
  split at h
  · rename_i hu
    simp only [out_bind, out_ok] at h
    obtain ⟨k, hk, rfl⟩ := h
    obtain ⟨p, hp, hr⟩ := opd1 R h1 hk
    obtain ⟨_, _, z, hz, rfl⟩ := VI.inv1 (run_ins1 hv)
    simp only [List.map_cons, hp] at hz
    rcases hr with rfl | hr
    · cases hlo : lo.isSome <;> cases hhi : hi.isSome <;> simp [VF.sem, hlo, hhi] at hz
    cases p with
    | str s' =>
      obtain ⟨s2, rfl, hrun⟩ := sls_bounds R hu h2 h3 hz
      refine OpR.value (v := .string s2) (by simp [execOp, ho, hr.str_inv, run_sliceAt_string w t _ _ _ _ hu, hrun]) ?_
      rw [hod]
      exact Goal.scalar (k := .fz) R hd rfl rfl rfl rfl (.str _)
    | _ => cases hlo : lo.isSome <;> cases hhi : hi.isSome <;> simp [VF.sem, hlo, hhi] at hz
  · rename_i e hu
    simp only [out_bind, out_need, out_opt] at h
    obtain ⟨_, hsz0, ⟨g, k, chk⟩, hc, h⟩ := h
    obtain ⟨sz, hsz⟩ : ∃ n, szOf P e = some n := by
      cases hq : szOf P e with
      | none => rw [hq] at hsz0; simp at hsz0
      | some n => exact ⟨n, rfl⟩
    have hu' := elem_of hu
    have hview : ∀ {ν' : Env}, (VI.mk (.slc e lo.isSome hi.isSome) (g :: (l1 ++ l2)) chk [] [] [sC d]).run Φ ν = some ν' → ∃ z v, ν' = ν.upd (sC d) [z] ∧ (execOp a.eval o).run P w = .ok (.value v) w ∧ Rd P (L.src k) w z v := by
      intro ν' hv
      obtain ⟨hk, _, z, hz, rfl⟩ := VI.inv1 hv
      obtain ⟨p, hp, hr⟩ := cont_ok R H hc hk
      simp only [List.map_cons, hp] at hz
      rcases hr with rfl | hr
      · cases hlo : lo.isSome <;> cases hhi : hi.isSome <;> simp [VF.sem, hlo, hhi] at hz
      cases p with
      | list e' xs =>
        obtain ⟨rfl, l, m, hlm, hm, rfl, hrun⟩ := slc_bounds R hu hsz h2 h3 hz
        obtain ⟨ad, cap, hcv, hmc, hr2⟩ := hr.sub hsz l m hlm hm
        have hxc : xs.length ≤ cap := by
          rcases hr.inv _ _ rfl with ⟨rfl, _⟩ | ⟨b, q, cap', sz', ag, f, he, _, hc3, _⟩
          · simp
          · rw [hcv] at he; cases he; exact hc3
        exact ⟨_, _, rfl, by simp [execOp, ho, hcv, run_sliceAt_slice w t _ _ _ _ hu', hrun ad cap hmc hxc], hr2⟩
      | _ => cases hlo : lo.isSome <;> cases hhi : hi.isSome <;> simp [VF.sem, hlo, hhi] at hz
    split at h
    · rename_i t1 ht1
      simp only at ht1
      subst ht1
      by_cases hcut : (cut && isOwn s.sh) = true
      rotate_left
      · rw [if_neg hcut] at h
        rw [out_ok] at h; subst h
        obtain ⟨z, v, rfl, hrun, hr⟩ := hview (run_ins1 hv)
        refine OpR.value hrun ?_
        rw [hod]
        exact Goal.scalar R hd rfl rfl rfl rfl hr
      · rw [if_pos hcut] at h
        rw [out_ok] at h; subst h
        -- the row stays the call's own
        simp only [runIs, Option.bind_eq_some_iff, Option.some.injEq] at hv
        obtain ⟨ν1, hv1, ν2, hv2, rfl⟩ := hv
        obtain ⟨hk, _, z, hz, rfl⟩ := VI.inv1 hv1
        obtain ⟨_, _, u, hu1, rfl⟩ := viG1 hv2
        have hu2 := hu1.unit
        subst hu2
        obtain ⟨sh, arg⟩ := s
        cases sh with
        | one a1 => cases a1 with
          | own t2 => cases arg with
            | c i =>
              cases hc
              obtain ⟨x1, hx1, hr⟩ := RAs.single H
              have hun := unit_chk hk (List.mem_singleton.2 rfl) hx1 rfl
              subst hun
              rcases hr with hr | ⟨_, r, hrow, hcv⟩
              · cases hr
              obtain ⟨xs, hxs, _⟩ := R.rows t1 r hrow
              simp only [List.map_cons, get_c, hxs] at hz
              obtain ⟨he, l, m, hlm, hm, rfl, hrun⟩ := slc_bounds R hu hsz h2 h3 hz
              have hok := R.rows t1 r hrow
              rw [hxs] at hok
              obtain ⟨ad, cap, hv3, hmc, hok2, hblk⟩ := hok.sub (by rw [he]; exact hsz) l m hlm hm
              have hxc : xs.length ≤ cap := by
                obtain ⟨xs2, hx2, hq⟩ := hok
                simp only [List.cons.injEq, V.list.injEq, true_and, and_true] at hx2
                subst hx2
                rcases hq with ⟨_, rfl⟩ | ⟨b, q, cap', sz', ag, C, fz, HR⟩
                · simp
                · rw [HR.hv] at hv3; cases hv3; exact HR.hc
              refine OpR.value (v := sliced ad l m cap sz) (by simp [execOp, ho, hcv, hv3, run_sliceAt_slice w t _ _ _ _ hu', hrun ad cap hmc hxc]) ?_
              rw [hod]
              rw [he] at hok2
              have hks : ∀ t, t ∈ [tokS d 0, t1] ∨ t ∈ ([] : List Nat) → tkK t ∈ [tkK t1, tkK (tokS d 0)] ∨ (t = tokS d 0 ∧ tokS d 0 ∈ ([] : List Nat) ∧ L.row (tokS d 0) = some ⟨sliced ad l m cap sz, e⟩) := by
                intro t ht
                left
                simp only [List.mem_cons, List.not_mem_nil, or_false] at ht ⊢
                rcases ht with rfl | rfl
                · exact .inr rfl
                · exact .inl rfl
              have R1 := R.rowStep (tokS d 0) ⟨sliced ad l m cap sz, e⟩ [.list e ((xs.take m).drop l)] [tokS d 0, t1] [] [] [tkK t1, tkK (tokS d 0)] (by simp) (WStep.refl w _) hks (by simp)
                (hok2.ext (fun b h => .inl h) (fun _ _ => rfl) (fun _ _ => rfl)) (fun b hb => ⟨(R.rowmine t1 r b hrow (hblk b hb)).2.1, .inr ⟨t1, by simp, r, hrow, hblk b hb⟩⟩)
              simp only [Eff.ap, Al.setBs, sk_setBs]
              exact ⟨_, R1.put hd (RSl.one (RAs.one (.inr ⟨rfl, ⟨sliced ad l m cap sz, e⟩, by simp [Lay.withRow], rfl⟩)))⟩
            | lit vs => cases hc
          | v k' => simp [isOwn] at hcut
          | _ => cases hc
        | _ => cases hc
    · rename_i hk
      rw [out_ok] at h; subst h
      obtain ⟨z, v, rfl, hrun, hr⟩ := hview (run_ins1 hv)
      refine OpR.value hrun ?_
      rw [hod]
      exact Goal.scalar R hd rfl rfl rfl rfl hr
  · rw [out_no] at h; exact h.elim
end
end Go.Proofs.YtlhcgiegganbpaaDoorVs
set_option linter.unusedVariables false
set_option linter.unusedSimpArgs false
namespace Go.Proofs.YtlhcgiegganbpaaDoorVs
section
variable {P : Program} {w0 : World} {M : Nat → Prop} {N : Fr} {α : Al} {ν ν' : Env} {L : Lay} {a : Act} {w w' : World} {Φ : Funs} {o : Oper} {d : Nat} {E : Eff}

theorem WStep.some {w w' : World} {ex : Nat → Prop} (h : WStep w w' (fun _ => False)) : WStep w w' ex := h.mono (fun _ h => h.elim)
/-- a new row, under the name of slot d -/
theorem new_row (R : Rel P w0 M N α ν L a w) (hd : N.W d) {e : TypeId} {xs : List V} {v : Value} {toks : List Nat} {kill : List Nat} (hod : o.dst = some d) (hW : WStep w w' (fun _ => False)) (hrun : (execOp a.eval o).run P w = .ok (.value v) w')
    (hk : kill = toks.map tkK) (hnt : tokS d 0 ∉ toks) (hok : RowOK P (fun b => L.F b ∨ L.blks toks b) w' ⟨v, e⟩ [.list e xs]) (hb : ∀ b, v.ownBlock = some b → b < w'.heap.size ∧ w.heap.size ≤ b)
    (vis : List VI) (hE : E = { vis := vis, kill := tkK (tokS d 0) :: kill, dst := .one (.own (tokS d 0)) }) :
    OpG P o a w (Goal P w0 M N (E.ap α (some d)) ((ν.upd (tC (tokS d 0)) [.list e xs]).upd (sC d) [.unit])) := by
  subst hE; subst hk
  refine OpG.value hrun ?_
  rw [hod]
  have hks : ∀ t, t ∈ [tokS d 0] ∨ t ∈ toks → tkK t ∈ tkK (tokS d 0) :: toks.map tkK ∨ (t = tokS d 0 ∧ tokS d 0 ∈ ([] : List Nat) ∧ L.row (tokS d 0) = some ⟨v, e⟩) := by
    intro t ht
    left
    rcases ht with ht | ht
    · simp only [List.mem_singleton] at ht; subst ht; exact List.mem_cons_self
    · exact List.mem_cons_of_mem _ (List.mem_map.2 ⟨t, ht, rfl⟩)
  have R1 := R.rowStep (tokS d 0) ⟨v, e⟩ [.list e xs] [tokS d 0] toks [] (tkK (tokS d 0) :: toks.map tkK) (by simp) hW.some hks (fun t ht hm => by
    simp only [List.mem_singleton] at hm; subst hm; exact hnt ht) hok (fun b hb2 => ⟨(hb b hb2).1, .inl (hb b hb2).2⟩)
  simp only [Eff.ap, Al.setBs, sk_setBs]
  exact ⟨_, R1.put hd (RSl.one (RAs.one (.inr ⟨rfl, ⟨v, e⟩, by simp [Lay.withRow], rfl⟩)))⟩

/-! #### bytes of a string -/
theorem freeze_new (w : World) (C : Array Value) (e : TypeId) : WStep w ((w.drew.alloc (.cells C e)).freeze ⟨w.heap.size, C.size, none⟩ 1) (fun _ => False) ∧ w.heap.size < ((w.drew.alloc (.cells C e)).freeze ⟨w.heap.size, C.size, none⟩ 1).heap.size ∧
    ((w.drew.alloc (.cells C e)).freeze ⟨w.heap.size, C.size, none⟩ 1).heap[w.heap.size]? = some (.cells C e (C.size, C.size + 1)) := by
  have hW : WStep w (w.drew.alloc (.cells C e)) (fun _ => False) := (WStep.drew w _).trans (WStep.alloc w.drew _ _)
  have hn : (w.drew.alloc (.cells C e)).heap[w.heap.size]? = some (.cells C e) := heap_alloc_new w.drew _
  have hs : (w.drew.alloc (.cells C e)).heap.size = w.heap.size + 1 := by simp
  generalize w.drew.alloc (.cells C e) = W1 at *
  have hF : W1.freeze ⟨w.heap.size, C.size, none⟩ 1 = { W1 with heap := W1.heap.modify w.heap.size fun
      | .cells c elem (lo, hi) => .cells c elem (if lo == hi then (C.size, C.size + 1) else (min lo C.size, max hi (C.size + 1)))
      | o => o } := by
    simp only [World.freeze, Nat.one_ne_zero, if_false]
    congr 2
  rw [hF]
  refine ⟨⟨hW.os, hW.tape, hW.output, by simp [hs], fun b hb hn => ?_⟩, by simp [hs], ?_⟩
  · simp only [Array.getElem?_modify]
    rw [if_neg (by omega)]
    exact hW.block b hb hn
  · simp only [Array.getElem?_modify, if_true, hn, Option.map_some]
    simp
theorem run_bytesOf (e : TypeId) (s : ByteArray) (hs : s.size ≤ maxLen) : ∃ (w' : World) (C : Array Value) (cap : Nat), (Conv.stringToBytes e s).run P w = .ok (.slice (some ⟨w.heap.size, 0, none⟩) s.size cap) w' ∧ WStep w w' (fun _ => False) ∧ w.heap.size < w'.heap.size ∧
    w'.heap[w.heap.size]? = some (.cells C e (C.size, C.size + 1)) ∧ C.size = cap ∧ s.size ≤ cap ∧ cap ≤ maxLen ∧ ∀ i (h : i < s.size), C[i]? = some (.int .u8 s[i].toNat) := by
  have hge := grownCap_ge w s.size 0 e
  have hle := grownCap_le_maxLen w s.size 0 e hs
  obtain ⟨C, hC⟩ : ∃ C : Array Value, C = s.data.map (fun b : UInt8 => Value.int .u8 b.toNat) ++ Array.replicate (grownCap w s.size 0 e - s.size) (Value.int .u8 0) := ⟨_, rfl⟩
  have hsz : C.size = grownCap w s.size 0 e := by
    rw [hC]
    simp only [Array.size_append, Array.size_map, Array.size_replicate]
    have : s.data.size = s.size := rfl
    omega
  obtain ⟨h1, h2, h3⟩ := freeze_new w C e
  refine ⟨_, C, grownCap w s.size 0 e, ?_, h1, h2, h3, hsz, hge, hle, fun i hi => ?_⟩
  · have hn : (w.drew.alloc (.cells C e)).shape? w.heap.size = some (e, C.size) := by
      have : (w.drew.alloc (.cells C e)).heap[w.heap.size]? = some (.cells C e) := heap_alloc_new w.drew _
      unfold World.shape?
      rw [this]
    simp only [Conv.stringToBytes, Sem.run_bind, run_choose, Question.forced, Bool.false_eq_true, if_false, Result.andThen_ok]
    show ((newRow e (s.data.map (fun b : UInt8 => Value.int .u8 b.toNat) ++ Array.replicate (grownCap w s.size 0 e - s.size) (Value.int .u8 0))).run P w.drew).andThen _ = _
    rw [← hC]
    simp only [newRow, Sem.run_bind, run_newObj, Result.andThen_ok, Sem.run_pure, markStringish, run_shape]
    show ((match (w.drew.alloc (.cells C e)).shape? w.heap.size with
      | some (_, n) => freeze { block := w.heap.size, off := n } 1
      | x => pure ()).run P (w.drew.alloc (.cells C e))).andThen _ = _
    rw [hn]
    rfl
  · have h1 : i < s.data.size := hi
    rw [hC, Array.getElem?_append_left (by simpa using h1)]
    simp only [Array.getElem?_map, Array.getElem?_eq_getElem h1, Option.map_some]
    rfl
theorem u8_ag {e : TypeId} (h : P.underlying e = some (.int .u8)) : agT P e = some false := by simp [agT, h]
theorem byte_row (F : Nat → Prop) {e : TypeId} (he : P.underlying e = some (.int .u8)) (hz : szOf P e = some 1) (w : World) (xs : List V) (f : Nat → Value) (h : ∀ i (hi : i < xs.length), ∃ n, xs[i] = .int .u8 n ∧ f i = .int .u8 n) : RdRow P F w e 1 false xs f :=
  ⟨u8_ag he, hz, by omega, fun _ => rfl, fun i hi => by
    obtain ⟨n, h1, h2⟩ := h i hi
    refine ⟨by rw [h1]; simp, ?_⟩
    show Rd P F w xs[i] (f (i * 1 + 0))
    rw [Nat.mul_one, Nat.add_zero, h1, h2]
    exact .int _ _⟩
theorem copByt_ok (R : Rel P w0 M N α ν L a w) (hd : N.W d) {s t : TypeId} {x : Operand} (ho : o.op = .convert s t x) (hod : o.dst = some d) (h : RM.out α (copConv P d s t x) E) (hv : runIs Φ E.vis ν = some ν') (e : TypeId) (hs : P.underlying s = some .string) (ht : P.underlying t = some (.slice e)) :
    OpG P o a w (Goal P w0 M N (E.ap α (some d)) ν') := by
  simp only [copConv, out_bind, hs, ht, out_need, out_ok] at h
  obtain ⟨sx, h1, k, hk, _, he, _, hz1, rfl⟩ := h
  have he' : P.underlying e = some (.int .u8) := by split at he <;> simp_all
  have hz1' : szOf P e = some 1 := by simpa using hz1
  obtain ⟨p, hp, hr⟩ := opd1 R h1 hk
  simp only [runIs, Option.bind_eq_some_iff, Option.some.injEq] at hv
  obtain ⟨ν1, hv1, ν2, hv2, rfl⟩ := hv
  obtain ⟨_, _, z, hz, rfl⟩ := VI.inv1 hv1
  obtain ⟨_, _, u, hu1, rfl⟩ := viG1 hv2
  have hu2 := hu1.unit
  subst hu2
  simp only [List.map_cons, List.map_nil, hp] at hz
  rcases hr with rfl | hr
  · cases hz
  cases p with
  | str s' =>
    rw [VF.sem] at hz
    split at hz
    · rename_i hsz
      cases hz
      have hc := hr.str_inv
      obtain ⟨w', C, cap, hrun, hW, hlt, hh, hC, hle, hm, hel⟩ := run_bytesOf (P := P) (w := w) e s' (by simp only [maxLen]; omega)
      have hlen : (s'.data.toList.map fun b => V.int .u8 b.toNat).length = s'.size := by
        simp only [List.length_map, Array.length_toList]; rfl
      refine new_row R hd (toks := []) (kill := []) (v := .slice (some ⟨w.heap.size, 0, none⟩) s'.size cap) hod hW ?_ rfl (by simp) ⟨_, rfl, .inr ⟨w.heap.size, 0, cap, 1, false, C, _, ?_, hh, .inr (Nat.le_refl _), by rw [hlen]; exact hle, hm, by omega, byte_row _ he' hz1' _ _ _ (fun i hi => ?_)⟩⟩ (fun b hb => ?_) _ rfl
      · have hrun2 : (convert s t (.string s')).run P w = .ok (.slice (some ⟨w.heap.size, 0, none⟩) s'.size cap) w' := by
          simp only [convert, Sem.run_bind, run_underlying hs, run_underlying ht, Result.andThen_ok, run_underlying he']
          exact hrun
        simp [execOp, ho, hc, hrun2]
      · rw [hlen]
      · rw [hlen] at hi
        refine ⟨s'[i].toNat, ?_, ?_⟩
        · simp only [List.getElem_map, Array.getElem_toList]; rfl
        · have := hel i hi
          simp [Array.getD_eq_getD_getElem?, this]
      · have : w.heap.size = b := by simpa [Value.ownBlock] using hb
        omega
    · cases hz
  | _ => cases hz

/-! #### literals -/
theorem litEls_ok (R : Rel P w0 M N α ν L a w) {e : TypeId} {n : Nat} : ∀ (parts : List (Nat × Operand)) (j : Nat) (qs : List Pcs), RM.out α (litEls P e n j parts) qs → (qs.map (·.chk)).flatten.all (unitAt ν) = true →
    (parts.map fun p => (p.1, a.eval p.2)) = ((parts.map fun p => a.eval p.2).zipIdx j).map (fun x => (x.2, x.1)) ∧ qs.length = parts.length ∧
    ∀ i (h : i < qs.length) (h' : i < parts.length), ∃ toks cs, Frzd P ν L w qs[i] toks cs ∧ cs.length = n ∧ (a.eval parts[i].2 = .agg cs.toArray ∨ cs = [a.eval parts[i].2])
  | [], j, qs, h, hk => by
    rw [litEls, out_ok] at h; subst h
    exact ⟨rfl, rfl, fun i h => by simp at h⟩
  | (i0, x) :: r, j, qs, h, hk => by
    simp only [litEls, out_bind, out_need, out_opt, out_ok] at h
    obtain ⟨_, hij, s, hs, ⟨b, as⟩, hf, _, hn, q, hq, l, hl, rfl⟩ := h
    have hij' : i0 = j := by simpa using hij
    subst hij'
    simp only [List.map_cons, List.flatten_cons, List.all_append, Bool.and_eq_true] at hk
    obtain ⟨h1, h2, h3⟩ := litEls_ok R r (i0 + 1) l hl hk.2
    refine ⟨by simp [h1], by simp [h2], fun i hi hi' => ?_⟩
    cases i with
    | zero =>
      have H := opd_ok R hs
      have hm : as.all memAt = true := by
        have go : ∀ (as : List At) (j : Nat) (q : Pcs), pcsL (frz1 s.arg) j as = some q → as.all memAt = true := by
          intro as
          induction as with
          | nil => intro j q _; rfl
          | cons a1 as ih =>
            intro j q h
            simp only [pcsL, Option.bind_eq_some_iff, Option.map_eq_some_iff] at h
            obtain ⟨q1, h1, q2, h2, _⟩ := h
            simp only [List.all_cons, Bool.and_eq_true]
            refine ⟨?_, ih _ _ h2⟩
            cases a1 <;> first | rfl | (cases h1; done)
        exact go as 0 q hq
      obtain ⟨cs, hra, hcs⟩ := flat_cells hf hm H
      obtain ⟨toks, f⟩ := frzL_ok R as 0 q cs hq hra.1 hra.at hk.1
      exact ⟨toks, cs, f, by have := hra.1; simp at hn; omega, hcs⟩
    | succ i => simpa using h3 i (by simpa using hi) (by simpa using hi')
theorem map_mapM {β γ δ : Type} (f : β → γ) (g : γ → Option δ) : ∀ (l : List β), (l.map f).mapM g = l.mapM (fun x => g (f x))
  | [] => rfl
  | x :: r => by simp only [List.map_cons, List.mapM_cons, map_mapM f g r]
theorem mapM_get {β γ : Type} {g : β → Option γ} : ∀ {l : List β} {r : List γ}, l.mapM g = some r → r.length = l.length ∧ ∀ i (h : i < l.length) (h' : i < r.length), g l[i] = some r[i]
  | [], r, h => by simp only [List.mapM_nil] at h; cases h; exact ⟨rfl, fun i h => by simp at h⟩
  | x :: l, r, h => by
    simp only [List.mapM_cons, Option.bind_eq_bind, Option.bind_eq_some_iff, Option.pure_def, Option.some.injEq] at h
    obtain ⟨y, hy, r', hr, rfl⟩ := h
    obtain ⟨h1, h2⟩ := mapM_get hr
    refine ⟨by simp [h1], fun i hi hi' => ?_⟩
    cases i with
    | zero => simpa using hy
    | succ i => simpa using h2 i (by simpa using hi) (by simpa using hi')
/-- the elements of a literal -/
theorem mk_sem {e : TypeId} {ag : Bool} {qs : List Pcs} {x : List V} (h : (VF.mk e (numbE ag qs)).sem Φ (((qs.map (·.ps)).flatten.map (·.1)).map (VArg.get ν)) = some [x]) :
    ∃ xs, x = [.list e xs] ∧ xs.length = qs.length ∧ ∀ i (h : i < qs.length) (h' : i < xs.length), ∃ zs, Pieces ν qs[i].ps zs ∧ (if ag then xs[i] = .agg zs else zs = [xs[i]]) := by
  rw [VF.sem] at h
  simp only [Option.map_eq_some_iff] at h
  obtain ⟨xs, h1, h2⟩ := h
  cases h2
  simp only [numbE, map_mapM] at h1
  obtain ⟨h3, h4⟩ := mapM_get h1
  have hnl : (numb 0 (qs.map (·.ps))).length = qs.length := by
    have go : ∀ (l : List (List Pc)) (k : Nat), (numb k l).length = l.length := by
      intro l
      induction l with
      | nil => intro k; rfl
      | cons p r ih => intro k; simp [numb, ih]
    rw [go]; simp
  refine ⟨xs, rfl, by omega, fun i hi hi' => ?_⟩
  have h5 := h4 i (by omega) hi'
  simp only [Option.bind_eq_some_iff] at h5
  obtain ⟨zs, h6, h7⟩ := h5
  obtain ⟨hi2, H⟩ := numb_args (ν := ν) (qs.map (·.ps)) [] i (by simpa using hi)
  have h8 := H zs (by simpa [List.map_map, Function.comp_def] using h6)
  refine ⟨zs, ⟨by simpa using h8.1, fun j hj hj' => by simpa [pcGet] using h8.2 j (by simpa using hj) hj'⟩, ?_⟩
  cases ag with
  | true => simp only [if_true, Option.some.injEq] at h7 ⊢; exact h7.symm
  | false =>
    simp only [Bool.false_eq_true, if_false] at h7 ⊢
    split at h7
    · cases h7; rfl
    · cases h7
theorem copBuildSlice_ok (R : Rel P w0 M N α ν L a w) (hd : N.W d) {t : TypeId} {len : Nat} {parts : Array (Nat × Operand)} (ho : o.op = .buildSlice t len parts) (hod : o.dst = some d) (h : RM.out α (copBuildSlice P d t len parts) E) (hv : runIs Φ E.vis ν = some ν') :
    OpG P o a w (Goal P w0 M N (E.ap α (some d)) ν') := by
  simp only [copBuildSlice, out_bind, out_opt, out_need, out_ok, Bool.and_eq_true, decide_eq_true_eq, beq_iff_eq, bne_iff_ne, Bool.or_eq_true, Bool.not_eq_true'] at h
  obtain ⟨e, het, n, hsz, ag, hag, _, ⟨⟨⟨⟨⟨hpl, h24⟩, hn0⟩, hag1⟩, hlen⟩, hz0⟩, qs, hqs, _, hnk, rfl⟩ := h
  have hu : P.underlying t = some (.slice e) := by
    unfold elT at het
    split at het
    · rename_i e' hq; cases het; exact hq
    · cases het
  simp only [runIs, Option.bind_eq_some_iff, Option.some.injEq] at hv
  obtain ⟨ν1, hv1, ν2, hv2, rfl⟩ := hv
  obtain ⟨hk, _, x, hx, rfl⟩ := VI.inv1 hv1
  obtain ⟨_, _, u, hu1, rfl⟩ := viG1 hv2
  have hu2 := hu1.unit
  subst hu2
  obtain ⟨xs, rfl, hxl, hxs⟩ := mk_sem hx
  obtain ⟨hp1, hp2, hp3⟩ := litEls_ok R parts.toList 0 qs hqs hk
  -- each part: its tokens, its cells
  have hch : ∀ i (h : i < qs.length), ∃ p : List Nat × List Value, Frzd P ν L w qs[i] p.1 p.2 ∧ p.2.length = n ∧ (a.eval (parts.toList[i]'(by omega)).2 = .agg p.2.toArray ∨ p.2 = [a.eval (parts.toList[i]'(by omega)).2]) := fun i h => by
    obtain ⟨toks, cs, h1, h2, h3⟩ := hp3 i h (by omega)
    exact ⟨(toks, cs), h1, h2, h3⟩
  let pf : Nat → List Nat × List Value := fun i => if h : i < qs.length then (hch i h).choose else ([], [])
  have hpf : ∀ i (h : i < qs.length), Frzd P ν L w qs[i] (pf i).1 (pf i).2 ∧ (pf i).2.length = n ∧ (a.eval (parts.toList[i]'(by omega)).2 = .agg (pf i).2.toArray ∨ (pf i).2 = [a.eval (parts.toList[i]'(by omega)).2]) := fun i h => by
    have := (hch i h).choose_spec
    simpa only [pf, h, dif_pos] using this
  let toks : List Nat := ((List.range qs.length).map fun i => (pf i).1).flatten
  have hkill : (qs.map (·.kill)).flatten = toks.map tkK := by
    simp only [toks, List.map_flatten, List.map_map]
    congr 1
    apply List.ext_getElem
    · simp
    · intro i h1 h2
      have hi : i < qs.length := by simpa using h1
      simp only [List.getElem_map, List.getElem_range, Function.comp]
      exact (hpf i hi).1.kill
  have hsub : ∀ i, i < qs.length → ∀ t ∈ (pf i).1, t ∈ toks := fun i hi t ht => List.mem_flatten.2 ⟨_, List.mem_map.2 ⟨i, List.mem_range.2 hi, rfl⟩, ht⟩
  -- the parts' values
  let vs : List Value := parts.toList.map fun p => a.eval p.2
  have hvl : vs.length = qs.length := by simp only [vs, List.length_map]; omega
  have hvc : ∀ i (h : i < qs.length), (vs[i]'(by omega)).cells.toList = (pf i).2 ∧ ∃ zs, Pieces ν qs[i].ps zs ∧ (if ag then (xs[i]'(by omega)) = .agg zs else zs = [xs[i]'(by omega)]) ∧ zs.length = (pf i).2.length ∧ ∀ j (hj : j < zs.length) (hj' : j < (pf i).2.length), Rd P (fun b => L.F b ∨ L.blks toks b) w zs[j] (pf i).2[j] := fun i hi => by
    obtain ⟨h1, h2, h3⟩ := hpf i hi
    obtain ⟨zs, hz1, hz2⟩ := hxs i hi (by omega)
    obtain ⟨h4, h5, _, h6⟩ := h1.cells hz1 (c := vs[i]'(by omega)) (by simpa [vs] using h3)
    exact ⟨h4, zs, hz1, hz2, h5, fun j hj hj' => (h6 j hj hj').mono (fun b hb => hb.imp id (blks_mono (hsub i hi) b)) (fun _ _ => rfl)⟩
  have hcs : ∀ v ∈ vs, v.cells.size = n := fun v hv => by
    obtain ⟨i, hi, rfl⟩ := List.getElem_of_mem hv
    have h1 := (hvc i (by omega)).1
    have h2 := (hpf i (by omega)).2.1
    have := congrArg List.length h1
    simp only [Array.length_toList] at this
    omega
  let C : Array Value := (vs.flatMap fun v => v.cells.toList).toArray
  have hpn : 0 < n := Nat.pos_of_ne_zero hn0
  have hqlen : qs.length = len := by
    have : parts.toList.length = parts.size := by simp
    omega
  have hCsz : C.size = len * n := by
    have go : ∀ (vs : List Value), (∀ v ∈ vs, v.cells.size = n) → (vs.flatMap fun v => v.cells.toList).length = vs.length * n := by
      intro vs
      induction vs with
      | nil => intro _; simp
      | cons v vs ih =>
        intro h
        simp only [List.flatMap_cons, List.length_append, List.length_cons, Nat.add_mul, Nat.one_mul]
        rw [ih (fun u hu => h u (List.mem_cons_of_mem _ hu))]
        have := h v List.mem_cons_self
        simp only [Array.length_toList]
        omega
    simp only [C, List.size_toArray]
    rw [go vs hcs, hvl, hqlen]
  have hrun : (Instr.buildSlice t len (parts.map fun (i, x) => (i, a.eval x))).run P w = .ok (.slice (some ⟨w.heap.size, 0, none⟩) len len) (w.alloc (.cells C e)) := by
    have hlist : (parts.map fun (i, x) => (i, a.eval x)).toList = (vs.zipIdx 0).map fun x => (x.2, x.1) := by
      rw [← hp1]; simp
    by_cases hl0 : len = 0
    · subst hl0
      have hnil : parts.toList = [] := List.eq_nil_of_length_eq_zero (by omega)
      have hC0 : C = #[] := Array.eq_empty_of_size_eq_zero (by omega)
      have hpe : parts = #[] := by
        apply Array.ext'
        exact hnil
      rw [hC0, hpe]
      have hr0 : Array.range 0 = #[] := rfl
      simp [Instr.buildSlice, run_underlying hu, run_sizeOf hsz, Instr.fill, newRow, hr0]
    · simp only [hl0, false_or] at hz0
      obtain ⟨⟨as, zv⟩, hzo⟩ := Option.isSome_iff_exists.1 hz0
      obtain ⟨ie, z, hie, hz, hra, hsize⟩ := zeroOf_ok (L := L) (w := w) hzo
      have hszn : ie.size = n := by
        have : szOf P e = some ie.size := by simp [szOf, hie]
        rw [hsz] at this
        exact (Option.some.inj this).symm
      have hmul : 0 < len * n := Nat.mul_pos (Nat.pos_of_ne_zero hl0) hpn
      refine run_buildSlice w t e len _ C ie z hu hie hz (by rw [hszn]; omega) (by rw [hszn]; omega) ?_
      rw [hlist, hszn]
      exact Go.Great.fill_whole hpn vs _ hcs (by simp only [Array.size_map, Array.size_range]; rw [hvl, hqlen])
  have hcell : ∀ i (h : i < qs.length) j (hj : j < (pf i).2.length), C.getD (0 + (i * n + j)) undef = (pf i).2[j] := by
    intro i hi j hj
    have hjn : j < n := by have := (hpf i hi).2.1; omega
    have h1 := Go.Great.flat_get hpn vs hcs (i * n + j)
    have h2 : (i * n + j) / n = i := by rw [Nat.add_comm, Nat.add_mul_div_right _ _ hpn, Nat.div_eq_of_lt hjn]; omega
    have h3 : (i * n + j) % n = j := by rw [Nat.add_comm, Nat.add_mul_mod_self_right, Nat.mod_eq_of_lt hjn]
    rw [h2, h3, List.getElem?_eq_getElem (show i < vs.length by omega)] at h1
    simp only [Option.bind_some] at h1
    have h4 := (hvc i hi).1
    have h5 : (vs[i]'(by omega)).cells[j]? = some (pf i).2[j] := by
      rw [← Array.getElem?_toList, h4, List.getElem?_eq_getElem hj]
    rw [h5] at h1
    simp only [C, Array.getD_eq_getD_getElem?, List.getElem?_toArray, Nat.zero_add, h1, Option.getD_some]
  refine new_row R hd (w' := w.alloc (.cells C e)) (v := .slice (some ⟨w.heap.size, 0, none⟩) len len) hod (WStep.alloc w _ _) (by simp [execOp, ho, hrun]) hkill ?_ ?_ (fun b hb => ?_) _ rfl
  · intro hm
    have : tkK (tokS d 0) ∈ (qs.map (·.kill)).flatten := by rw [hkill]; exact List.mem_map.2 ⟨_, hm, rfl⟩
    simp [this] at hnk
  · refine ⟨xs, rfl, .inr ⟨w.heap.size, 0, len, n, ag, C, (0, 0), by simp [hxl, hqlen], heap_alloc_new w _, .inl (by simp), by omega, by simp only [maxLen]; omega, by omega, hag, hsz, hpn, fun hf => by subst hf; simpa using hag1, fun i hi => ?_⟩⟩
    have hi' : i < qs.length := by omega
    obtain ⟨h4, zs, hz1, hz2, h5, h6⟩ := hvc i hi'
    have hstep : ∀ b, (L.F b ∨ L.blks toks b) → (w.alloc (.cells C e)).heap[b]? = w.heap[b]? := by
      intro b hb
      refine heap_alloc_old w _ b ?_
      rcases hb with hb | ⟨t, _, r, h1, h2⟩
      · exact R.sl b (R.fs b hb)
      · exact (R.rowmine t r b h1 h2).2.1
    cases ag with
    | true =>
      simp only [if_true] at hz2
      refine ⟨zs, hz2, by rw [h5]; exact (hpf i hi').2.1, fun j hj => ?_⟩
      refine ⟨(hz1.2 j (by have := hz1.1; omega) hj).2, ?_⟩
      show Rd P _ _ zs[j] (C.getD (0 + (i * n + j)) undef)
      rw [hcell i hi' j (by omega)]
      exact (h6 j hj (by omega)).mono (fun _ h => h) hstep
    | false =>
      simp only [Bool.false_eq_true, if_false] at hz2
      subst hz2
      have hn1 : n = 1 := by simpa using hag1
      have h7 := h6 0 (by simp) (by have := (hpf i hi').2.1; omega)
      have h8 := hcell i hi' 0 (by have := (hpf i hi').2.1; omega)
      refine ⟨by simpa using (hz1.2 0 (by have := hz1.1; simp at this; omega) (by simp)).2, ?_⟩
      show Rd P _ _ xs[i] (C.getD (0 + (i * n + 0)) undef)
      rw [h8]
      exact h7.mono (fun _ h => h) hstep
  · have : w.heap.size = b := by simpa [Value.ownBlock] using hb
    subst this
    exact ⟨by simp, Nat.le_refl _⟩
end
end Go.Proofs.YtlhcgiegganbpaaDoorVs
set_option linter.unusedVariables false
set_option linter.unusedSimpArgs false
namespace Go.Proofs.YtlhcgiegganbpaaDoorVs
section
variable {P : Program} {w0 : World} {M : Nat → Prop} {N : Fr} {α : Al} {ν ν' : Env} {L : Lay} {a : Act} {w w' : World} {Φ : Funs} {o : Oper} {d : Nat} {E : Eff}

theorem zero_rd {as : List At} {vs : List V} {cs : List Value} (h : RAs P L w as vs cs) (hz : ∀ a ∈ as, a = .v .fz ∨ a = .nils) (hne : ∀ x ∈ vs, x ≠ .undef) : ∀ i (h1 : i < vs.length) (h2 : i < cs.length), Rd P L.F w vs[i] cs[i] := by
  intro i h1 h2
  have h0 : i < as.length := by have := h.2.1; omega
  have hr := h.2.2 i h0 h1 h2
  rcases hz as[i] (List.getElem_mem h0) with e | e <;> rw [e] at hr
  · rcases hr with hr | hr
    · exact absurd hr (hne _ (List.getElem_mem h1))
    · exact hr
  · rcases hr with hr | ⟨hr, t, he⟩
    · exact absurd hr (hne _ (List.getElem_mem h1))
    · rw [hr, he]; exact .nil _ _ _
theorem zeroOf_ne {t : TypeId} {as : List At} {vs : List V} (h : zeroOf P t = some (as, vs)) : ∀ x ∈ vs, x ≠ .undef := by
  simp only [zeroOf, Option.bind_eq_some_iff] at h
  obtain ⟨i, hi, z, hz, ls, hls, h⟩ := h
  split at h
  · simp only [Option.map_eq_some_iff, Prod.mk.injEq] at h
    obtain ⟨l, hl2, rfl, rfl⟩ := h
    intro x hx
    obtain ⟨p, hp, rfl⟩ := List.mem_map.1 hx
    obtain ⟨k, hk, rfl⟩ := List.getElem_of_mem hp
    obtain ⟨h1, h2⟩ := mapM_get hl2
    have := h2 k (by omega) hk
    exact zV_ne (at1 := l[k].1) this
  · cases h
theorem madeCells_get {z : Array Value} {n k : Nat} (hk : k < n) : (madeCells z n).getD k undef = z[k % z.size]! := by
  simp [madeCells, Array.getD_eq_getD_getElem?, hk]
theorem copMakeSlice_ok (R : Rel P w0 M N α ν L a w) (hd : N.W d) {t : TypeId} {l c : Operand} (ho : o.op = .makeSlice t l c) (hod : o.dst = some d) (h : RM.out α (copMakeSlice P d t l c) E) (hv : runIs Φ E.vis ν = some ν') :
    OpG P o a w (Goal P w0 M N (E.ap α (some d)) ν') := by
  simp only [copMakeSlice, out_bind, out_opt, out_need, out_ok, Bool.and_eq_true, bne_iff_ne, beq_iff_eq, Bool.or_eq_true] at h
  obtain ⟨e, het, n, hsz, ag, hag, bs, hbs, ⟨as, vs⟩, hz, _, ⟨⟨⟨⟨hn0, hasl⟩, hb0⟩, hall⟩, hag1⟩, s1, h1, s2, h2, k1, hk1, k2, hk2, z, hzz, rfl⟩ := h
  have hu : P.underlying t = some (.slice e) := by
    unfold elT at het
    split at het
    · rename_i e' hq; cases het; exact hq
    · cases het
  obtain ⟨ie, zv, hie, hzv, hra, hsize⟩ := zeroOf_ok (L := L) (w := w) hz
  obtain ⟨p1, hp1, hr1⟩ := opd1 R h1 hk1
  obtain ⟨p2, hp2, hr2⟩ := opd1 R h2 hk2
  simp only [runIs, Option.bind_eq_some_iff, Option.some.injEq] at hv
  obtain ⟨ν1, hv1, ν2, hv2, rfl⟩ := hv
  obtain ⟨_, _, x, hx, rfl⟩ := VI.inv1 hv1
  obtain ⟨_, _, u, hu1, rfl⟩ := viG1 hv2
  have hu2 := hu1.unit
  subst hu2
  simp only [List.map_cons, List.map_nil, hp1, hp2] at hx
  rcases hr1 with rfl | hr1
  · cases hx
  rcases hr2 with rfl | hr2
  · cases p1 <;> cases hx
  cases p1 with
  | int kl m => cases p2 with
    | int kc cc =>
      rw [VF.sem] at hx
      split at hx
      · rename_i hh
        obtain ⟨hm0, hmc, hcb⟩ := hh
        cases hx
        have hbytes : ie.bytes = bs := by
          simp only [bytesT, hie, Option.map_some, Option.some.injEq] at hbs; exact hbs
        have hisz : ie.size = n := by
          simp only [szOf, hie, Option.map_some, Option.some.injEq] at hsz; exact hsz
        have hzn : zv.cells.size = n := by have := hra.1; simp at this; omega
        have hc0 : 0 ≤ cc := by omega
        have hcb1 : cc ≤ cc * bs := by
          have : (1 : Int) ≤ bs := by omega
          have := Int.mul_le_mul_of_nonneg_left this hc0
          omega
        have hrun := run_make (P := P) w t e ie zv hu hie hzv kl kc m cc hm0 hmc (by rw [hbytes, Int.mul_comm]; omega) (by omega)
        have hrows := zero_rd hra (fun a ha => by
          have := List.all_eq_true.1 hall a ha
          simpa using this) (zeroOf_ne hz)
        have hpn : 0 < n := Nat.pos_of_ne_zero hn0
        refine new_row R hd (toks := []) (kill := []) (w' := w.alloc (.cells (madeCells zv.cells (cc.toNat * ie.size)) e)) (v := .slice (some ⟨w.heap.size, 0, none⟩) m.toNat cc.toNat) hod (WStep.alloc w _ _) (by simp [execOp, ho, hr1.int_inv, hr2.int_inv, hrun]) rfl (by simp) ?_ (fun b hb => ?_) _ rfl
        · refine ⟨_, rfl, .inr ⟨w.heap.size, 0, cc.toNat, n, ag, _, (0, 0), by simp, heap_alloc_new w _, .inl (by simp), by simp; omega, by simp only [maxLen]; omega, by rw [size_madeCells, hisz]; omega, hag, hsz, hpn, fun hf => by subst hf; simpa using hag1, fun i hi => ?_⟩⟩
          simp only [List.length_replicate] at hi
          have hcell : ∀ j, j < n → (madeCells zv.cells (cc.toNat * ie.size)).getD (0 + (i * n + j)) undef = (zv.cells.toList[j]?).getD undef := by
            intro j hj
            have hlt : i * n + j < cc.toNat * ie.size := by
              rw [hisz]
              exact idx_lt (by omega) hj
            rw [Nat.zero_add, madeCells_get hlt, hzn]
            have : (i * n + j) % n = j := by rw [Nat.add_comm, Nat.add_mul_mod_self_right, Nat.mod_eq_of_lt hj]
            rw [this]
            simp [show j < zv.cells.size by omega]
          have hF : ∀ b, (L.F b ∨ L.blks [] b) → L.F b := fun b h => h.elim id (fun ⟨t, ht, _⟩ => by simp at ht)
          have hmono : ∀ {y : V} {c : Value}, Rd P L.F w y c → Rd P (fun b => L.F b ∨ L.blks [] b) (w.alloc (.cells (madeCells zv.cells (cc.toNat * ie.size)) e)) y c := fun h => h.mono (fun b hb => .inl hb) (fun b hb => heap_alloc_old w _ b (R.sl b (R.fs b hb)))
          have hvl : vs.length = n := by have := hra.2.1; simp only at hasl; omega
          cases ag with
          | true =>
            simp only [zElem, if_true, Option.some.injEq] at hzz
            subst hzz
            refine ⟨vs, by simp, hvl, fun j hj => ?_⟩
            refine ⟨zeroOf_ne hz _ (List.getElem_mem hj), ?_⟩
            show Rd P _ _ vs[j] ((madeCells zv.cells (cc.toNat * ie.size)).getD (0 + (i * n + j)) undef)
            rw [hcell j (by omega)]
            have := hrows j hj (by simp; omega)
            rw [List.getElem?_eq_getElem (by simp; omega), Option.getD_some]
            exact hmono this
          | false =>
            simp only [zElem, Bool.false_eq_true, if_false] at hzz
            have h1n : n = 1 := by simpa using hag1
            obtain ⟨z1, hz1⟩ := List.length_eq_one_iff.1 (hvl.trans h1n)
            rw [hz1] at hzz
            simp only [Option.some.injEq] at hzz
            subst hzz
            refine ⟨by simp only [List.getElem_replicate]; exact zeroOf_ne hz z1 (by simp [hz1]), ?_⟩
            show Rd P _ _ (List.replicate m.toNat z1)[i] ((madeCells zv.cells (cc.toNat * ie.size)).getD (0 + (i * n + 0)) undef)
            rw [hcell 0 (by omega)]
            have := hrows 0 (by omega) (by simp; omega)
            rw [List.getElem?_eq_getElem (by simp; omega), Option.getD_some]
            simp only [List.getElem_replicate]
            simp only [hz1, List.getElem_cons_zero] at this
            exact hmono this
        · have : w.heap.size = b := by simpa [Value.ownBlock] using hb
          subst this
          exact ⟨by simp, Nat.le_refl _⟩
      · cases hx
    | _ => cases hx
  | _ => cases hx

/-! #### appends -/
theorem firstCells_slice {P : Program} {W : World} {size m : Nat} {b q n cap : Nat} {news : List Value} (hl : news.length = m * size) (hc : ∀ i (h : i < news.length), W.cell? ⟨b, q + i, none⟩ = some news[i]) :
    (Builtin.firstCells size m (.slice (some ⟨b, q, none⟩) n cap)).run P W = .ok news.toArray W :=
  run_firstCells_some W size m ⟨b, q, none⟩ n cap news hl (fun j v hj => by
    obtain ⟨h1, rfl⟩ := List.getElem?_eq_some_iff.1 hj
    rw [add_plain]; exact hc j h1)
theorem firstCells_zero {P : Program} {W : World} {size : Nat} {ad : Option Addr} {n cap : Nat} : (Builtin.firstCells size 0 (.slice ad n cap)).run P W = .ok #[] W := by
  cases ad <;> simp [Builtin.firstCells, loadCells, loadCellsFrom]
/-- in place -/
theorem run_append_room_fz (t u ty e : TypeId) (size : Nat) (ht : P.underlying t = some (.slice e)) (hsz : szOf P e = some size) (hu : (∃ e', P.underlying u = some (.slice e')) ∨ P.underlying u = some .string) (g q sLen sCap : Nat) (cur : Array Value) (fz : Nat × Nat) (hg : w.heap[g]? = some (.cells cur e fz)) (hfz : fz.2 ≤ fz.1 ∨ cur.size ≤ fz.1)
    (x : Value) (m : Nat) (news : List Value) (hx : (Builtin.lenOf x).run P w = .ok m w) (hf : (Builtin.firstCells size m x).run P w = .ok news.toArray w) (h1 : ∀ v ∈ news, v.oneCell' = true) (hroom : sLen + m ≤ sCap) (hfit : q + sLen * size + news.length ≤ cur.size) :
    (Builtin.append_ #[t, u] ty #[.slice (some ⟨g, q, none⟩) sLen sCap, x]).run P w = .ok (.slice (some ⟨g, q, none⟩) (sLen + m) sCap) (w.setRow g (cur.toList.take (q + sLen * size) ++ news ++ cur.toList.drop (q + sLen * size + news.length)).toArray) := by
  have hst := run_storeCells_fz P g (q + sLen * size) e fz news 0 cur w hg hfz (by simpa using hfit) h1
  simp only [Nat.add_zero] at hst
  rcases hu with ⟨e', hu⟩ | hu
  · simp [Builtin.append_, run_underlying ht, run_underlying hu, run_sizeOf hsz, hx, hroom, hf, add_plain, hst]
  · simp [Builtin.append_, run_underlying ht, run_underlying hu, run_sizeOf hsz, hx, hroom, hf, add_plain, hst]
/-- nothing onto nothing -/
theorem run_append_none (t u ty e : TypeId) (size : Nat) (ht : P.underlying t = some (.slice e)) (hsz : szOf P e = some size) (hu : (∃ e', P.underlying u = some (.slice e')) ∨ P.underlying u = some .string)
    (x : Value) (hx : (Builtin.lenOf x).run P w = .ok 0 w) (hf : (Builtin.firstCells size 0 x).run P w = .ok #[] w) : (Builtin.append_ #[t, u] ty #[.slice none 0 0, x]).run P w = .ok (.slice none 0 0) w := by
  rcases hu with ⟨e', hu⟩ | hu
  · simp [Builtin.append_, run_underlying ht, run_underlying hu, run_sizeOf hsz, hx, hf]
  · simp [Builtin.append_, run_underlying ht, run_underlying hu, run_sizeOf hsz, hx, hf]
/-- into a new block -/
theorem run_append_grow_any (t u ty e : TypeId) (i : TypeInfo) (z : Value) (ht : P.underlying t = some (.slice e)) (hu : (∃ e', P.underlying u = some (.slice e')) ∨ P.underlying u = some .string) (hi : P.info? e = some i) (hz : i.zero = some z)
    (base : Option Addr) (sLen sCap : Nat) (olds : List Value) (holds : (Builtin.firstCells i.size sLen (.slice base sLen sCap)).run P w.drew = .ok olds.toArray w.drew)
    (x : Value) (m : Nat) (news : List Value) (hx : (Builtin.lenOf x).run P w = .ok m w) (hf : (Builtin.firstCells i.size m x).run P w.drew = .ok news.toArray w.drew)
    (hg : sCap < sLen + m) (h63 : ((sLen + m : Nat) : Int) ≤ 9223372036854775807) (hfit : Builtin.nextslicecap (sLen + m) sCap * i.bytes ≤ 281474976710656) :
    (Builtin.append_ #[t, u] ty #[.slice base sLen sCap, x]).run P w =
      .ok (.slice (some ⟨w.heap.size, 0, none⟩) (sLen + m) (grownCap w (sLen + m) sCap e))
        (w.drew.alloc (.cells (olds.toArray ++ news.toArray ++ Builtin.zeroCells z.cells (grownCap w (sLen + m) sCap e - (sLen + m))) e)) := by
  have hn : ¬ (sLen + m ≤ sCap) := by omega
  have h63' : ¬ (9223372036854775807 < ((sLen : Int) + (m : Int))) := by omega
  have h48' : ¬ (281474976710656 < Builtin.nextslicecap (sLen + m) sCap * i.bytes) := by omega
  rcases hu with ⟨e', hu⟩ | hu
  · simp [Builtin.append_, run_underlying ht, run_underlying hu, sizeOf, typeInfo, zeroValue, hi, hz, hx, hn, h63', h48', Question.forced, newRow, grownCap, holds, hf]
    congr 2
    apply Array.ext'
    simp [List.append_assoc]
  · simp [Builtin.append_, run_underlying ht, run_underlying hu, sizeOf, typeInfo, zeroValue, hi, hz, hx, hn, h63', h48', Question.forced, newRow, grownCap, holds, hf]
    congr 2
    apply Array.ext'
    simp [List.append_assoc]
/-- two rows, one behind the other -/
theorem RdRow.append {F : Nat → Prop} {e : TypeId} {sz : Nat} {ag : Bool} {xs ys : List V} {f g h : Nat → Value} (hx : RdRow P F w e sz ag xs f) (hy : RdRow P F w e sz ag ys g) (h1 : ∀ k, k < xs.length * sz → h k = f k) (h2 : ∀ k, k < ys.length * sz → h (xs.length * sz + k) = g k) : RdRow P F w e sz ag (xs ++ ys) h := by
  refine ⟨hx.hk, hx.hz, hx.hp, hx.ha, fun i hi => ?_⟩
  have hp := hx.hp
  have congr1 : ∀ {x : V} {p q : Nat → Value}, RdE P F w ag sz x p → (∀ j, j < sz → q j = p j) → RdE P F w ag sz x q := by
    intro x p q hr hq
    cases ag with
    | false => refine ⟨hr.1, ?_⟩; show Rd P F w x (q 0); rw [hq 0 hp]; exact hr.2
    | true =>
      obtain ⟨zs, h3, h4, h5⟩ := hr
      exact ⟨zs, h3, h4, fun j hj => by rw [hq j (by omega)]; exact h5 j hj⟩
  by_cases hlt : i < xs.length
  · rw [List.getElem_append_left hlt]
    exact congr1 (hx.hx i hlt) (fun j hj => h1 _ (idx_lt hlt hj))
  · rw [List.getElem_append_right (by omega)]
    simp only [List.length_append] at hi
    refine congr1 (hy.hx (i - xs.length) (by omega)) (fun j hj => ?_)
    have e1 : i * sz + j = xs.length * sz + ((i - xs.length) * sz + j) := by
      have : i * sz = xs.length * sz + (i - xs.length) * sz := by rw [← Nat.add_mul]; congr 1; omega
      omega
    rw [e1]
    exact h2 _ (idx_lt (by omega) hj)
/-- what is appended: its cells, and what they say -/
structure News (P : Program) (F : Nat → Prop) (w : World) (e : TypeId) (sz : Nat) (ag : Bool) (x : Value) (ys : List V) (news : List Value) : Prop where
  len : ∀ W, (Builtin.lenOf x).run P W = .ok ys.length W
  cells : ∀ W : World, W.heap = w.heap → (Builtin.firstCells sz ys.length x).run P W = .ok news.toArray W
  nl : news.length = ys.length * sz
  one : ∀ v ∈ news, v.oneCell' = true
  rd : RdRow P F w e sz ag ys (fun k => news.getD k undef)
theorem append_row {F : Nat → Prop} {e t u ty : TypeId} {sz : Nat} {ag : Bool} {i : TypeInfo} {z : Value} {r : Row} {xs ys : List V} {x : Value} {news : List Value} (ht : P.underlying t = some (.slice e)) (hu : (∃ e', P.underlying u = some (.slice e')) ∨ P.underlying u = some .string) (hi : P.info? e = some i) (hz : i.zero = some z) (hsz : szOf P e = some sz) (hzc : z.cells.size = sz) (hb0 : 0 < i.bytes)
    (hr : RowOK P F w r [.list r.e xs]) (hre : r.e = e) (hn : News P F w e sz ag x ys news) (hbd : (xs.length + ys.length) * i.bytes ≤ 140737488355328) (hF : ∀ b, F b → b < w.heap.size ∧ r.blk ≠ some b) (hrb : ∀ b, r.blk = some b → b < w.heap.size) :
    ∃ v' w', (Builtin.append_ #[t, u] ty #[r.val, x]).run P w = .ok v' w' ∧ WStep w w' (fun b => r.blk = some b) ∧ RowOK P F w' ⟨v', e⟩ [.list e (xs ++ ys)] ∧ ∀ b, v'.ownBlock = some b → b < w'.heap.size ∧ (w.heap.size ≤ b ∨ r.blk = some b) := by
  subst hre
  have hisz : i.size = sz := by simp only [szOf, hi, Option.map_some, Option.some.injEq] at hsz; exact hsz
  have hlb : xs.length + ys.length ≤ (xs.length + ys.length) * i.bytes := Nat.le_mul_of_pos_right _ hb0
  have h63 : ((xs.length + ys.length : Nat) : Int) ≤ 9223372036854775807 := by omega
  have hmax : xs.length + ys.length ≤ maxLen := by simp only [maxLen]; omega
  obtain ⟨xs', he, h⟩ := hr
  simp only [List.cons.injEq, V.list.injEq, true_and, and_true] at he
  subst he
  -- into a new block
  have grow : ∀ (ad : Option Addr) (cap : Nat) (olds : List Value) (ag' : Bool), r.val = .slice ad xs.length cap → cap < xs.length + ys.length → (Builtin.firstCells i.size xs.length (.slice ad xs.length cap)).run P w.drew = .ok olds.toArray w.drew → olds.length = xs.length * sz → (xs ≠ [] → RdRow P F w r.e sz ag' xs (fun k => olds.getD k undef)) →
      ∃ v' w', (Builtin.append_ #[t, u] ty #[r.val, x]).run P w = .ok v' w' ∧ WStep w w' (fun b => r.blk = some b) ∧ RowOK P F w' ⟨v', r.e⟩ [.list r.e (xs ++ ys)] ∧ ∀ b, v'.ownBlock = some b → b < w'.heap.size ∧ (w.heap.size ≤ b ∨ r.blk = some b) := by
    intro ad cap olds ag' hv hlt ho hol hord
    have hrun := run_append_grow_any (P := P) (w := w) t u ty r.e i z ht hu hi hz ad xs.length cap olds ho x ys.length news (hn.len w) (by rw [hisz]; exact hn.cells w.drew rfl) hlt h63 (growslice_fits hlt hbd)
    have hge := grownCap_ge w (xs.length + ys.length) cap r.e
    have hcm := grownCap_le_maxLen w (xs.length + ys.length) cap r.e hmax
    have hp := hn.rd.hp
    rw [hv]
    refine ⟨_, _, hrun, (WStep.drew w _).trans (WStep.alloc w.drew _ _), ⟨_, rfl, .inr ⟨w.heap.size, 0, _, sz, ag, _, (0, 0), by simp, heap_alloc_new w.drew _, .inl (by simp), by simpa using hge, hcm, ?_, ?_⟩⟩, fun b hb => ?_⟩
    · simp only [Array.size_append, List.size_toArray, size_zeroCells, hzc, hol, hn.nl, Nat.zero_add]
      have : (xs.length + ys.length) * sz + (grownCap w (xs.length + ys.length) cap r.e - (xs.length + ys.length)) * sz = grownCap w (xs.length + ys.length) cap r.e * sz := by rw [← Nat.add_mul]; congr 1; omega
      rw [Nat.add_mul] at this
      omega
    · have hx : RdRow P F w r.e sz ag xs (fun k => olds.getD k undef) := by
        by_cases hx0 : xs = []
        · subst hx0; exact ⟨hn.rd.hk, hn.rd.hz, hn.rd.hp, hn.rd.ha, fun i h => by simp at h⟩
        · have h1 := hord hx0
          have : ag' = ag := by have := h1.hk; rw [hn.rd.hk] at this; exact (Option.some.inj this).symm
          subst this; exact h1
      refine (hx.append hn.rd (fun k hk => ?_) (fun k hk => ?_)).mono (fun _ h => h) (fun b hb => heap_alloc_old w.drew _ b (hF b hb).1)
      · have : k < olds.length := by omega
        have e1 : (olds.toArray ++ news.toArray ++ Builtin.zeroCells z.cells (grownCap w (xs.length + ys.length) cap r.e - (xs.length + ys.length)))[0 + k]? = some olds[k] := by
          rw [Nat.zero_add, Array.getElem?_append_left (by simp; omega), Array.getElem?_append_left (by simp; omega)]
          simp [this]
        show Array.getD _ _ _ = _
        rw [Array.getD_eq_getD_getElem?, e1, List.getD_eq_getElem?_getD, List.getElem?_eq_getElem this]
      · have h1 : ¬ xs.length * sz + k < olds.length := by omega
        have h2 : k < news.length := by rw [hn.nl]; exact hk
        have h3 : xs.length * sz + k - olds.length = k := by omega
        have h4 : xs.length * sz + k < olds.length + news.length := by omega
        have e1 : (olds.toArray ++ news.toArray ++ Builtin.zeroCells z.cells (grownCap w (xs.length + ys.length) cap r.e - (xs.length + ys.length)))[0 + (xs.length * sz + k)]? = some news[k] := by
          rw [Nat.zero_add, Array.getElem?_append_left (by simp; omega), Array.getElem?_append_right (by simp; omega)]
          simp [h2, h3]
        show Array.getD _ _ _ = _
        rw [Array.getD_eq_getD_getElem?, e1, List.getD_eq_getElem?_getD, List.getElem?_eq_getElem h2]
    · have : w.heap.size = b := by simpa [Value.ownBlock] using hb
      subst this
      exact ⟨by simp, .inl (Nat.le_refl _)⟩
  rcases h with ⟨hv, rfl⟩ | ⟨b, q, cap, sz', ag', C, fz, H⟩
  · by_cases hy0 : ys = []
    · subst hy0
      have hnn : news = [] := List.eq_nil_of_length_eq_zero (by simpa using hn.nl)
      subst hnn
      refine ⟨.slice none 0 0, w, ?_, WStep.refl w _, by simpa using nil_row F r.e, fun b hb => by simp [Value.ownBlock] at hb⟩
      rw [hv]
      exact run_append_none t u ty r.e sz ht hsz hu x (hn.len w) (hn.cells w rfl)
    · have hpos : 0 < ys.length := List.length_pos_iff.2 hy0
      exact grow none 0 [] true (by simpa using hv) (by simpa using hpos) (by simpa using run_firstCells_none w.drew i.size 0 0 0) (by simp) (fun h => absurd rfl h)
  · have hse : sz' = sz := by have := H.rd.hz; rw [hsz] at this; exact (Option.some.inj this).symm
    subst hse
    have hHs := H.hs
    have hHc := H.hc
    have hcap : xs.length * sz' ≤ cap * sz' := Nat.mul_le_mul_right _ H.hc
    by_cases hroom : xs.length + ys.length ≤ cap
    · have hag : xs ≠ [] → ag' = ag := fun _ => by have := H.rd.hk; rw [hn.rd.hk] at this; exact (Option.some.inj this).symm
      have hag2 : ag' = ag := by have := H.rd.hk; rw [hn.rd.hk] at this; exact (Option.some.inj this).symm
      subst hag2
      have hcap2 : (xs.length + ys.length) * sz' ≤ cap * sz' := Nat.mul_le_mul_right _ hroom
      rw [Nat.add_mul] at hcap2
      have hfit : q + xs.length * sz' + news.length ≤ C.size := by rw [hn.nl]; omega
      have hrun := run_append_room_fz (P := P) (w := w) t u ty r.e sz' ht hsz hu b q xs.length cap C fz H.hh H.hfz x ys.length news (hn.len w) (hn.cells w rfl) hn.one hroom hfit
      rw [H.hv]
      have hblk : r.blk = some b := by rw [Row.blk, H.hv]; rfl
      have hkey := fun k => getD_setRow (C := C) (vs := news) (p := q + xs.length * sz') (i := k) rfl hfit
      refine ⟨_, _, hrun, WStep.setRow w b _ _ hblk, ⟨_, rfl, .inr ⟨b, q, cap, sz', ag', _, fz, by simp, setRow_heap w b C _ r.e fz H.hh, ?_, by simpa using hroom, H.hm, ?_, ?_⟩⟩, fun b2 hb2 => ?_⟩
      · rcases H.hfz with h | h
        · exact .inl h
        · right; simp only [List.size_toArray, List.length_append, List.length_take, List.length_drop, Array.length_toList]; omega
      · simp only [List.size_toArray, List.length_append, List.length_take, List.length_drop, Array.length_toList]; omega
      · refine (H.rd.append hn.rd (fun k hk => ?_) (fun k hk => ?_)).mono (fun _ h => h) (fun b2 hb2 => setRow_other w b b2 _ (fun e => (hF b2 hb2).2 (e ▸ hblk)))
        · show _ = _
          rw [hkey, if_neg (by omega)]
        · show _ = _
          rw [hkey, if_pos (by rw [hn.nl]; omega)]
          congr 1
          omega
      · have : b = b2 := by simpa [Value.ownBlock] using hb2
        subst this
        exact ⟨by simpa using hrb b hblk, .inr hblk⟩
    · refine grow (some ⟨b, q, none⟩) cap ((C.toList.drop q).take (xs.length * sz')) ag' H.hv (by omega) ?_ (by simp; omega) (fun _ => ?_)
      · rw [hisz]
        refine firstCells_slice (by simp; omega) (fun k hk => ?_)
        simp only [List.length_take, List.length_drop, Array.length_toList] at hk
        have : q + k < C.size := by omega
        have hh' : w.drew.heap[b]? = some (.cells C r.e fz) := H.hh
        simp [World.cell?, hh', this]
      · refine ⟨H.rd.hk, H.rd.hz, H.rd.hp, H.rd.ha, fun k hk => ?_⟩
        have h1 := H.rd.hx k hk
        have hc : ∀ j, j < sz' → ((C.toList.drop q).take (xs.length * sz')).getD (k * sz' + j) undef = C.getD (q + (k * sz' + j)) undef := by
          intro j hj
          have h2 := idx_lt hk hj
          have h3 : q + (k * sz' + j) < C.size := by omega
          simp [List.getD_eq_getElem?_getD, Array.getD_eq_getD_getElem?, List.getElem?_take, h2]
        cases ag' with
        | false =>
          refine ⟨h1.1, ?_⟩
          show Rd P F w xs[k] (((C.toList.drop q).take (xs.length * sz')).getD (k * sz' + 0) undef)
          rw [hc 0 H.rd.hp]; exact h1.2
        | true =>
          obtain ⟨zs, h3, h4, h5⟩ := h1
          refine ⟨zs, h3, h4, fun j hj => ?_⟩
          refine ⟨(h5 j hj).1, ?_⟩
          show Rd P F w zs[j] (((C.toList.drop q).take (xs.length * sz')).getD (k * sz' + j) undef)
          rw [hc j (by omega)]; exact (h5 j hj).2
end
end Go.Proofs.YtlhcgiegganbpaaDoorVs
set_option linter.unusedVariables false
set_option linter.unusedSimpArgs false
namespace Go.Proofs.YtlhcgiegganbpaaDoorVs
section
variable {P : Program} {w0 : World} {M : Nat → Prop} {N : Fr} {α : Al} {ν ν' : Env} {L : Lay} {a : Act} {w w' : World} {Φ : Funs} {o : Oper} {d : Nat} {E : Eff}

theorem RdRow.congr {F : Nat → Prop} {e : TypeId} {sz : Nat} {ag : Bool} {xs : List V} {f h : Nat → Value} (hx : RdRow P F w e sz ag xs f) (h1 : ∀ k, k < xs.length * sz → h k = f k) : RdRow P F w e sz ag xs h := by
  have := hx.append (ys := []) (g := h) (h := h) ⟨hx.hk, hx.hz, hx.hp, hx.ha, fun i hi => by simp at hi⟩ h1 (fun k hk => by simp at hk)
  simpa using this
theorem RdRow.one {F : Nat → Prop} {e : TypeId} {sz : Nat} {ag : Bool} {xs : List V} {f : Nat → Value} (hx : RdRow P F w e sz ag xs f) : ∀ k, k < xs.length * sz → (f k).oneCell' = true := by
  intro k hk
  have hp := hx.hp
  have hi : k / sz < xs.length := Nat.div_lt_of_lt_mul (by rw [Nat.mul_comm]; exact hk)
  have hj : k % sz < sz := Nat.mod_lt _ hp
  have e1 : k / sz * sz + k % sz = k := Nat.div_add_mod' k sz
  have h1 := hx.hx (k / sz) hi
  cases ag with
  | false =>
    have := hx.ha rfl
    subst this
    have h2 := h1.2.cell1 h1.1
    simp only [Nat.div_one, Nat.mul_one, Nat.add_zero] at h2
    exact h2.2
  | true =>
    obtain ⟨zs, h3, h4, h5⟩ := h1
    obtain ⟨h6, h7⟩ := h5 (k % sz) (by omega)
    have h8 : Rd P F w zs[k % sz] (f (k / sz * sz + k % sz)) := h7
    rw [e1] at h8
    exact (h8.cell1 h6).2
theorem news_cells {F : Nat → Prop} {e : TypeId} {sz : Nat} {ag : Bool} {ys : List V} {f : Nat → Value} {c : Value} {b q cap : Nat} (hrow : RdRow P F w e sz ag ys f) (hc : c = .slice (some ⟨b, q, none⟩) ys.length cap) (hf : ∀ i, i < ys.length * sz → w.cell? ⟨b, q + i, none⟩ = some (f i)) :
    News P F w e sz ag c ys ((List.range (ys.length * sz)).map f) where
  len W := by rw [hc]; rfl
  cells W hW := by
    rw [hc]
    refine firstCells_slice (by simp) (fun i hi => ?_)
    simp only [List.length_map, List.length_range] at hi
    have : W.cell? ⟨b, q + i, none⟩ = w.cell? ⟨b, q + i, none⟩ := by simp [World.cell?, hW]
    rw [this, hf i hi]
    simp
  nl := by simp
  one v hv := by
    obtain ⟨k, hk, rfl⟩ := List.mem_map.1 hv
    exact hrow.one k (by simpa using hk)
  rd := hrow.congr (fun k hk => by simp [List.getD_eq_getElem?_getD, hk])
theorem news_nil {F : Nat → Prop} {e : TypeId} {sz : Nat} {ag : Bool} {c : Value} {ad : Option Addr} {cap : Nat} (hk : agT P e = some ag) (hz : szOf P e = some sz) (hp : 0 < sz) (ha : ag = false → sz = 1) (hc : c = .slice ad 0 cap) : News P F w e sz ag c [] [] where
  len W := by rw [hc]; rfl
  cells W hW := by rw [hc]; exact firstCells_zero
  nl := by simp
  one v hv := by simp at hv
  rd := ⟨hk, hz, hp, ha, fun i hi => by simp at hi⟩
theorem scalar_row {S F : Nat → Prop} {e : TypeId} {sz : Nat} {ag : Bool} {ys : List V} {f : Nat → Value} (h : RdRow P S w e sz ag ys f) (hs : ys.all scalarE = true) : RdRow P F w e sz ag ys f := by
  refine ⟨h.hk, h.hz, h.hp, h.ha, fun i hi => ?_⟩
  have h1 := h.hx i hi
  have h2 : scalarE ys[i] = true := List.all_eq_true.1 hs _ (List.getElem_mem hi)
  cases ag with
  | false =>
    refine ⟨h1.1, h1.2.scalar ?_⟩
    have := h1.2.not_agg
    cases hy : ys[i] <;> rw [hy] at h2 <;> first | exact h2 | exact absurd hy (this _)
  | true =>
    obtain ⟨zs, h3, h4, h5⟩ := h1
    rw [h3] at h2
    exact ⟨zs, h3, h4, fun j hj => ⟨(h5 j hj).1, (h5 j hj).2.scalar (List.all_eq_true.1 h2 _ (List.getElem_mem hj))⟩⟩
theorem news_str {F : Nat → Prop} {e : TypeId} {s : ByteArray} (he : P.underlying e = some (.int .u8)) (hz : szOf P e = some 1) : News P F w e 1 false (.string s) (s.data.toList.map fun b => V.int .u8 b.toNat) (s.data.toList.map fun b => Value.int .u8 b.toNat) where
  len W := by
    have : s.data.size = s.size := rfl
    simp [Builtin.lenOf, this]
  cells W hW := by
    have h1 : (s.data.toList.map fun b => V.int .u8 b.toNat).length = s.size := by simp only [List.length_map, Array.length_toList]; rfl
    rw [h1]
    have h2 : s.extract 0 s.size = s := by
      apply ByteArray.ext
      simp
    simp only [Builtin.firstCells, h2, Sem.run_pure]
    congr 1
    apply Array.ext'
    simp
  nl := by simp
  one v hv := by
    obtain ⟨k, hk, rfl⟩ := List.mem_map.1 hv
    rfl
  rd := byte_row _ he hz _ _ _ (fun i hi => by
    simp only [List.length_map, Array.length_toList] at hi
    exact ⟨s.data[i].toNat, by simp, by simp [List.getD_eq_getElem?_getD, hi, Array.getElem?_eq_getElem hi]⟩)
theorem app_sem {e : TypeId} {bs : Nat} {sc : Bool} {gs : List V} {q : V} {z : List (List V)} (h : VF.sem Φ (.app e bs sc) [gs, [q]] = some z) : ∃ e1 xs e2 ys, gs = [.list e1 xs] ∧ q = .list e2 ys ∧ e1 = e ∧ e2 = e ∧ (sc = true → ys.all scalarE = true) ∧ (xs.length + ys.length) * bs ≤ 140737488355328 ∧ z = [[.list e (xs ++ ys)]] := by
  rcases gs with _ | ⟨x1, _ | ⟨x2, rest⟩⟩
  · cases q <;> cases h
  · cases x1 with
    | list e1 xs =>
      cases q with
      | list e2 ys =>
        rw [VF.sem] at h
        split at h
        · rename_i hh
          cases h
          exact ⟨e1, xs, e2, ys, rfl, rfl, hh.1.1.1, hh.1.1.2, hh.1.2, hh.2, rfl⟩
        · cases h
      | _ => cases h
    | _ => cases q <;> cases h
  · cases x1 <;> cases q <;> cases h
theorem aps_sem {e : TypeId} {bs : Nat} {gs : List V} {q : V} {z : List (List V)} (h : VF.sem Φ (.aps e bs) [gs, [q]] = some z) : ∃ e1 xs s, gs = [.list e1 xs] ∧ q = .str s ∧ e1 = e ∧ (xs.length + s.size) * bs ≤ 140737488355328 ∧ z = [[.list e (xs ++ s.data.toList.map fun b => .int .u8 b.toNat)]] := by
  rcases gs with _ | ⟨x1, _ | ⟨x2, rest⟩⟩
  · cases q <;> cases h
  · cases x1 with
    | list e1 xs =>
      cases q with
      | str s =>
        rw [VF.sem] at h
        split at h
        · rename_i hh
          cases h
          exact ⟨e1, xs, s, rfl, rfl, hh.1, hh.2, rfl⟩
        · cases h
      | _ => cases h
    | _ => cases q <;> cases h
  · cases x1 <;> cases q <;> cases h
/-- the row of an append's first operand -/
theorem append_end (R : Rel P w0 M N α ν L a w) (hd : N.W d) {e : TypeId} {k : Nat} {r : Row} {xs' : List V} {v' : Value} {vis : List VI} (hod : o.dst = some d) (hrun : (execOp a.eval o).run P w = .ok (.value v') w') (hW : WStep w w' (fun b => r.blk = some b)) (hrow : L.row k = some r ∨ r.blk = none)
    (hok : RowOK P L.F w' ⟨v', e⟩ [.list e xs']) (hb : ∀ b, v'.ownBlock = some b → b < w'.heap.size ∧ (w.heap.size ≤ b ∨ r.blk = some b)) :
    OpG P o a w (Goal P w0 M N ((Eff.mk vis [tkK k] [] [] (.one (.own k))).ap α (some d)) ((ν.upd (tC k) [.list e xs']).upd (sC d) [.unit])) := by
  refine OpG.value hrun ?_
  rw [hod]
  have hks : ∀ t, t ∈ [k] ∨ t ∈ ([] : List Nat) → tkK t ∈ [tkK k] ∨ (t = k ∧ k ∈ ([] : List Nat) ∧ L.row k = some ⟨v', e⟩) := by
    intro t ht
    left
    simp only [List.mem_singleton, List.not_mem_nil, or_false] at ht ⊢
    rw [ht]
  have hsub : ∀ b, r.blk = some b → L.blks [k] b := fun b hb => by
    rcases hrow with h | h
    · exact ⟨k, by simp, r, h, hb⟩
    · rw [h] at hb; cases hb
  have hnb : ∀ b, ¬ L.blks ([] : List Nat) b := fun b ⟨t, h, _⟩ => by simp at h
  have R1 := R.rowStep k ⟨v', e⟩ [.list e xs'] [k] [] [] [tkK k] (by simp) (hW.mono hsub) hks (by simp) (hok.ext (fun b h => .inl h) (fun _ _ => rfl) (fun _ _ => rfl)) (fun b hb2 => ⟨(hb b hb2).1, (hb b hb2).2.imp id (hsub b)⟩)
  simp only [Eff.ap, Al.setBs, sk_setBs]
  exact ⟨_, R1.put hd (RSl.one (RAs.one (.inr ⟨rfl, ⟨v', e⟩, by simp [Lay.withRow], rfl⟩)))⟩
theorem copAppend_ok (R : Rel P w0 M N α ν L a w) (hd : N.W d) {x y : Operand} {t u : TypeId} (ho : o.op = .call { callee := .builtin .append, args := #[x, y], argTypes := #[t, u] }) (hod : o.dst = some d) (h : RM.out α (copAppend P d x y t u) E) (hv : runIs Φ E.vis ν = some ν') :
    OpG P o a w (Goal P w0 M N (E.ap α (some d)) ν') := by
  simp only [copAppend, out_bind, out_opt, out_need, Bool.and_eq_true, bne_iff_ne, Bool.or_eq_true, beq_iff_eq] at h
  obtain ⟨e, het, n, hsz, bs, hbs, ag, hag, _, ⟨⟨⟨hn0, hb0⟩, hz0⟩, han⟩, s, h1, sy, h2, ⟨g, k, chk⟩, hgk, h⟩ := h
  have hu : P.underlying t = some (.slice e) := by
    unfold elT at het
    split at het
    · rename_i e' hq; cases het; exact hq
    · cases het
  obtain ⟨⟨as, zv⟩, hzo⟩ := Option.isSome_iff_exists.1 hz0
  obtain ⟨ie, z, hie, hz, hra, hsize⟩ := zeroOf_ok (L := L) (w := w) hzo
  have hisz : ie.size = n := by simp only [szOf, hie, Option.map_some, Option.some.injEq] at hsz; exact hsz
  have hzc : z.cells.size = n := by have := hra.1; simp at this; omega
  have hbytes : ie.bytes = bs := by simp only [bytesT, hie, Option.map_some, Option.some.injEq] at hbs; exact hbs
  have hpn : 0 < n := Nat.pos_of_ne_zero hn0
  have H := opd_ok R h1
  have Hy := opd_ok R h2
  -- the first operand's row
  have hfirst : chk.all (unitAt ν) = true → ∃ r, (L.row k = some r ∨ r.blk = none) ∧ (∀ e1 xs, g.get ν = [.list e1 xs] → e1 = e → a.eval x = r.val ∧ RowOK P L.F w r [.list r.e xs] ∧ r.e = e) ∧ (∀ b, r.blk = some b → b < w.heap.size ∧ ¬ L.S b) := by
    intro hk
    split at hgk
    · rename_i hs
      rw [out_ok] at hgk; cases hgk
      rw [hs] at H
      obtain ⟨p, hp, hr⟩ := RAs.single H
      refine ⟨⟨.slice none 0 0, e⟩, .inr rfl, fun e1 xs hg he1 => ?_, fun b hb => by simp [Row.blk, Value.ownBlock] at hb⟩
      rw [hp] at hg
      simp only [List.cons.injEq, and_true] at hg
      subst hg
      rcases hr with hr | ⟨hc, e2, he2⟩
      · cases hr
      · injection he2 with h3 h4
        subst h4
        exact ⟨hc, nil_row _ _, rfl⟩
    · rename_i k1 i hs hg
      rw [out_ok] at hgk; cases hgk
      rw [hs, hg] at H
      obtain ⟨p, hp, hr⟩ := RAs.single H
      have hun := unit_chk hk (List.mem_singleton.2 rfl) hp rfl
      subst hun
      rcases hr with hr | ⟨_, r, hrow, hc⟩
      · cases hr
      refine ⟨r, .inl hrow, fun e1 xs hg2 he1 => ?_, fun b hb => ⟨(R.rowmine k r b hrow hb).2.1, (R.rowmine k r b hrow hb).2.2⟩⟩
      have h3 := R.rows k r hrow
      rw [get_c] at hg2
      rw [hg2] at h3
      obtain ⟨xs', h4, h5⟩ := h3
      simp only [List.cons.injEq, V.list.injEq, and_true] at h4
      obtain ⟨h6, h7⟩ := h4
      subst h7
      exact ⟨hc, ⟨xs, rfl, h5⟩, by rw [← h6]; exact he1⟩
    · rw [out_no] at hgk; exact hgk.elim
  split at h
  · rename_i e' hu2
    simp only [out_bind, out_opt, out_need, out_ok, Bool.and_eq_true, bne_iff_ne, beq_iff_eq] at h
    obtain ⟨⟨g', s', chk'⟩, hc', _, ⟨hsk, htu⟩, rfl⟩ := h
    simp only [runIs, Option.bind_eq_some_iff, Option.some.injEq] at hv
    obtain ⟨ν1, hv1, ν2, hv2, rfl⟩ := hv
    obtain ⟨hk, _, zz, hzz, rfl⟩ := VI.inv1 hv1
    obtain ⟨_, _, uu, hu1, rfl⟩ := viG1 hv2
    have hu2' := hu1.unit
    subst hu2'
    simp only [List.all_append, Bool.and_eq_true] at hk
    obtain ⟨r, hrow, hrowok, hrb⟩ := hfirst hk.1
    obtain ⟨q, hq, hry⟩ := cont_ok R Hy hc' hk.2
    simp only [List.map_cons, List.map_nil, hq] at hzz
    have hxg : ∃ e1 xs, g.get ν = [.list e1 xs] ∧ ∃ e2 ys, q = .list e2 ys ∧ e1 = e ∧ e2 = e ∧ ((!(s' == .fz || isOwn sy.sh)) = true → ys.all scalarE = true) ∧ (xs.length + ys.length) * bs ≤ 140737488355328 ∧ zz = [.list e (xs ++ ys)] := by
      obtain ⟨e1, xs, e2, ys, h3, h4, h5, h6, h7, h8, h9⟩ := app_sem hzz
      exact ⟨e1, xs, h3, e2, ys, h4, h5, h6, h7, h8, by simpa using h9⟩
    obtain ⟨e1, xs, hgx, e2, ys, rfl, rfl, rfl, hsc, hbd, rfl⟩ := hxg
    obtain ⟨hc, hrok, hre⟩ := hrowok _ xs hgx rfl
    rcases hry with hry | hry
    · cases hry
    -- the cells that come
    have hnews : ∃ ag news, News P L.F w e2 n ag (a.eval y) ys news := by
      by_cases hy0 : ys = []
      · subst hy0
        obtain ⟨ad, cap, hcv⟩ := hry.slice
        exact ⟨ag, [], news_nil hag hsz hpn (fun h => by rcases han with h' | h'; · rw [h] at h'; cases h'
                                                         · exact h') hcv⟩
      · by_cases hown : isOwn sy.sh = true
        · obtain ⟨sh, arg⟩ := sy
          cases sh with
          | one a1 => cases a1 with
            | own k2 => cases arg with
              | c i =>
                cases hc'
                obtain ⟨p, hp, hr⟩ := RAs.single Hy
                have hun := unit_chk hk.2 (List.mem_singleton.2 rfl) hp rfl
                subst hun
                rcases hr with hr | ⟨_, r2, hrow2, hc2⟩
                · cases hr
                obtain ⟨xs2, hx2, h6⟩ := R.rows k2 r2 hrow2
                rw [get_c] at hq
                rw [hq] at hx2
                simp only [List.cons.injEq, V.list.injEq, and_true] at hx2
                obtain ⟨h7, rfl⟩ := hx2
                rcases h6 with ⟨_, h6⟩ | ⟨b, qq, cap, sz', ag, C, fz, HR⟩
                · exact absurd h6 hy0
                · have hse : sz' = n := by have := HR.rd.hz; rw [← h7, hsz] at this; exact (Option.some.inj this).symm
                  subst hse
                  rw [hc2]
                  have hrd := HR.rd
                  rw [← h7] at hrd
                  refine ⟨ag, _, news_cells hrd HR.hv (fun i hi => ?_)⟩
                  have : qq + i < C.size := by
                    have h8 := HR.hs
                    have h9 : ys.length * sz' ≤ cap * sz' := Nat.mul_le_mul_right _ HR.hc
                    omega
                  simp [World.cell?, HR.hh, this]
              | lit vs => cases hc'
            | _ => simp [isOwn] at hown
          | _ => simp [isOwn] at hown
        · obtain ⟨b, qq, cap, sz', ag, f, hcv, _, _, hrd, hf⟩ := hry.row hy0
          have hse : sz' = n := by have := hrd.hz; rw [hsz] at this; exact (Option.some.inj this).symm
          subst hse
          by_cases hfz : s' = .fz
          · subst hfz
            exact ⟨ag, _, news_cells hrd hcv hf⟩
          · have := hsc (by simp [hfz, hown])
            exact ⟨ag, _, news_cells (scalar_row hrd this) hcv hf⟩
    obtain ⟨ag, news, hN⟩ := hnews
    obtain ⟨v', w', hrun, hW, hok, hb⟩ := append_row (P := P) (w := w) (F := L.F) (t := t) (u := u) (ty := o.type) hu (.inl ⟨e', hu2⟩) hie hz hsz hzc (by rw [hbytes]; exact Nat.pos_of_ne_zero hb0) hrok hre hN (by rw [hbytes]; exact hbd) (fun b hb => ⟨R.sl b (R.fs b hb), fun e => (hrb b e).2 (R.fs b hb)⟩) (fun b hb => (hrb b hb).1)
    rw [← hc] at hrun
    exact append_end R hd hod (by simp [execOp, ho, resolve, invoke, builtin, hrun]) hW hrow hok hb
  · rename_i hu2
    simp only [out_bind, out_opt, out_need, out_ok, beq_iff_eq] at h
    obtain ⟨v2, hs1, _, hu8, _, hn1, rfl⟩ := h
    subst hn1
    simp only [runIs, Option.bind_eq_some_iff, Option.some.injEq] at hv
    obtain ⟨ν1, hv1, ν2, hv2, rfl⟩ := hv
    obtain ⟨hk, _, zz, hzz, rfl⟩ := VI.inv1 hv1
    obtain ⟨_, _, uu, hu1, rfl⟩ := viG1 hv2
    have hu2' := hu1.unit
    subst hu2'
    obtain ⟨r, hrow, hrowok, hrb⟩ := hfirst hk
    obtain ⟨q, hq, hry⟩ := opd1 R h2 hs1
    simp only [List.map_cons, List.map_nil, hq] at hzz
    have hxg : ∃ e1 xs s, g.get ν = [.list e1 xs] ∧ q = .str s ∧ e1 = e ∧ (xs.length + s.size) * bs ≤ 140737488355328 ∧ zz = [.list e (xs ++ s.data.toList.map fun b => .int .u8 b.toNat)] := by
      obtain ⟨e1, xs, s, h3, h4, h5, h6, h7⟩ := aps_sem hzz
      exact ⟨e1, xs, s, h3, h4, h5, h6, by simpa using h7⟩
    obtain ⟨e1, xs, s2, hgx, rfl, rfl, hbd, rfl⟩ := hxg
    obtain ⟨hc, hrok, hre⟩ := hrowok _ xs hgx rfl
    rcases hry with hry | hry
    · cases hry
    have hcy := hry.str_inv
    have hu8' : P.underlying e1 = some (.int .u8) := by
      split at hu8
      · assumption
      · cases hu8
    have hN : News P L.F w e1 1 false (a.eval y) (s2.data.toList.map fun b => V.int .u8 b.toNat) (s2.data.toList.map fun b => Value.int .u8 b.toNat) := by
      rw [hcy]; exact news_str hu8' hsz
    have hl : (s2.data.toList.map fun b => V.int .u8 b.toNat).length = s2.size := by simp only [List.length_map, Array.length_toList]; rfl
    obtain ⟨v', w', hrun, hW, hok, hb⟩ := append_row (P := P) (w := w) (F := L.F) (t := t) (u := u) (ty := o.type) hu (.inr hu2) hie hz hsz hzc (by rw [hbytes]; exact Nat.pos_of_ne_zero hb0) hrok hre hN (by rw [hbytes, hl]; exact hbd) (fun b hb => ⟨R.sl b (R.fs b hb), fun e => (hrb b e).2 (R.fs b hb)⟩) (fun b hb => (hrb b hb).1)
    rw [← hc] at hrun
    exact append_end R hd hod (by simp [execOp, ho, resolve, invoke, builtin, hrun]) hW hrow hok hb
  · rw [out_no] at h; exact h.elim
end
end Go.Proofs.YtlhcgiegganbpaaDoorVs
set_option linter.unusedVariables false
set_option linter.unusedSimpArgs false
namespace Go.Proofs.YtlhcgiegganbpaaDoorVs
structure ExtS (L L' : Lay) : Prop where
  F : L'.F = L.F
  S : ∀ b, L.S b → L'.S b
  row : L'.row = L.row
  box : ∀ u b ro, L.box u = some (b, ro) → ∃ ro', L'.box u = some (b, ro')
section
variable {P : Program} {L L' : Lay} {w : World}
theorem ExtS.src (E : ExtS L L') (s : Src) : ∀ b, L.src s b → L'.src s b := by
  cases s with
  | fz => intro b h; exact (by rw [Lay.src, E.F]; exact h)
  | lent => exact E.S
  | of t =>
    rintro b (h | ⟨r, h1, h2⟩)
    · exact .inl (E.S b h)
    · exact .inr ⟨r, by rw [E.row]; exact h1, h2⟩
theorem RA.extS (E : ExtS L L') {a : At} {x : V} {c : Value} (h : RA P L w a x c) : RA P L' w a x c := by
  rcases h with h | h
  · exact .inl h
  refine .inr ?_
  cases a with
  | dead => trivial
  | gone k => trivial
  | v s => exact Rd.mono h (E.src s) (fun _ _ => rfl)
  | nils => exact h
  | nilp => exact h
  | own t => obtain ⟨h, r, hr, hc⟩ := h; exact ⟨h, r, by rw [E.row]; exact hr, hc⟩
  | ptr u off => obtain ⟨h, b, ro, hr, hc⟩ := h; obtain ⟨ro', hr'⟩ := E.box u b ro hr; exact ⟨h, b, ro', hr', hc⟩
  | opt u =>
    rcases h with h | ⟨h, b, ro, hr, hc⟩
    · exact .inl h
    · obtain ⟨ro', hr'⟩ := E.box u b ro hr; exact .inr ⟨h, b, ro', hr', hc⟩
  | elt t j =>
    obtain ⟨r, i, b, o, n, cap, sz, h1, h3⟩ := h
    exact ⟨r, i, b, o, n, cap, sz, by rw [E.row]; exact h1, h3⟩
  | iel s j =>
    obtain ⟨b, p, hs, hel, hc⟩ := h
    exact ⟨b, p, E.src s b hs, hel.mono hs (E.src s) (fun _ _ => rfl), hc⟩
theorem RAs.extS (E : ExtS L L') {as : List At} {xs : List V} {cs : List Value} (h : RAs P L w as xs cs) : RAs P L' w as xs cs :=
  ⟨h.1, h.2.1, fun i h0 h1 h2 => (h.2.2 i h0 h1 h2).extS E⟩
theorem RPart.extS (E : ExtS L L') {p : Bool × List At} {xs : List V} {c : Value} (h : RPart P L w p xs c) : RPart P L' w p xs c := by
  obtain ⟨b, as⟩ := p
  cases b with
  | false => exact RAs.extS E h
  | true => obtain ⟨cs, h1, h2⟩ := h; exact ⟨cs, h1, h2.extS E⟩
theorem RParts.extS (E : ExtS L L') : ∀ {ps : List (Bool × List At)} {xs : List V} {cs : List Value}, RParts P L w ps xs cs → RParts P L' w ps xs cs
  | [], xs, cs, h => h
  | p :: ps, xs, cs, ⟨x1, x2, c, c2, h1, h2, h3, h4⟩ => ⟨x1, x2, c, c2, h1, h2, h3.extS E, RParts.extS E h4⟩
theorem RSl.extS (E : ExtS L L') {h : Sh} {xs : List V} {c : Value} (H : RSl P L w h xs c) : RSl P L' w h xs c := by
  cases h with
  | one a =>
    cases a with
    | dead => trivial
    | gone k => trivial
    | _ => exact RSl.one (RAs.extS E H)
  | agg as => obtain ⟨cs, h1, h2⟩ := H; exact ⟨cs, h1, h2.extS E⟩
  | ogg as => rcases H with ⟨cs, h1, h2⟩ | H; exact .inl ⟨cs, h1, h2.extS E⟩; exact .inr H
  | tup ps => obtain ⟨cs, h1, h2⟩ := H; exact ⟨cs, h1, RParts.extS E h2⟩
/-- the variables us are not changed any more -/
def Lay.seal (L : Lay) (us : List Nat) : Lay where
  row := L.row
  box := fun u => if u ∈ us then (L.box u).map (fun p => (p.1, true)) else L.box u
  F := L.F
  S := fun b => L.S b ∨ ∃ u ∈ us, ∃ ro, L.box u = some (b, ro)
theorem seal_ext (L : Lay) (us : List Nat) : ExtS L (L.seal us) where
  F := rfl
  S := fun b h => .inl h
  row := rfl
  box := fun u b ro h => by
    by_cases hu : u ∈ us
    · exact ⟨true, by simp [Lay.seal, hu, h]⟩
    · exact ⟨ro, by simp [Lay.seal, hu, h]⟩
theorem setBs_in : ∀ (l : List (Nat × Bx)) (α : Al) (u : Nat) (x : Bx), (α.setBs l).box u = some x → (u, x) ∈ l ∨ (u ∉ l.map (·.1) ∧ α.box u = some x)
  | [], α, u, x, h => .inr ⟨by simp, h⟩
  | (v, b) :: r, α, u, x, h => by
    rw [Al.setBs] at h
    rcases setBs_in r _ u x h with h | ⟨h1, h2⟩
    · exact .inl (List.mem_cons_of_mem _ h)
    · rw [box_setB] at h2
      split at h2
      · rename_i e
        subst e
        cases h2
        exact .inl (List.mem_cons_self ..)
      · rename_i e
        exact .inr ⟨by simp; exact ⟨e, by simpa using h1⟩, h2⟩
theorem setBs_slot : ∀ (l : List (Nat × Bx)) (α : Al) (s : Nat), (α.setBs l).slot s = α.slot s
  | [], α, s => rfl
  | (v, b) :: r, α, s => by rw [Al.setBs, setBs_slot r]; rfl
variable {w0 : World} {M : Nat → Prop} {N : Fr} {α : Al} {ν ν' : Env} {a : Act} {Φ : Funs} {o : Oper} {d : Nat} {E : Eff}
theorem seal_box {us : List Nat} {u b : Nat} {ro : Bool} (h : (L.seal us).box u = some (b, ro)) : ∃ ro', L.box u = some (b, ro') ∧ (u ∈ us → ro = true) ∧ (u ∉ us → ro' = ro) := by
  by_cases hu : u ∈ us
  · simp only [Lay.seal, if_pos hu, Option.map_eq_some_iff] at h
    obtain ⟨p, h1, h2⟩ := h
    cases h2
    exact ⟨p.2, h1, fun _ => rfl, fun h => absurd hu h⟩
  · simp only [Lay.seal, if_neg hu] at h
    exact ⟨ro, h, fun h => absurd h hu, fun _ => rfl⟩
theorem Rel.seal (R : Rel P w0 M N α ν L a w) (l : List (Nat × Bx)) (hl : ∀ c ∈ l, α.box c.1 = some c.2) : Rel P w0 M N (α.setBs (l.map fun c => (c.1, ⟨true, c.2.as⟩))) ν (L.seal (l.map (·.1))) a w where
  nt := R.nt
  nd := R.nd
  kp := R.kp
  fs := fun b h => .inl (R.fs b h)
  sl := fun b h => by
    rcases h with h | ⟨u, hu, ro, h⟩
    · exact R.sl b h
    · cases ro with
      | true => exact R.sl b (R.boxro u b h)
      | false => exact (R.boxmine u b h).2.1
  slots := fun s => by rw [setBs_slot]; exact (R.slots s).extS (seal_ext L _)
  rows := fun t r h => R.rows t r h
  boxes := fun u b ro h x hx => by
    obtain ⟨ro', h1, h2, h3⟩ := seal_box h
    rcases setBs_in _ _ _ _ hx with hm | ⟨hm, hx⟩
    · obtain ⟨c, hc, e⟩ := List.mem_map.1 hm
      obtain ⟨cu, cb⟩ := c
      simp only [Prod.mk.injEq] at e
      obtain ⟨rfl, rfl⟩ := e
      have hu : cu ∈ l.map (·.1) := List.mem_map.2 ⟨_, hc, rfl⟩
      obtain ⟨_, k2⟩ := R.boxes cu b ro' h1 cb (hl _ hc)
      obtain ⟨C, ty, fz, k3, k4, k5⟩ := k2.cells
      exact ⟨(h2 hu).symm, ⟨C, ty, fz, k3, k4, k5.extS (seal_ext L _)⟩⟩
    · have hu : u ∉ l.map (·.1) := fun h => hm (by simpa using h)
      obtain ⟨k1, k2⟩ := R.boxes u b ro' h1 x hx
      obtain ⟨C, ty, fz, k3, k4, k5⟩ := k2.cells
      exact ⟨by rw [k1, h3 hu], ⟨C, ty, fz, k3, k4, k5.extS (seal_ext L _)⟩⟩
  rowmine := fun t r b h1 h2 => by
    obtain ⟨k1, k2, k3⟩ := R.rowmine t r b h1 h2
    exact ⟨k1, k2, fun h => h.elim k3 (fun ⟨u, _, ro, h⟩ => R.rb t r u b ro h1 h2 h)⟩
  boxmine := fun u b h => by
    obtain ⟨ro', h1, h2, h3⟩ := seal_box h
    have hu : u ∉ l.map (·.1) := fun h => by cases h2 h
    obtain rfl := h3 hu
    obtain ⟨k1, k2, k3⟩ := R.boxmine u b h1
    refine ⟨k1, k2, fun h => h.elim k3 (fun ⟨u', hu', ro, h'⟩ => ?_)⟩
    have := R.bb u u' b ro h1 h'
    subst this
    exact hu hu'
  boxro := fun u b h => by
    obtain ⟨ro', h1, h2, h3⟩ := seal_box h
    by_cases hu : u ∈ l.map (·.1)
    · exact .inr ⟨u, hu, ro', h1⟩
    · obtain rfl := h3 hu
      exact .inl (R.boxro u b h1)
  rr := R.rr
  rb := fun t r u b ro h1 h2 h => by
    obtain ⟨ro', h3, _⟩ := seal_box h
    exact R.rb t r u b ro' h1 h2 h3
  bb := fun u u' b ro h h' => by
    obtain ⟨r1, h1, h2, h3⟩ := seal_box h
    obtain ⟨r2, h4, _⟩ := seal_box h'
    have hu : u ∉ l.map (·.1) := fun h => by cases h2 h
    obtain rfl := h3 hu
    exact R.bb u u' b r2 h1 h4
/-- a variable that is held -/
structure CapOK (P : Program) (α : Al) (L : Lay) (ν : Env) (a : Act) (w : World) (x : Operand) (c : Nat × Bx × Nat) (b : Nat) : Prop where
  box : α.box c.1 = some c.2.1
  ok : c.2.1.as.all okCap = true
  ev : a.eval x = .pointer (some ⟨b, 0, none⟩)
  lay : ∃ ro, L.box c.1 = some (b, ro)
theorem capOne_ok (R : Rel P w0 M N α ν L a w) {x : Operand} {c : Nat × Bx × Nat} (h : RM.out α (capOne x) c) (hk : unitAt ν (sC c.2.2, 0) = true) : ∃ b, CapOK P α L ν a w x c b := by
  unfold capOne at h
  split at h
  · rename_i t
    rw [out_sl] at h
    split at h
    · rename_i u hs
      rw [out_bx] at h
      simp only [out_bind, out_opt, out_need, out_ok] at h
      obtain ⟨bx, hb, _, ho, rfl⟩ := h
      have H := R.slots t
      rw [hs] at H
      obtain ⟨y, hy, hr⟩ := RAs.single H
      have hu : y = .unit := by
        simp only [unitAt, hy, List.getElem?_cons_zero] at hk
        split at hk
        · rename_i e; simpa using e
        · cases hk
      subst hu
      rcases hr with hr | ⟨_, b, ro, h1, h2⟩
      · cases hr
      · exact ⟨b, hb, ho, h2, ro, h1⟩
    · rw [out_no] at h; exact h.elim
  · rw [out_no] at h; exact h.elim
theorem capAll_ok (R : Rel P w0 M N α ν L a w) : ∀ {xs : List Operand} {l : List (Nat × Bx × Nat)}, RM.out α (capAll xs) l → (∀ c ∈ l, unitAt ν (sC c.2.2, 0) = true) →
    ∃ bs : List Nat, bs.length = l.length ∧ xs.map a.eval = bs.map (fun b => Value.pointer (some ⟨b, 0, none⟩)) ∧ ∀ i (h : i < l.length) (h' : i < bs.length), ∃ x, CapOK P α L ν a w x l[i] bs[i]
  | [], l, h, hk => by
    simp only [capAll, out_ok] at h
    subst h
    exact ⟨[], rfl, rfl, fun i h => by simp at h⟩
  | x :: r, l, h, hk => by
    simp only [capAll, out_bind, out_ok] at h
    obtain ⟨c, hc, l', hl', rfl⟩ := h
    obtain ⟨b, hb⟩ := capOne_ok R hc (hk c (List.mem_cons_self ..))
    obtain ⟨bs, h1, h2, h3⟩ := capAll_ok R hl' (fun c hc => hk c (List.mem_cons_of_mem _ hc))
    refine ⟨b :: bs, by simp [h1], by simp [h2, hb.ev], fun i hi hi' => ?_⟩
    cases i with
    | zero => exact ⟨x, hb⟩
    | succ i => exact h3 i (by simpa using hi) (by simpa using hi')
theorem okCap_rd {L : Lay} {at1 : At} {x : V} {c : Value} (h : okCap at1 = true) (hr : RA P L w at1 x c) (hx : x ≠ .undef) (hf : ∀ b, L.F b → L.S b) : Rd P L.S w x c := by
  rcases hr with hr | hr
  · exact absurd hr hx
  · cases at1 with
    | v s => cases s with
      | fz => exact Rd.mono hr hf (fun _ _ => rfl)
      | lent => exact hr
      | of t => simp [okCap] at h
    | _ => simp [okCap] at h
theorem copMakeFunc_ok (R : Rel P w0 M N α ν L a w) (hd : N.W d) {fn : Fn} {first captured : Array Operand} (ho : o.op = .makeFunc fn first captured) (hod : o.dst = some d) (h : RM.out α (copMakeFunc P d fn first captured) E) (hv : runIs Φ E.vis ν = some ν') :
    OpG P o a w (Goal P w0 M N (E.ap α (some d)) ν') := by
  unfold copMakeFunc at h
  split at h
  · rename_i g
    simp only [out_bind, out_need, out_ok] at h
    obtain ⟨_, hfirst, l, hl, _, hnd, rfl⟩ := h
    obtain ⟨hk, _, z, hz, rfl⟩ := VI.inv1 (run_ins1 hv)
    simp only [VF.sem] at hz
    split at hz
    · rename_i hdef
      cases hz
      obtain ⟨bs, hbl, hev, hcap⟩ := capAll_ok R hl (fun c hc => List.all_eq_true.1 hk _ (List.mem_map.2 ⟨c, hc, rfl⟩))
      have hf0 : first = #[] := by
        have : first.toList = [] := by simpa using hfirst
        exact Array.toList_eq_nil_iff.1 this
      have R1 := R.seal (l.map fun c => (c.1, c.2.1)) (fun c hc => by
        obtain ⟨c', hc', rfl⟩ := List.mem_map.1 hc
        obtain ⟨i, hi, rfl⟩ := List.getElem_of_mem hc'
        obtain ⟨x, hx⟩ := hcap i hi (by omega)
        exact hx.box)
      have e1 : (l.map fun c => (c.1, c.2.1)).map (fun c => (c.1, (⟨true, c.2.as⟩ : Bx))) = l.map fun c => (c.1, (⟨true, c.2.1.as⟩ : Bx)) := by simp
      rw [e1] at R1
      have hdefs : ∀ i (h : i < l.length), ∀ x ∈ ν (bC l[i].1), x ≠ .undef := fun i hi x hx e => by
        have h1 := List.all_eq_true.1 hdef (ν (bC l[i].1)) (List.mem_map.2 ⟨.c (bC l[i].1), List.mem_map.2 ⟨l[i], List.getElem_mem hi, rfl⟩, rfl⟩)
        have h2 := List.all_eq_true.1 h1 x hx
        rw [e] at h2
        cases h2
      have hrd : Rd P (L.seal ((l.map fun c => (c.1, c.2.1)).map (·.1))).S w (.clo g ((l.map fun c => ν (bC c.1)).map .agg)) (.func (.func g) #[] (bs.map fun b => Value.pointer (some ⟨b, 0, none⟩)).toArray) := by
        have hbox : ∀ i (h : i < bs.length) (h' : i < l.length), ∃ C ty fz, w.heap[bs[i]]? = some (.cells C ty fz) ∧ (fz.2 ≤ fz.1 ∨ C.size ≤ fz.1) ∧ RAs P L w l[i].2.1.as (ν (bC l[i].1)) C.toList := fun i hi hi' => by
          obtain ⟨x, hx⟩ := hcap i hi' hi
          obtain ⟨ro, h1⟩ := hx.lay
          obtain ⟨_, k⟩ := R.boxes _ _ _ h1 _ hx.box
          exact k.cells
        refine Rd.clo g (l.map fun c => ν (bC c.1)) bs (fun i j => match w.heap[bs.getD i 0]? with
          | some (.cells C _ _) => C.toList.getD j undef
          | _ => undef) (by simp [hbl]) (fun i hi => ?_) (fun i hi hi' => ?_) (fun i hi j hj => ?_) (fun i hi j hj => ?_)
        · obtain ⟨x, hx⟩ := hcap i (by omega) hi
          obtain ⟨ro, h1⟩ := hx.lay
          exact .inr ⟨l[i].1, by simp only [List.map_map]; exact List.mem_map.2 ⟨l[i], List.getElem_mem _, rfl⟩, ro, h1⟩
        · obtain ⟨C, ty, fz, h1, h2, h3⟩ := hbox i hi (by omega)
          refine ⟨C, ty, fz, h1, h2, ?_⟩
          have e : bs.getD i 0 = bs[i] := by simp [List.getD_eq_getElem?_getD, hi]
          have hlen : C.toList.length = (ν (bC l[i].1)).length := by rw [h3.2.1, h3.1]
          simp only [e, h1, List.getElem_map]
          apply List.ext_getElem
          · simpa using hlen
          · intro j hj hj'
            simp only [List.getElem_map, List.getElem_range]
            simp [List.getD_eq_getElem?_getD, show j < C.size by simpa using hj]
        · simp only [List.getElem_map] at hj ⊢
          exact hdefs i (by simpa using hi) _ (List.getElem_mem _)
        · have hil : i < l.length := by simpa using hi
          obtain ⟨C, ty, fz, h1, h2, h3⟩ := hbox i (by omega) hil
          have e : bs.getD i 0 = bs[i] := by simp [List.getD_eq_getElem?_getD, show i < bs.length by omega]
          simp only [List.getElem_map] at hj ⊢
          have hjC : j < C.toList.length := by rw [← h3.1, ← h3.2.1]; exact hj
          have hja : j < l[i].2.1.as.length := by rw [← h3.2.1]; exact hj
          obtain ⟨x, hx⟩ := hcap i hil (by omega)
          have h4 := h3.2.2 j hja hj hjC
          have h5 := okCap_rd (List.all_eq_true.1 hx.ok _ (List.getElem_mem hja)) h4 (hdefs i hil _ (List.getElem_mem hj)) R.fs
          have e2 : C.toList.getD j undef = C.toList[j] := by simp [List.getD_eq_getElem?_getD, show j < C.size by simpa using hjC]
          simp only [e, h1, e2]
          exact h5.mono (fun b hb => .inl hb) (fun _ _ => rfl)
      have hcl : captured.map a.eval = (bs.map fun b => Value.pointer (some ⟨b, 0, none⟩)).toArray := by
        apply Array.ext'
        rw [Array.toList_map, hev]
      refine OpG.value (v := .func (.func g) #[] (bs.map fun b => Value.pointer (some ⟨b, 0, none⟩)).toArray) (w' := w) (by simp [execOp, ho, hf0, hcl, Instr.makeFunc]) ?_
      rw [hod]
      have e3 : (List.map (fun x => V.agg x) (List.map (VArg.get ν) (List.map (fun c => VArg.c (bC c.1)) l))) = ((l.map fun c => ν (bC c.1)).map .agg) := by simp [VArg.get, Function.comp_def]
      refine ⟨L.seal ((l.map fun c => (c.1, c.2.1)).map (·.1)), ?_⟩
      have hra : RA P (L.seal ((l.map fun c => (c.1, c.2.1)).map (·.1))) w (.v .lent) (.clo g ((l.map fun c => ν (bC c.1)).map .agg)) (.func (.func g) #[] (bs.map fun b => Value.pointer (some ⟨b, 0, none⟩)).toArray) := .inr hrd
      have R2 := R1.put hd (h := .one (.v .lent)) (xs := [.clo g ((l.map fun c => ν (bC c.1)).map .agg)]) (v := .func (.func g) #[] (bs.map fun b => Value.pointer (some ⟨b, 0, none⟩)).toArray) (RSl.one (RAs.one hra))
      rw [e3]
      simpa only [Eff.ap, ap_sk, Al.sk_nil] using R2
    · cases hz
  · rw [out_no] at h; exact h.elim
end
end Go.Proofs.YtlhcgiegganbpaaDoorVs
