/-
  Struct literals, stores into rows, rows made. Conditions: each lemma's own premises.
-/
import Derived.Test.YtogfkdpgkloljaaDoorVsK
import Derived.Great.BuildSlice
set_option linter.unusedVariables false
set_option linter.unusedSimpArgs false
namespace Go.Proofs.YtogfkdpgkloljaaDoorVs
section
variable {P : Program} {w0 : World} {M : Nat → Prop} {N : Fr} {α : Al} {ν ν' : Env} {L : Lay} {a : Act} {w w' : World} {Φ : Funs} {o : Oper} {d : Nat} {E : Eff}

/-! #### struct literals -/
theorem fill_one {place : Nat → Option (Nat × Nat)} {i off n : Nat} {v : Value} {cells : Array Value} {r : List (Nat × Value)} (hp : place i = some (off, n)) (hv : v.cells.size = n) (hl : off + n ≤ cells.size) :
    Instr.fill place cells ((i, v) :: r) = Instr.fill place (cells.toList.take off ++ v.cells.toList ++ cells.toList.drop (off + n)).toArray r := by
  have hcells : (v.cells.zipIdx.foldl (fun cs (x : Value × Nat) => cs.setIfInBounds (off + x.2) x.1) cells) = (cells.toList.take off ++ v.cells.toList ++ cells.toList.drop (off + n)).toArray := by
    rw [← Array.foldl_toList, Array.toList_zipIdx]
    obtain ⟨h1, h2⟩ := Go.Great.foldl_set off v.cells.toList 0 cells
    apply Array.ext_getElem?
    intro k
    rw [h2 k]
    simp only [Nat.add_zero, Array.length_toList, hv, List.getElem?_toArray]
    by_cases hk : off ≤ k ∧ k < off + n ∧ k < cells.size
    · rw [if_pos hk]
      rw [List.getElem?_append_left (by simp; omega), List.getElem?_append_right (by simp; omega)]
      simp [Nat.min_eq_left (show off ≤ cells.size by omega)]
    · rw [if_neg hk]
      by_cases h3 : k < off
      · rw [List.getElem?_append_left (by simp; omega), List.getElem?_append_left (by simp; omega), List.getElem?_take, if_pos h3]
        simp
      · by_cases h4 : off + n ≤ k
        · rw [List.getElem?_append_right (by simp; omega)]
          simp only [List.length_append, List.length_take, Array.length_toList, hv, List.getElem?_drop, Nat.min_eq_left (show off ≤ cells.size by omega)]
          rw [show off + n + (k - (off + n)) = k by omega]
          simp
        · have : cells.size ≤ k := by omega
          omega
  conv => lhs; unfold Instr.fill
  rw [hp]
  simp only
  rw [if_neg (by simp [hv]; omega)]
  exact congrArg (fun z => Instr.fill place z r) hcells
theorem RPcs.splice {l : List APc} {cs : List Value} (H : RPcs P L w ν l cs) {as : List At} {g : VArg} {vs : List Value} (Hv : RPcs P L w ν (apc as g) vs) (off n : Nat) (hn : as.length = n) (hl : off + n ≤ l.length) :
    RPcs P L w ν (l.take off ++ apc as g ++ l.drop (off + n)) (cs.take off ++ vs ++ cs.drop (off + n)) := by
  obtain ⟨h1, h2⟩ := H
  obtain ⟨h3, h4⟩ := Hv
  rw [apc_len] at h3
  refine ⟨by simp [apc_len]; omega, fun i hi hi' x hx hne => ?_⟩
  simp only [List.length_append, List.length_take, List.length_drop, apc_len] at hi hi'
  by_cases hA : i < off
  · have e1 : (l.take off ++ apc as g ++ l.drop (off + n))[i]'(by simp [apc_len]; omega) = l[i] := by
      rw [List.getElem_append_left (by simp [apc_len]; omega), List.getElem_append_left (by simp; omega)]
      simp
    have e2 : (cs.take off ++ vs ++ cs.drop (off + n))[i]'(by simp; omega) = cs[i] := by
      rw [List.getElem_append_left (by simp; omega), List.getElem_append_left (by simp; omega)]
      simp
    rw [e1] at hx ⊢
    rw [e2]
    exact h2 i (by omega) (by omega) x hx hne
  · by_cases hB : i < off + n
    · have e1 : (l.take off ++ apc as g ++ l.drop (off + n))[i]'(by simp [apc_len]; omega) = (apc as g)[i - off]'(by rw [apc_len]; omega) := by
        rw [List.getElem_append_left (by simp [apc_len]; omega), List.getElem_append_right (by simp; omega)]
        simp [Nat.min_eq_left (show off ≤ l.length by omega)]
      have e2 : (cs.take off ++ vs ++ cs.drop (off + n))[i]'(by simp; omega) = vs[i - off]'(by omega) := by
        rw [List.getElem_append_left (by simp; omega), List.getElem_append_right (by simp; omega)]
        simp [Nat.min_eq_left (show off ≤ cs.length by omega)]
      rw [e1] at hx ⊢
      rw [e2]
      exact h4 (i - off) (by rw [apc_len]; omega) (by omega) x hx hne
    · have e1 : (l.take off ++ apc as g ++ l.drop (off + n))[i]'(by simp [apc_len]; omega) = l[i]'(by omega) := by
        rw [List.getElem_append_right (by simp [apc_len]; omega)]
        simp only [List.length_append, List.length_take, apc_len, List.getElem_drop]
        congr 1; omega
      have e2 : (cs.take off ++ vs ++ cs.drop (off + n))[i]'(by simp; omega) = cs[i]'(by omega) := by
        rw [List.getElem_append_right (by simp; omega)]
        simp only [List.length_append, List.length_take, List.getElem_drop]
        congr 1; omega
      rw [e1] at hx ⊢
      rw [e2]
      exact h2 i (by omega) (by omega) x hx hne
theorem dfn_ne (R : Rel P w0 M N α ν L a w) {s : Seg} {b : Bool} {as : List At} {c : Value} (hf : s.sh.flat = some (b, as)) (hm : as.all memAt = true) (H : RSl P L w s.sh (s.arg.get ν) c) (hd : (dfnOf s).all (defAt ν) = true) (hlit : ∀ vs, s.arg = .lit vs → ∀ x ∈ vs, x ≠ .undef) :
    c.cells.size = as.length ∧ RPcs P L w ν (apc as s.arg) c.cells.toList := by
  obtain ⟨hl1, hl2, hat⟩ := memAt_live hf hm
  have hlen := atoms_len H hl1 hl2
  rw [hat] at hlen
  cases hsh : s.sh with
  | agg as' =>
    rw [hsh] at hf H
    cases hf
    obtain ⟨cs, rfl, hr⟩ := H
    exact ⟨by simpa [Value.cells] using hr.1.symm, RAs.pcs hr⟩
  | tup ps => rw [hsh] at hf; cases hf
  | one a1 =>
    have hne : ∀ x ∈ s.arg.get ν, x ≠ .undef := by
      cases harg : s.arg with
      | lit vs => exact hlit vs harg
      | c i =>
        rw [hsh] at hf; cases hf
        simp only [dfnOf, hsh, harg, List.all_cons, List.all_nil, Bool.and_true, defAt] at hd
        rw [harg, get_c] at hlen
        obtain ⟨x, hx⟩ := List.length_eq_one_iff.1 (by simpa using hlen)
        intro y hy e
        subst e
        rw [get_c, hx] at hy
        have : x = .undef := by simp only [List.mem_singleton] at hy; exact hy.symm
        rw [hx, this] at hd
        simp at hd
    obtain ⟨hr, _⟩ := flat_ok R hf hm hne H
    exact ⟨by simpa using hr.1.symm, RAs.pcs hr⟩
theorem zV_ne {v : Value} {t : TypeId} {at1 : At} {y : V} (h : zV P v t = some (at1, y)) : y ≠ .undef := by
  unfold zV at h
  split at h <;> simp_all <;> (try (obtain ⟨_, _, _, rfl⟩ := h; simp)) <;> (try (obtain ⟨_, rfl⟩ := h; simp))
theorem opd_lit {x : Operand} {ty : TypeId} {s : Seg} (h : RM.out α (opd P x ty) s) : ∀ vs, s.arg = .lit vs → ∀ x ∈ vs, x ≠ .undef := by
  unfold opd at h
  split at h
  · rw [out_sl, out_ok] at h; subst h; intro vs e; cases e
  · split at h
    · rename_i hz
      rw [out_ok] at h; subst h
      intro vs e
      cases e
      intro x hx
      simp only [List.mem_singleton] at hx
      subst hx
      exact zV_ne hz
    · rw [out_no] at h; exact h.elim
  · rw [out_no] at h; exact h.elim
theorem buildL_ok (R : Rel P w0 M N α ν L a w) {t : TypeId} {fs : Array Field} {places : List (Nat × Nat)} (hu : P.underlying t = some (.struct fs)) (hp : placesOf P fs.toList = some places) : ∀ (parts : List (Nat × Operand)) {l l' : List APc} {ds : List (Nat × Nat)} {cs : List Value},
    RM.out α (buildL P t parts l) (l', ds) → ds.all (defAt ν) = true → RPcs P L w ν l cs →
    ∃ cs', Instr.fill (places.toArray[·]?) cs.toArray (parts.map fun p => (p.1, a.eval p.2)) = some cs'.toArray ∧ RPcs P L w ν l' cs'
  | [], l, l', ds, cs, h, hd, H => by
    rw [buildL, out_ok] at h
    cases h
    exact ⟨cs, rfl, H⟩
  | (i, x) :: r, l, l', ds, cs, h, hd, H => by
    simp only [buildL, out_bind, out_opt, out_need, out_ok, Bool.and_eq_true, beq_iff_eq, decide_eq_true_eq] at h
    obtain ⟨⟨off, n, ag⟩, hf, ft, hft, s, hs, ⟨b, as⟩, hfl, _, ⟨⟨hn, hle⟩, hm⟩, ⟨l2, ds2⟩, hb, he⟩ := h
    cases he
    simp only [List.all_append, Bool.and_eq_true] at hd
    obtain ⟨fs', g, hu', hg, hsz, hag, hoff⟩ := fieldOf_ok hf
    rw [hu] at hu'
    cases hu'
    have hpl : (places.toArray[i]?) = some (off, n) := by
      have go : ∀ (fs : List Field) (places : List (Nat × Nat)) (i : Nat) (g : Field), placesOf P fs = some places → fs[i]? = some g → szOf P g.type = some n → places[i]? = some (g.offset, n) := by
        intro fs
        induction fs with
        | nil => intro pl i g _ h; simp at h
        | cons f fs ih =>
          intro pl i g h1 h2 h3
          simp only [placesOf, List.mapM_cons, Option.bind_eq_bind, Option.bind_eq_some_iff, Option.pure_def, Option.some.injEq, Option.map_eq_some_iff] at h1
          obtain ⟨p, ⟨ti, hti, rfl⟩, q, hq, rfl⟩ := h1
          cases i with
          | zero =>
            simp only [List.getElem?_cons_zero, Option.some.injEq] at h2 ⊢
            subst h2
            simp only [szOf, hti, Option.map_some, Option.some.injEq] at h3
            rw [h3]
          | succ i => simpa using ih q i g hq (by simpa using h2) h3
      have := go fs.toList places i g hp (by simpa using hg) hsz
      simpa [hoff] using this
    have Hx := opd_ok R hs
    obtain ⟨hcs, hpc⟩ := dfn_ne R hfl hm Hx hd.1 (opd_lit hs)
    have hcl : l.length = cs.length := H.1
    simp only at hn hle
    have := RPcs.splice H hpc off n hn hle
    obtain ⟨cs', h1, h2⟩ := buildL_ok R hu hp r hb hd.2 this
    refine ⟨cs', ?_, h2⟩
    simp only [List.map_cons]
    rw [fill_one hpl (by rw [hcs]; exact hn) (by simp; omega)]
    exact h1
theorem copBuild_ok (R : Rel P w0 M N α ν L a w) (hd : N.W d) {t : TypeId} {parts : Array (Nat × Operand)} (ho : o.op = .build t parts) (hod : o.dst = some d) (h : RM.out α (copBuild P d t parts) E) (hv : runIs Φ E.vis ν = some ν') :
    OpG P o a w (Goal P w0 M N (E.ap α (some d)) ν') := by
  simp only [copBuild] at h
  split at h
  · rename_i fs hu
    simp only [out_bind, out_opt, out_need, out_ok] at h
    obtain ⟨_, hp, ⟨as, vs⟩, hz, ⟨l, ds⟩, hb, _, hcl, rfl⟩ := h
    obtain ⟨places, hp⟩ := Option.isSome_iff_exists.1 hp
    obtain ⟨i, z, hi, hz2, hra, _⟩ := zeroOf_ok (L := L) (w := w) hz
    have hrun1 := run_ins1 hv
    have hdf := VI.inv_dfn hrun1
    obtain ⟨cs', h1, h2⟩ := buildL_ok R hu hp parts.toList hb hdf (RAs.pcs (g := .lit vs) (ν := ν) hra)
    have hrun2 : (viG (ownT (tokS d 0) l ++ [(sC d, ownP l)]) [] []).run Φ ν = some ν' := by
      unfold VI.run at hrun1 ⊢
      split at hrun1
      · rename_i hc
        rw [if_pos ⟨hc.1, by rfl⟩]
        exact hrun1
      · cases hrun1
    obtain ⟨_, _, tv, ls, h3, h4, h5, h6, rfl⟩ := viG_two hrun2
    obtain ⟨xs, rfl⟩ : ∃ xs, ls = [xs] := by
      match ls, h4 with
      | [x], _ => exact ⟨x, rfl⟩
    have hp1 := h6 0 (by simp) (by simp)
    simp only [List.getElem_cons_zero] at hp1
    obtain ⟨L1, R1, hE, hbx, hF, hS, hRA⟩ := own_ok R (tokS d 0) l cs' h2 hcl tv h3 h5
    have hbuilt : P.built t (parts.map fun (i, x) => (i, a.eval x)).toList = some cs'.toArray := by
      unfold Program.built
      rw [hi, hu]
      simp only [hz2]
      have hp' : (fs.toList.mapM fun f => (P.info? f.type).map fun i => (f.offset, i.size)) = some places := hp
      rw [hp']
      simpa using h1
    refine OpG.value (v := .agg cs'.toArray) (w' := w) (by simp [execOp, ho, run_build w t _ _ hbuilt]) ?_
    rw [hod]
    simp only [Eff.ap, Al.setBs, sk_setBs]
    exact ⟨L1, R1.put hd ⟨cs'.toArray, rfl, by simpa using hRA xs hp1⟩⟩
  · rw [out_no] at h; exact h.elim
end
end Go.Proofs.YtogfkdpgkloljaaDoorVs
