/-
  Stores, literals of structs. Conditions: each lemma's own premises.
-/
import Derived.Test.YtogfkdpgkloljaaDoorVsJ
set_option linter.unusedVariables false
set_option linter.unusedSimpArgs false
namespace Go.Proofs.YtogfkdpgkloljaaDoorVs
section
variable {P : Program} {w0 : World} {M : Nat → Prop} {N : Fr} {α : Al} {ν ν' : Env} {L : Lay} {a : Act} {w w' : World} {Φ : Funs} {o : Oper} {d : Nat} {E : Eff}

theorem run_storeCells_fz (P : Program) (g q : Nat) (t : TypeId) (fz : Nat × Nat) : ∀ (vs : List Value) (i : Nat) (cur : Array Value) (w : World), w.heap[g]? = some (.cells cur t fz) → (fz.2 ≤ fz.1 ∨ cur.size ≤ fz.1) → q + i + vs.length ≤ cur.size → (∀ v ∈ vs, v.oneCell' = true) →
    (storeCells ⟨g, q, none⟩ vs i).run P w = .ok () (w.setRow g (cur.toList.take (q + i) ++ vs ++ cur.toList.drop (q + i + vs.length)).toArray)
  | [], i, cur, w, hg, _, _, _ => by
    simp only [storeCells, List.append_nil, List.length_nil, Nat.add_zero, List.take_append_drop, Array.toArray_toList]
    rw [setRow_self w g cur t fz hg]
    rfl
  | v :: rest, i, cur, w, hg, hz, hl, h1 => by
    have hi : q + i < cur.size := by simp at hl; omega
    have hcell : w.cell? ⟨g, q + i, none⟩ = some cur[q + i] := by simp [World.cell?, hg, hi]
    have hfro : w.frozen? ⟨g, q + i, none⟩ = false := by
      obtain ⟨lo, hi'⟩ := fz
      simp only [World.frozen?, hg, Bool.and_eq_false_iff, decide_eq_false_iff_not]
      simp only at hz
      omega
    have hst : (store ((⟨g, q, none⟩ : Addr).add i) v).run P w = .ok () (w.setRow g (cur.setIfInBounds (q + i) v)) := by
      rw [add_plain, run_store P w _ v _ (h1 v (by simp)), hcell]
      simp [hfro, setCell_eq_setRow w g (q + i) cur t fz v hg]
    have ih := run_storeCells_fz P g q t fz rest (i + 1) (cur.setIfInBounds (q + i) v) (w.setRow g (cur.setIfInBounds (q + i) v)) (setRow_heap w g cur _ t _ hg) (by simpa using hz) (by simp at hl ⊢; omega) (fun x hx => h1 x (by simp [hx]))
    simp only [storeCells, Sem.run_bind, hst, Result.andThen_ok, ih, setRow_setRow]
    congr 3
    have e := list_seg_step cur.toList (q + i) v rest (by simp at hl ⊢; omega)
    simpa [Array.toList_setIfInBounds, Nat.add_assoc] using e
theorem run_storeVar_at {t : TypeId} {b q n : Nat} {v : Value} {C : Array Value} {ty : TypeId} {fz : Nat × Nat} (hsz : szOf P t = some n) (hv : v.cells.size = n) (hh : w.heap[b]? = some (.cells C ty fz)) (hz : fz.2 ≤ fz.1 ∨ C.size ≤ fz.1) (hl : q + n ≤ C.size)
    (h1 : ∀ c ∈ v.cells.toList, c.oneCell' = true) : (storeVar t ⟨b, q, none⟩ v).run P w = .ok () (w.setRow b (C.toList.take q ++ v.cells.toList ++ C.toList.drop (q + n)).toArray) := by
  have := run_storeCells_fz P b q ty fz v.cells.toList 0 C w hh hz (by simp [hv]; omega) h1
  simp only [Nat.add_zero, Array.length_toList, hv] at this
  simp [storeVar, run_sizeOf hsz, hv, this]
theorem Pieces.append {p q : List Pc} {xs : List V} (h : Pieces ν (p ++ q) xs) : Pieces ν p (xs.take p.length) ∧ Pieces ν q (xs.drop p.length) := by
  obtain ⟨h1, h2⟩ := h
  simp only [List.length_append] at h1
  refine ⟨⟨by simp; omega, fun j hj hj' => ?_⟩, ⟨by simp; omega, fun j hj hj' => ?_⟩⟩
  · have := h2 j (by simp; omega) (by omega)
    rw [List.getElem_append_left hj] at this
    simpa using this
  · have := h2 (p.length + j) (by simp; omega) (by omega)
    rw [List.getElem_append_right (by omega)] at this
    simpa using this
theorem RAs.append {as as' : List At} {xs xs' : List V} {cs cs' : List Value} (h : RAs P L w as xs cs) (h' : RAs P L w as' xs' cs') : RAs P L w (as ++ as') (xs ++ xs') (cs ++ cs') := by
  obtain ⟨h1, h2, h3⟩ := h
  obtain ⟨h4, h5, h6⟩ := h'
  refine ⟨by simp [h1, h4], by simp [h2, h5], fun i h7 h8 h9 => ?_⟩
  simp only [List.length_append] at h7 h8 h9
  by_cases hi : i < as.length
  · have := h3 i hi (by omega) (by omega)
    simp [List.getElem_append, hi, show i < xs.length by omega, show i < cs.length by omega, this]
  · have := h6 (i - as.length) (by omega) (by omega) (by omega)
    simpa [List.getElem_append, hi, show ¬ i < xs.length by omega, show ¬ i < cs.length by omega, h2, ← h1] using this
theorem ownA_len (base : Nat) (l : List APc) : (ownA base l).length = l.length := by simp [ownA]
theorem ownP_len (l : List APc) : (ownP l).length = l.length := by simp [ownP]
theorem clean_ids {ks : List Nat} {as : List At} (h : clean ks as = true) : as.map (At.sk [] ks) = as := map_sk_id fun a ha => by simpa using List.all_eq_true.1 h a ha
theorem upds_other (c : Nat) : ∀ (cs : List Nat) (xs : List (List V)) (ν : Env), c ∉ cs → ν.upds cs xs c = ν c
  | [], xs, ν, _ => by cases xs <;> rfl
  | k :: cs, [], ν, _ => rfl
  | k :: cs, x :: xs, ν, h => by
    simp only [List.mem_cons, not_or] at h
    simp only [Env.upds]
    rw [upds_other c cs xs _ h.2, upd_ne h.1]
theorem ownT_not (base : Nat) (l : List APc) (c : Nat) (h : c % 3 ≠ 2) : c ∉ (ownT base l).map (·.1) := by
  intro hm
  obtain ⟨p, hp, rfl⟩ := List.mem_map.1 hm
  obtain ⟨q, hq, rfl⟩ := List.mem_map.1 hp
  simp only [tC] at h
  omega
theorem copStore_ok1 (R : Rel P w0 M N α ν L a w) {x : Operand} {s sy : Seg} {v : Value} {t : TypeId} {n u off i bs : Nat} {b0 : Bool} {as : List At} {bx : Bx} (hrun : ∀ b, a.eval x = .pointer (some ⟨b, off, none⟩) → (execOp a.eval o).run P w = ((storeVar t ⟨b, off, none⟩ v).run P w).andThen fun _ w => .ok .skip w) (hod : o.dst = none)
    (hs : s.sh = .one (.ptr u off)) (hg : s.arg = .c i) (H : RSl P L w s.sh (s.arg.get ν) (a.eval x)) (Hy : RSl P L w sy.sh (sy.arg.get ν) v) (hsz : szOf P t = some n) (hf : sy.sh.flat = some (b0, as)) (hn : as.length = n) (hm : as.all memAt = true)
    (hbx : α.box u = some bx) (hle : off + n ≤ bx.as.length) (hro : bx.ro = false) (hcl : clean (ownK (bs) (apc as sy.arg)) as = true) (hcl2 : clean (ownK (bs) (apc as sy.arg)) bx.as = true)
    (hv : runIs Φ [viG (ownT (bs) (apc as sy.arg) ++ [(bC u, allPc (.c (bC u)) off ++ ownP (apc as sy.arg) ++ (List.range (bx.as.length - (off + n))).map fun j => (.c (bC u), off + n + j))]) [(i, 0)] []] ν = some ν') :
    OpG P o a w (Goal P w0 M N (((α.sk [] (ownK (bs) (apc as sy.arg)))).setB u ⟨false, bx.as.take off ++ ownA (bs) (apc as sy.arg) ++ bx.as.drop (off + n)⟩) ν') := by
  obtain ⟨hk, _, tv, ls, h1, h2, h3, h4, rfl⟩ := viG_two (run_ins1 hv)
  obtain ⟨xs, rfl⟩ : ∃ xs, ls = [xs] := by
    match ls, h2 with
    | [x], _ => exact ⟨x, rfl⟩
  have hp := h4 0 (by simp) (by simp)
  simp only [List.getElem_cons_zero] at hp
  obtain ⟨hp12, hp3⟩ := hp.append
  obtain ⟨hp1, hp2⟩ := hp12.append
  have hlA : (allPc (VArg.c (bC u)) off).length = off := by simp [allPc]
  have hlO : (ownP (apc as sy.arg)).length = n := by rw [ownP_len, apc_len, hn]
  simp only [List.length_append, hlA, hlO] at hp1 hp2 hp3
  rw [hs, hg] at H
  obtain ⟨y, hy, hr⟩ := RAs.single H
  have hun := unit_chk hk (List.mem_singleton.2 rfl) hy rfl
  subst hun
  rcases hr with hr | ⟨_, b, ro, hb, hc⟩
  · cases hr
  obtain ⟨hro2, hbok⟩ := R.boxes u b ro hb bx hbx
  rw [hro] at hro2
  subst hro2
  obtain ⟨C, ty, fz, hh, hfz, hra⟩ := hbok.cells
  have hCl : bx.as.length = C.size := by simpa using hra.1
  obtain ⟨hl1, hl2, hat⟩ := memAt_live hf hm
  have hlen := atoms_len Hy hl1 hl2
  rw [hat] at hlen
  have hne := apc_ne hlen (pcs_ne h1 h3 hp2)
  obtain ⟨hrv, hone⟩ := flat_ok R hf hm hne Hy
  have hvs : v.cells.size = n := by have := hrv.1; simp at this; omega
  obtain ⟨L1, R1, hE, hbx1, hF, hS, hRA⟩ := own_ok R (bs) (apc as sy.arg) v.cells.toList (RAs.pcs hrv) (by rw [apc_fst]; exact hcl) tv h1 h3
  have hra2 := hRA _ hp2
  have hfit : off + n ≤ C.size := by omega
  have hst := run_storeVar_at (P := P) (w := w) (v := v) hsz hvs hh hfz hfit hone
  refine OpG.skip (by rw [hrun b hc, hst]; rfl) ?_
  rw [hod]
  have hW : WStep w (w.setRow b (C.toList.take off ++ v.cells.toList ++ C.toList.drop (off + n)).toArray) (fun g => g = b) := WStep.setRow w b _ _ rfl
  have hb1 : L1.box u = some (b, false) := by rw [hbx1]; exact hb
  have hE2 := R1.boxExt u b [] hW (.inr hb1)
  have hra3 := hra.ext hE
  rw [clean_ids hcl2] at hra3
  have e1 := (hra3.sub 0 off (by omega)).ext hE2
  have e2 := hra2.ext hE2
  have e3 := (hra3.sub (off + n) (bx.as.length - (off + n)) (by omega)).ext hE2
  have hid : ∀ l : List At, l.map (At.sk [] []) = l := fun l => map_sk_id fun a _ => by rw [← sk_eq]; exact sk_nil a
  rw [hid] at e1 e2 e3
  have e4 := (e1.append e2).append e3
  have x1 : ((ν (bC u)).drop 0).take off = (xs.take (off + n)).take off := by
    have h5 : Pieces ν ((List.range off).map fun j => (VArg.c (bC u), 0 + j)) ((xs.take (off + n)).take off) := by simpa [allPc] using hp1
    rcases h5.range with ⟨h, _⟩ | ⟨h0, h⟩
    · rw [h]; rfl
    · rw [h]; simp [h0]
  have x3 : ((ν (bC u)).drop (off + n)).take (bx.as.length - (off + n)) = xs.drop (off + n) := by
    rcases hp3.range with ⟨h, _⟩ | ⟨h0, h⟩
    · rw [h]; rfl
    · rw [h]; simp [h0]
  have xall : ((ν (bC u)).drop 0).take off ++ (xs.take (off + n)).drop off ++ ((ν (bC u)).drop (off + n)).take (bx.as.length - (off + n)) = xs := by
    rw [x1, x3, List.take_append_drop, List.take_append_drop]
  rw [xall] at e4
  have hbox : BoxOK P (L1.withBox u b) (w.setRow b (C.toList.take off ++ v.cells.toList ++ C.toList.drop (off + n)).toArray) b (bx.as.take off ++ ownA (bs) (apc as sy.arg) ++ bx.as.drop (off + n)) xs := by
    refine ⟨_, ty, fz, setRow_heap w b C _ ty fz hh, ?_, ?_⟩
    · rcases hfz with h | h
      · exact .inl h
      · right
        simp only [List.size_toArray, List.length_append, List.length_take, List.length_drop, Array.length_toList]
        omega
    · have t1 : (bx.as.drop 0).take off = bx.as.take off := by simp
      have t2 : (bx.as.drop (off + n)).take (bx.as.length - (off + n)) = bx.as.drop (off + n) := List.take_of_length_le (by simp)
      have t3 : (C.toList.drop 0).take off = C.toList.take off := by simp
      have t4 : (C.toList.drop (off + n)).take (bx.as.length - (off + n)) = C.toList.drop (off + n) := List.take_of_length_le (by simp; omega)
      rw [t1, t2, t3, t4] at e4
      simpa using e4
  have R2 := R1.boxStep u b _ xs [] hW (.inr hb1) hbox
  rw [sk_sk, List.append_nil] at R2
  exact ⟨_, R2⟩
end
end Go.Proofs.YtogfkdpgkloljaaDoorVs
