/-
  What keeps the relation between values and memory. Conditions: each lemma's own premises.
-/
import Derived.Test.YtogfkdpgkloljaaDoorVsB
set_option linter.unusedVariables false
set_option linter.unusedSimpArgs false
namespace Go.Proofs.YtogfkdpgkloljaaDoorVs

structure Ext (L L' : Lay) (w w' : World) (ks st : List Nat) : Prop where
  F : ∀ b, L.F b → L'.F b
  S : ∀ b, L.S b → L'.S b
  fs : ∀ b, L.F b → L.S b
  hS : ∀ b, L.S b → w'.heap[b]? = w.heap[b]?
  row : ∀ t r, tkK t ∉ ks → L.row t = some r → L'.row t = some r
  hrow : ∀ t r b, tkK t ∉ ks → t ∉ st → L.row t = some r → r.blk = some b → w'.heap[b]? = w.heap[b]?
  box : ∀ u b ro, bxK u ∉ ks → L.box u = some (b, ro) → L'.box u = some (b, ro)
theorem Ext.refl (L : Lay) (w : World) (h : ∀ b, L.F b → L.S b) (ks st : List Nat) : Ext L L w w ks st := ⟨fun _ h => h, fun _ h => h, h, fun _ _ => rfl, fun _ _ _ h => h, fun _ _ _ _ _ _ _ => rfl, fun _ _ _ _ h => h⟩

def At.sk (st ks : List Nat) (a : At) : At := (a.stale st).kill ks
theorem src_ext {L L' : Lay} {w w' : World} {ks st : List Nat} (E : Ext L L' w w' ks st) {s : Src} (h : ∀ t, s = .of t → t ∉ st ∧ tkK t ∉ ks) :
    (∀ b, L.src s b → L'.src s b) ∧ (∀ b, L.src s b → w'.heap[b]? = w.heap[b]?) := by
  cases s with
  | fz => exact ⟨E.F, fun b h => E.hS b (E.fs b h)⟩
  | lent => exact ⟨E.S, E.hS⟩
  | of t =>
    obtain ⟨h1, h2⟩ := h t rfl
    refine ⟨fun b hb => ?_, fun b hb => ?_⟩
    · rcases hb with hb | ⟨r, hr, hb⟩
      · exact .inl (E.S b hb)
      · exact .inr ⟨r, E.row t r h2 hr, hb⟩
    · rcases hb with hb | ⟨r, hr, hb⟩
      · exact E.hS b hb
      · exact E.hrow t r b h2 h1 hr hb
theorem ElAt.mono {P : Program} {S S' : Nat → Prop} {w w' : World} {b p : Nat} {x : V} (h : ElAt P S w b p x) (hb : S b) (hS : ∀ b, S b → S' b) (hw : ∀ b, S b → w'.heap[b]? = w.heap[b]?) : ElAt P S' w' b p x := by
  rcases h with ⟨ys, rfl, h⟩ | ⟨h1, c, h3, h4⟩
  · refine .inl ⟨ys, rfl, fun i hi => ?_⟩
    obtain ⟨c, hc, hr⟩ := h i hi
    exact ⟨c, by rw [cell_same (hw b hb)]; exact hc, hr.mono hS hw⟩
  · exact .inr ⟨h1, c, by rw [cell_same (hw b hb)]; exact h3, h4.mono hS hw⟩
theorem RA.gone {P : Program} {L : Lay} {w : World} {k : Nat} {x : V} {c : Value} : RA P L w (.gone k) x c := .inr trivial
theorem sk_v (st ks : List Nat) (s : Src) : (∃ k, At.sk st ks (.v s) = .gone k) ∨ (At.sk st ks (.v s) = .v s ∧ ∀ t, s = .of t → t ∉ st ∧ tkK t ∉ ks) := by
  cases s with
  | fz => exact .inr ⟨rfl, by simp⟩
  | lent => exact .inr ⟨rfl, by simp⟩
  | of t =>
    by_cases h1 : t ∈ st
    · exact .inl ⟨tkK t, by simp [At.sk, At.stale, At.kill, h1]⟩
    · by_cases h2 : tkK t ∈ ks
      · exact .inl ⟨tkK t, by simp [At.sk, At.stale, At.kill, h1, h2]⟩
      · exact .inr ⟨by simp [At.sk, At.stale, At.kill, h1, h2], fun t' e => by injection e with e; subst e; exact ⟨h1, h2⟩⟩
theorem sk_iel (st ks : List Nat) (s : Src) (j : Nat) : (∃ k, At.sk st ks (.iel s j) = .gone k) ∨ (At.sk st ks (.iel s j) = .iel s j ∧ ∀ t, s = .of t → t ∉ st ∧ tkK t ∉ ks) := by
  cases s with
  | fz => exact .inr ⟨rfl, by simp⟩
  | lent => exact .inr ⟨rfl, by simp⟩
  | of t =>
    by_cases h1 : t ∈ st
    · exact .inl ⟨tkK t, by simp [At.sk, At.stale, At.kill, h1]⟩
    · by_cases h2 : tkK t ∈ ks
      · exact .inl ⟨tkK t, by simp [At.sk, At.stale, At.kill, h1, h2]⟩
      · exact .inr ⟨by simp [At.sk, At.stale, At.kill, h1, h2], fun t' e => by injection e with e; subst e; exact ⟨h1, h2⟩⟩
theorem RA.ext {P : Program} {L L' : Lay} {w w' : World} {ks st : List Nat} (E : Ext L L' w w' ks st) {a : At} {x : V} {c : Value} (h : RA P L w a x c) : RA P L' w' (a.sk st ks) x c := by
  rcases h with h | h
  · exact .inl h
  cases a with
  | dead => exact .inr trivial
  | gone k => exact .inr trivial
  | v s =>
    rcases sk_v st ks s with ⟨k, e⟩ | ⟨e, h2⟩
    · rw [e]; exact RA.gone
    · rw [e]; exact .inr (h.mono (src_ext E h2).1 (src_ext E h2).2)
  | nils => exact .inr h
  | nilp => exact .inr h
  | own t =>
    by_cases h2 : tkK t ∈ ks
    · have : At.sk st ks (.own t) = .gone (tkK t) := by simp [At.sk, At.stale, At.kill, h2]
      rw [this]; exact RA.gone
    · have : At.sk st ks (.own t) = .own t := by simp [At.sk, At.stale, At.kill, h2]
      rw [this]; obtain ⟨h, r, hr, hc⟩ := h; exact .inr ⟨h, r, E.row t r h2 hr, hc⟩
  | ptr u off =>
    by_cases h2 : bxK u ∈ ks
    · have : At.sk st ks (.ptr u off) = .gone (bxK u) := by simp [At.sk, At.stale, At.kill, h2]
      rw [this]; exact RA.gone
    · have : At.sk st ks (.ptr u off) = .ptr u off := by simp [At.sk, At.stale, At.kill, h2]
      rw [this]; obtain ⟨h, b, ro, hr, hc⟩ := h; exact .inr ⟨h, b, ro, E.box u b ro h2 hr, hc⟩
  | opt u =>
    by_cases h2 : bxK u ∈ ks
    · have : At.sk st ks (.opt u) = .gone (bxK u) := by simp [At.sk, At.stale, At.kill, h2]
      rw [this]; exact RA.gone
    · have : At.sk st ks (.opt u) = .opt u := by simp [At.sk, At.stale, At.kill, h2]
      rw [this]
      rcases h with h | ⟨h, b, ro, hr, hc⟩
      · exact .inr (.inl h)
      · exact .inr (.inr ⟨h, b, ro, E.box u b ro h2 hr, hc⟩)
  | elt t j =>
    by_cases h2 : tkK t ∈ ks
    · have : At.sk st ks (.elt t j) = .gone (tkK t) := by simp [At.sk, At.stale, At.kill, h2]
      rw [this]; exact RA.gone
    · have : At.sk st ks (.elt t j) = .elt t j := by simp [At.sk, At.stale, At.kill, h2]
      rw [this]
      obtain ⟨r, i, b, o, n, cap, sz, h1, h3⟩ := h
      exact .inr ⟨r, i, b, o, n, cap, sz, E.row t r h2 h1, h3⟩
  | iel s j =>
    rcases sk_iel st ks s j with ⟨k, e⟩ | ⟨e, h2⟩
    · rw [e]; exact RA.gone
    · rw [e]
      obtain ⟨b, p, hs, hel, hc⟩ := h
      exact .inr ⟨b, p, (src_ext E h2).1 b hs, hel.mono hs (src_ext E h2).1 (src_ext E h2).2, hc⟩
theorem RAs.ext {P : Program} {L L' : Lay} {w w' : World} {ks st : List Nat} (E : Ext L L' w w' ks st) {as : List At} {xs : List V} {cs : List Value} (h : RAs P L w as xs cs) : RAs P L' w' (as.map (At.sk st ks)) xs cs :=
  ⟨by simpa using h.1, by simpa using h.2.1, fun i h0 h1 h2 => by
    have hi : i < as.length := by simpa using h0
    have := (h.2.2 i hi h1 h2).ext E
    simpa using this⟩
theorem RPart.ext {P : Program} {L L' : Lay} {w w' : World} {ks st : List Nat} (E : Ext L L' w w' ks st) {p : Bool × List At} {xs : List V} {c : Value} (h : RPart P L w p xs c) : RPart P L' w' (p.1, p.2.map (At.sk st ks)) xs c := by
  obtain ⟨b, as⟩ := p
  cases b with
  | false => exact RAs.ext E h
  | true => obtain ⟨cs, h1, h2⟩ := h; exact ⟨cs, h1, h2.ext E⟩
theorem RParts.ext {P : Program} {L L' : Lay} {w w' : World} {ks st : List Nat} (E : Ext L L' w w' ks st) : ∀ {ps : List (Bool × List At)} {xs : List V} {cs : List Value}, RParts P L w ps xs cs → RParts P L' w' (ps.map fun p => (p.1, p.2.map (At.sk st ks))) xs cs
  | [], xs, cs, h => h
  | p :: ps, xs, cs, ⟨x1, x2, c, c2, h1, h2, h3, h4⟩ => ⟨x1, x2, c, c2, h1, h2, h3.ext E, RParts.ext E h4⟩
theorem RSl.one {P : Program} {L : Lay} {w : World} {a : At} {xs : List V} {c : Value} (h : RAs P L w [a] xs [c]) : RSl P L w (.one a) xs c := by cases a <;> first | trivial | exact h
theorem RSl.ext {P : Program} {L L' : Lay} {w w' : World} {ks st : List Nat} (E : Ext L L' w w' ks st) {h : Sh} {xs : List V} {c : Value} (H : RSl P L w h xs c) : RSl P L' w' (h.map (At.sk st ks)) xs c := by
  cases h with
  | one a =>
    cases a with
    | dead => trivial
    | gone k => trivial
    | _ => exact RSl.one (by have := RAs.ext E H; simpa using this)
  | agg as => obtain ⟨cs, h1, h2⟩ := H; exact ⟨cs, h1, h2.ext E⟩
  | tup ps => obtain ⟨cs, h1, h2⟩ := H; exact ⟨cs, h1, RParts.ext E h2⟩
theorem BoxOK.ext {P : Program} {L L' : Lay} {w w' : World} {ks st : List Nat} (E : Ext L L' w w' ks st) {b : Nat} {as : List At} {xs : List V} (h : BoxOK P L w b as xs) (hb : w'.heap[b]? = w.heap[b]?) : BoxOK P L' w' b (as.map (At.sk st ks)) xs := by
  obtain ⟨C, ty, fz, h1, h2, h3⟩ := h.cells
  exact ⟨C, ty, fz, by rw [hb]; exact h1, h2, h3.ext E⟩
theorem RowOK.ext {P : Program} {F F' : Nat → Prop} {w w' : World} {r : Row} {x : List V} (h : RowOK P F w r x) (hF : ∀ b, F b → F' b) (hw : ∀ b, F b → w'.heap[b]? = w.heap[b]?) (hb : ∀ b, r.blk = some b → w'.heap[b]? = w.heap[b]?) : RowOK P F' w' r x := by
  obtain ⟨xs, rfl, h⟩ := h
  refine ⟨xs, rfl, ?_⟩
  rcases h with h | ⟨b, o, cap, sz, ag, C, fz, h⟩
  · exact .inl h
  · exact .inr ⟨b, o, cap, sz, ag, C, fz, h.hv, by rw [hb b (by rw [Row.blk, h.hv]; rfl)]; exact h.hh, h.hfz, h.hc, h.hm, h.hs, h.rd.mono hF hw⟩

/-! ### what is known, changed -/
theorem slot_map (f : At → At) (hf : f .dead = .dead) (α : Al) (s : Nat) : (α.map f).slot s = (α.slot s).map f := by
  simp only [Al.slot, Al.map, List.getD_eq_getElem?_getD, List.getElem?_map]
  cases α.sl[s]? <;> simp [Sh.map, hf]
theorem look_map (f : At → At) : ∀ (l : List (Nat × Bx)) (u : Nat), lookB (l.map fun p => (p.1, p.2.map f)) u = (lookB l u).map (Bx.map f)
  | [], u => rfl
  | (v, b) :: r, u => by
    simp only [List.map_cons, lookB]
    split
    · rfl
    · exact look_map f r u
theorem box_map (f : At → At) (α : Al) (u : Nat) : (α.map f).box u = (α.box u).map (Bx.map f) := look_map f α.bx u
theorem look_set (l : List (Nat × Bx)) (u : Nat) (b : Bx) (v : Nat) : lookB (setB l u b) v = if v = u then some b else lookB l v := by
  induction l with
  | nil => simp only [setB, lookB]; by_cases h : u = v <;> simp [h, eq_comm]
  | cons p r ih =>
    obtain ⟨k, c⟩ := p
    simp only [setB]
    by_cases h : k = u
    · subst h
      simp only [if_true, lookB]
      by_cases h2 : k = v
      · subst h2; simp
      · rw [if_neg h2, if_neg (fun e => h2 e.symm), if_neg h2]
    · simp only [h, if_false, lookB]
      by_cases h2 : k = v
      · subst h2; simp [h]
      · simp only [h2, if_false]; exact ih
theorem box_setB (α : Al) (u : Nat) (b : Bx) (v : Nat) : (α.setB u b).box v = if v = u then some b else α.box v := look_set α.bx u b v
theorem slot_setB (α : Al) (u : Nat) (b : Bx) (s : Nat) : (α.setB u b).slot s = α.slot s := rfl
theorem box_setS (α : Al) (s : Nat) (h : Sh) (v : Nat) : (α.setS s h).box v = α.box v := rfl
theorem slot_setS (α : Al) (s : Nat) (h : Sh) (v : Nat) : (α.setS s h).slot v = if v = s ∧ s < α.sl.length then h else α.slot v := by
  simp only [Al.slot, Al.setS, List.getD_eq_getElem?_getD, List.getElem?_set]
  by_cases h1 : s = v
  · subst h1
    by_cases h2 : s < α.sl.length <;> simp [h2]
  · rw [if_neg h1, if_neg (fun e => h1 e.1.symm)]
theorem sk_dead (st ks : List Nat) : At.sk st ks .dead = .dead := rfl
def Al.sk (st ks : List Nat) (α : Al) : Al := α.map (At.sk st ks)
theorem map_map (f g : At → At) (α : Al) : (α.map f).map g = α.map (fun a => g (f a)) := by
  simp only [Al.map, List.map_map]
  congr 1
  · refine List.map_congr_left fun h _ => ?_
    cases h <;> simp [Sh.map, Function.comp]
  · refine List.map_congr_left fun h _ => ?_
    simp [Bx.map, Function.comp]
theorem ap_sk (st ks : List Nat) (α : Al) : (α.map (At.stale st)).map (At.kill ks) = α.sk st ks := map_map _ _ _
theorem sk_nil (a : At) : a.sk [] [] = a := by cases a <;> first | rfl | (rename_i s; cases s <;> rfl) | (rename_i s j; cases s <;> rfl)
theorem map_id (α : Al) (f : At → At) (hf : ∀ a, f a = a) : α.map f = α := by
  have h1 : ∀ l : List At, l.map f = l := fun l => by induction l <;> simp [hf, *]
  obtain ⟨sl, bx⟩ := α
  simp only [Al.map, Al.mk.injEq]
  constructor
  · induction sl with
    | nil => rfl
    | cons h r ih =>
      have : h.map f = h := by
        cases h with
        | one a => simp [Sh.map, hf]
        | agg as => simp [Sh.map, h1]
        | tup ps => simp only [Sh.map]; congr 1; induction ps with
          | nil => rfl
          | cons p r ih => simp [h1, ih]
      simp [this, ih]
  · induction bx with
    | nil => rfl
    | cons p r ih => simp [Bx.map, h1, ih]
theorem Al.sk_nil (α : Al) : α.sk [] [] = α := map_id α _ YtogfkdpgkloljaaDoorVs.sk_nil
theorem kill_append (k1 k2 : List Nat) (a : At) : (a.kill k1).kill k2 = a.kill (k1 ++ k2) := by
  cases a with
  | v s => cases s with
    | of t => simp only [At.kill, List.contains_iff_mem, List.mem_append]; by_cases h1 : tkK t ∈ k1 <;> by_cases h2 : tkK t ∈ k2 <;> simp [h1, h2, At.kill]
    | _ => rfl
  | iel s j => cases s with
    | of t => simp only [At.kill, List.contains_iff_mem, List.mem_append]; by_cases h1 : tkK t ∈ k1 <;> by_cases h2 : tkK t ∈ k2 <;> simp [h1, h2, At.kill]
    | _ => rfl
  | own t => simp only [At.kill, List.contains_iff_mem, List.mem_append]; by_cases h1 : tkK t ∈ k1 <;> by_cases h2 : tkK t ∈ k2 <;> simp [h1, h2, At.kill]
  | elt t j => simp only [At.kill, List.contains_iff_mem, List.mem_append]; by_cases h1 : tkK t ∈ k1 <;> by_cases h2 : tkK t ∈ k2 <;> simp [h1, h2, At.kill]
  | ptr t j => simp only [At.kill, List.contains_iff_mem, List.mem_append]; by_cases h1 : bxK t ∈ k1 <;> by_cases h2 : bxK t ∈ k2 <;> simp [h1, h2, At.kill]
  | opt t => simp only [At.kill, List.contains_iff_mem, List.mem_append]; by_cases h1 : bxK t ∈ k1 <;> by_cases h2 : bxK t ∈ k2 <;> simp [h1, h2, At.kill]
  | _ => rfl

/-! ### a slot is written -/
theorem sC_inj {s t : Nat} (h : sC s = sC t) : s = t := by simp only [sC] at h; omega
theorem upd_same (ν : Env) (c : Nat) (x : List V) : ν.upd c x c = x := by simp [Env.upd]
theorem upd_ne {ν : Env} {c d : Nat} {x : List V} (h : d ≠ c) : ν.upd c x d = ν d := by simp [Env.upd, h]
theorem getD_put (a : Act) (d : Nat) (v : Value) (s : Nat) (hd : d < a.tmps.size) : (a.put (some d) v).tmps.getD s undef = if s = d then v else a.tmps.getD s undef := by
  simp only [Act.put, Array.getD_eq_getD_getElem?, Array.getElem?_setIfInBounds]
  by_cases h : d = s
  · subst h; simp [hd]
  · rw [if_neg h, if_neg (fun e => h e.symm)]
theorem Rel.put {P : Program} {w0 : World} {M : Nat → Prop} {N : Fr} {α : Al} {ν : Env} {L : Lay} {a : Act} {w : World} (R : Rel P w0 M N α ν L a w) {d : Nat} (hd : N.W d) {h : Sh} {xs : List V} {v : Value} (hv : RSl P L w h xs v) :
    Rel P w0 M N (α.setS d h) (ν.upd (sC d) xs) L (a.put (some d) v) w where
  nt := ⟨by simp [Act.put, R.nt.size], fun s hs => by
    rw [getD_put a d v s (by rw [R.nt.size]; exact hd.1), if_neg (fun e : s = d => hd.2 (e ▸ hs))]
    exact R.nt.keep s hs⟩
  nd := ⟨R.nd.nd, R.nd.lo, R.nd.hi⟩
  kp := R.kp
  fs := R.fs
  sl := R.sl
  slots s := by
    rw [slot_setS, getD_put a d v s (by rw [R.nt.size]; exact hd.1)]
    by_cases hs : s = d
    · subst hs
      simp only [if_true, upd_same, true_and]
      split
      · exact hv
      · rename_i hn
        have : α.slot s = .one .dead := by simp [Al.slot, List.getD_eq_getElem?_getD, List.getElem?_eq_none (Nat.le_of_not_lt hn)]
        rw [this]; trivial
    · simp only [hs, if_false, false_and]
      rw [upd_ne (fun e => hs (sC_inj e))]
      exact R.slots s
  rows t r hr := by rw [upd_ne (by simp only [sC, tC]; omega)]; exact R.rows t r hr
  boxes u b ro hu x hx := by rw [upd_ne (by simp only [sC, bC]; omega)]; exact R.boxes u b ro hu x hx
  rowmine := R.rowmine
  boxmine := R.boxmine
  boxro := R.boxro
  rr := R.rr
  rb := R.rb
  bb := R.bb
end Go.Proofs.YtogfkdpgkloljaaDoorVs
