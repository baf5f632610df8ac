/-
  What a call leaves behind: rows given away, rows and variables that come back. Conditions: each lemma's own premises.
-/
import Derived.Test.YtogfkdpgkloljaaDoorVsR
set_option linter.unusedVariables false
set_option linter.unusedSimpArgs false
namespace Go.Proofs.YtogfkdpgkloljaaDoorVs

/-- the layout after a call: keys ks are told anew -/
def Lay.after (L : Lay) (ks : List Nat) (nr : Nat → Option Row) (nb : Nat → Option Nat) (F' : Nat → Prop) : Lay where
  row := fun t => if tkK t ∈ ks then nr t else L.row t
  box := fun u => if bxK u ∈ ks then (nb u).map fun b => (b, false) else L.box u
  F := F'
  S := fun b => L.S b ∨ F' b
/-- the block of a row that is given away -/
def Lay.gvB (L : Lay) (gv : Nat → Prop) (b : Nat) : Prop := ∃ t r, gv t ∧ L.row t = some r ∧ r.blk = some b
def Lay.cbB (L : Lay) (cb : Nat → Prop) (b : Nat) : Prop := ∃ u, cb u ∧ L.box u = some (b, false)
/-- what stands after a call -/
structure CallDat (P : Program) (L : Lay) (w w' : World) (ν ν' : Env) (ks : List Nat) (gv : Nat → Prop) (nr : Nat → Option Row) (nb : Nat → Option Nat) (cb : Nat → Prop) (F' : Nat → Prop) (setb : Nat → Option Bx) : Prop where
  hw : WStep w w' (fun b => L.gvB gv b ∨ L.cbB cb b)
  hgv : ∀ t, gv t → tkK t ∈ ks
  F : ∀ b, L.F b → F' b
  hF' : ∀ b, F' b → L.F b ∨ (b < w'.heap.size ∧ (w.heap.size ≤ b ∨ L.gvB gv b))
  νs : ∀ s, ν' (sC s) = ν (sC s)
  νt : ∀ t, tkK t ∉ ks → ν' (tC t) = ν (tC t)
  νb : ∀ u, bxK u ∉ ks → ¬ cb u → ν' (bC u) = ν (bC u)
  rows : ∀ t r, tkK t ∈ ks → nr t = some r → RowOK P F' w' r (ν' (tC t))
  rowb : ∀ t r b, tkK t ∈ ks → nr t = some r → r.blk = some b → b < w'.heap.size ∧ (w.heap.size ≤ b ∨ L.gvB gv b) ∧ ¬ F' b
  boxb : ∀ u b, bxK u ∈ ks → nb u = some b → b < w'.heap.size ∧ (w.heap.size ≤ b ∨ L.gvB gv b) ∧ ¬ F' b ∧ (setb u).isSome
  hcb : ∀ u, cb u → bxK u ∉ ks ∧ (setb u).isSome
  boxes : ∀ u x b ro, setb u = some x → (L.after ks nr nb F').box u = some (b, ro) → x.ro = ro ∧ BoxOK P (L.after ks nr nb F') w' b x.as (ν' (bC u))
  rr : ∀ t t' r r' b, tkK t ∈ ks → tkK t' ∈ ks → nr t = some r → nr t' = some r' → r.blk = some b → r'.blk = some b → t = t'
  rb : ∀ t r u b, tkK t ∈ ks → bxK u ∈ ks → nr t = some r → r.blk = some b → nb u = some b → False
  bb : ∀ u u' b, bxK u ∈ ks → bxK u' ∈ ks → nb u = some b → nb u' = some b → u = u'
section
variable {P : Program} {w0 : World} {M : Nat → Prop} {N : Fr} {α : Al} {ν ν' : Env} {L : Lay} {a : Act} {w w' : World} {Φ : Funs} {o : Oper} {d : Nat} {E : Eff}
theorem box_setBs : ∀ (l : List (Nat × Bx)) (α : Al) (u : Nat), (α.setBs l).box u = match (l.reverse.find? (·.1 == u)) with | some p => some p.2 | none => α.box u
  | [], α, u => rfl
  | (v, b) :: r, α, u => by
    rw [Al.setBs, box_setBs r]
    simp only [List.reverse_cons, List.find?_append]
    cases h : r.reverse.find? (·.1 == u) with
    | some p => simp
    | none =>
      simp only [Option.none_or, List.find?_cons, List.find?_nil]
      rw [box_setB]
      by_cases hv : u = v
      · subst hv; simp
      · have : (v == u) = false := by simpa using fun e => hv e.symm
        rw [if_neg hv, this]
def setbOf (l : List (Nat × Bx)) (u : Nat) : Option Bx := (l.reverse.find? (·.1 == u)).map (·.2)
theorem box_setBs' (l : List (Nat × Bx)) (α : Al) (u : Nat) : (α.setBs l).box u = match setbOf l u with | some x => some x | none => α.box u := by
  rw [box_setBs, setbOf]; cases l.reverse.find? (·.1 == u) <;> rfl
theorem slot_setBs : ∀ (l : List (Nat × Bx)) (α : Al) (s : Nat), (α.setBs l).slot s = α.slot s
  | [], α, s => rfl
  | (v, b) :: r, α, s => by rw [Al.setBs, slot_setBs r]; rfl
theorem Rel.callStep (R : Rel P w0 M N α ν L a w) {ks : List Nat} {gv : Nat → Prop} {nr : Nat → Option Row} {nb : Nat → Option Nat} {cb : Nat → Prop} {F' : Nat → Prop} {l : List (Nat × Bx)}
    (D : CallDat P L w w' ν ν' ks gv nr nb cb F' (setbOf l)) : Rel P w0 M N ((α.sk [] ks).setBs l) ν' (L.after ks nr nb F') a w' := by
  have hgvm : ∀ b, L.gvB gv b → mine w0 M b ∧ b < w.heap.size ∧ ¬ L.S b := fun b ⟨t, r, _, h1, h2⟩ => R.rowmine t r b h1 h2
  have hcbm : ∀ b, L.cbB cb b → mine w0 M b ∧ b < w.heap.size ∧ ¬ L.S b := fun b ⟨u, _, h1⟩ => R.boxmine u b h1
  have hheapS : ∀ b, L.S b → w'.heap[b]? = w.heap[b]? := fun b h => D.hw.block b (R.sl b h) (fun e => e.elim (fun e => (hgvm b e).2.2 h) (fun e => (hcbm b e).2.2 h))
  have hrow0 : ∀ t r b, tkK t ∉ ks → L.row t = some r → r.blk = some b → w'.heap[b]? = w.heap[b]? ∧ ¬ L.gvB gv b := by
    intro t r b ht h1 h2
    have h3 : ¬ L.gvB gv b := fun ⟨t', r', g, h3, h4⟩ => by
      have := R.rr t t' r r' b h1 h3 h2 h4
      subst this
      exact ht (D.hgv t g)
    refine ⟨D.hw.block b (R.rowmine t r b h1 h2).2.1 (fun e => e.elim h3 fun ⟨u, _, h4⟩ => R.rb t r u b false h1 h2 h4), h3⟩
  have hbox0 : ∀ u b ro, ¬ cb u → L.box u = some (b, ro) → w'.heap[b]? = w.heap[b]? := by
    intro u b ro hu h1
    cases ro with
    | true => exact hheapS b (R.boxro u b h1)
    | false =>
      refine D.hw.block b (R.boxmine u b h1).2.1 (fun e => e.elim (fun ⟨t, r, _, h3, h4⟩ => R.rb t r u b false h3 h4 h1) fun ⟨v, hv, h4⟩ => ?_)
      have := R.bb u v b false h1 h4
      subst this
      exact hu hv
  have hbox0' : ∀ u b, L.box u = some (b, false) → ¬ L.gvB gv b := fun u b h1 ⟨t, r, _, h3, h4⟩ => R.rb t r u b false h3 h4 h1
  -- what was there is in nothing that is new
  have hnewF : ∀ b, b < w.heap.size → ¬ L.S b → ¬ L.gvB gv b → ¬ F' b := fun b h1 h2 h3 h => by
    rcases D.hF' b h with h | ⟨_, h | h⟩
    · exact h2 (R.fs b h)
    · omega
    · exact h3 h
  have hrw : ∀ t r, (L.after ks nr nb F').row t = some r → (tkK t ∈ ks ∧ nr t = some r) ∨ (tkK t ∉ ks ∧ L.row t = some r) := by
    intro t r h
    simp only [Lay.after] at h
    by_cases h1 : tkK t ∈ ks
    · rw [if_pos h1] at h; exact .inl ⟨h1, h⟩
    · rw [if_neg h1] at h; exact .inr ⟨h1, h⟩
  have hbw : ∀ u b ro, (L.after ks nr nb F').box u = some (b, ro) → (bxK u ∈ ks ∧ nb u = some b ∧ ro = false) ∨ (bxK u ∉ ks ∧ L.box u = some (b, ro)) := by
    intro u b ro h
    simp only [Lay.after] at h
    by_cases h1 : bxK u ∈ ks
    · rw [if_pos h1] at h
      simp only [Option.map_eq_some_iff, Prod.mk.injEq] at h
      obtain ⟨b', h2, rfl, rfl⟩ := h
      exact .inl ⟨h1, h2, rfl⟩
    · rw [if_neg h1] at h; exact .inr ⟨h1, h⟩
  have hE : Ext L (L.after ks nr nb F') w w' ks [] := by
    refine ⟨D.F, fun b h => .inl h, R.fs, hheapS, fun t r h1 h2 => ?_, fun t r b h1 _ h2 h3 => (hrow0 t r b h1 h2 h3).1, fun u b ro h1 h2 => ?_⟩
    · simp only [Lay.after, if_neg h1]; exact h2
    · simp only [Lay.after, if_neg h1]; exact h2
  have hsz := D.hw.size
  -- a block that is new to this call is no block that stays
  have hold : ∀ b b', (b < w'.heap.size ∧ (w.heap.size ≤ b ∨ L.gvB gv b)) → b' < w.heap.size → ¬ L.gvB gv b' → b ≠ b' := fun b b' h1 h2 h3 e => by
    subst e
    rcases h1.2 with h | h
    · omega
    · exact h3 h
  refine ⟨R.nt, ⟨R.nd.nd, fun b h => D.F b (R.nd.lo b h), fun b h => (D.hF' b h).elim (R.nd.hi b) (fun h => .inr (h.2.elim (fun h => .inl (Nat.le_trans R.kp.size h)) (fun ⟨t, r, _, h1, h2⟩ => (R.rowmine t r b h1 h2).1)))⟩, R.kp.step D.hw (fun b e _ => e.elim (fun e => (hgvm b e).1) (fun e => (hcbm b e).1)), fun b h => .inr h, ?_, ?_, ?_, ?_, ?_, ?_, ?_, ?_, ?_, ?_⟩
  · rintro b (h | h)
    · exact Nat.lt_of_lt_of_le (R.sl b h) hsz
    · rcases D.hF' b h with h | h
      · exact Nat.lt_of_lt_of_le (R.sl b (R.fs b h)) hsz
      · exact h.1
  · intro s
    rw [slot_setBs, Al.sk, slot_map _ (sk_dead [] ks), D.νs]
    exact (R.slots s).ext hE
  · intro t r h
    rcases hrw t r h with ⟨h1, h2⟩ | ⟨h1, h2⟩
    · exact D.rows t r h1 h2
    · rw [D.νt t h1]
      exact (R.rows t r h2).ext D.F (fun b h => hheapS b (R.fs b h)) (fun b hb => (hrow0 t r b h1 h2 hb).1)
  · intro u b ro hu x hx
    rw [box_setBs'] at hx
    cases hs : setbOf l u with
    | some y => rw [hs] at hx; cases hx; exact D.boxes u x b ro hs hu
    | none =>
      rw [hs] at hx
      have hncb : ¬ cb u := fun h => by have := (D.hcb u h).2; rw [hs] at this; cases this
      rcases hbw u b ro hu with ⟨h1, h2, rfl⟩ | ⟨h1, h2⟩
      · have := (D.boxb u b h1 h2).2.2.2
        rw [hs] at this; cases this
      · simp only [Al.sk, box_map, Option.map_eq_some_iff] at hx
        obtain ⟨y, hy, rfl⟩ := hx
        obtain ⟨h3, h4⟩ := R.boxes u b ro h2 y hy
        rw [D.νb u h1 hncb]
        exact ⟨h3, h4.ext hE (hbox0 u b ro hncb h2)⟩
  · intro t r b h hb
    rcases hrw t r h with ⟨h1, h2⟩ | ⟨h1, h2⟩
    · obtain ⟨h3, h4, h5⟩ := D.rowb t r b h1 h2 hb
      refine ⟨?_, h3, ?_⟩
      · rcases h4 with h4 | h4
        · exact .inl (Nat.le_trans R.kp.size h4)
        · exact (hgvm b h4).1
      · rintro (h6 | h6)
        · rcases h4 with h4 | h4
          · exact absurd (R.sl b h6) (by omega)
          · exact (hgvm b h4).2.2 h6
        · exact h5 h6
    · obtain ⟨h3, h4, h5⟩ := R.rowmine t r b h2 hb
      refine ⟨h3, Nat.lt_of_lt_of_le h4 hsz, ?_⟩
      rintro (h6 | h6)
      · exact h5 h6
      · exact hnewF b h4 h5 (hrow0 t r b h1 h2 hb).2 h6
  · intro u b h
    rcases hbw u b false h with ⟨h1, h2, _⟩ | ⟨h1, h2⟩
    · obtain ⟨h3, h4, h5, _⟩ := D.boxb u b h1 h2
      refine ⟨?_, h3, ?_⟩
      · rcases h4 with h4 | h4
        · exact .inl (Nat.le_trans R.kp.size h4)
        · exact (hgvm b h4).1
      · rintro (h6 | h6)
        · rcases h4 with h4 | h4
          · exact absurd (R.sl b h6) (by omega)
          · exact (hgvm b h4).2.2 h6
        · exact h5 h6
    · obtain ⟨h3, h4, h5⟩ := R.boxmine u b h2
      refine ⟨h3, Nat.lt_of_lt_of_le h4 hsz, ?_⟩
      rintro (h6 | h6)
      · exact h5 h6
      · exact hnewF b h4 h5 (hbox0' u b h2) h6
  · intro u b h
    rcases hbw u b true h with ⟨h1, h2, h3⟩ | ⟨h1, h2⟩
    · cases h3
    · exact .inl (R.boxro u b h2)
  · intro t t' r r' b h h' hb hb'
    rcases hrw t r h with ⟨h1, h2⟩ | ⟨h1, h2⟩ <;> rcases hrw t' r' h' with ⟨h3, h4⟩ | ⟨h3, h4⟩
    · exact D.rr t t' r r' b h1 h3 h2 h4 hb hb'
    · have h5 := D.rowb t r b h1 h2 hb
      exact absurd rfl (hold b b ⟨h5.1, h5.2.1⟩ (R.rowmine t' r' b h4 hb').2.1 (hrow0 t' r' b h3 h4 hb').2)
    · have h5 := D.rowb t' r' b h3 h4 hb'
      exact absurd rfl (hold b b ⟨h5.1, h5.2.1⟩ (R.rowmine t r b h2 hb).2.1 (hrow0 t r b h1 h2 hb).2)
    · exact R.rr t t' r r' b h2 h4 hb hb'
  · intro t r u b ro h hb hu
    rcases hrw t r h with ⟨h1, h2⟩ | ⟨h1, h2⟩ <;> rcases hbw u b ro hu with ⟨h3, h4, _⟩ | ⟨h3, h4⟩
    · exact D.rb t r u b h1 h3 h2 hb h4
    · have h5 := D.rowb t r b h1 h2 hb
      cases ro with
      | true =>
        have h6 := R.boxro u b h4
        rcases h5.2.1 with h7 | h7
        · have := R.sl b h6; omega
        · exact (hgvm b h7).2.2 h6
      | false => exact absurd rfl (hold b b ⟨h5.1, h5.2.1⟩ (R.boxmine u b h4).2.1 (hbox0' u b h4))
    · have h5 := D.boxb u b h3 h4
      exact absurd rfl (hold b b ⟨h5.1, h5.2.1⟩ (R.rowmine t r b h2 hb).2.1 (hrow0 t r b h1 h2 hb).2)
    · exact R.rb t r u b ro h2 hb h4
  · intro u u' b ro h h'
    rcases hbw u b false h with ⟨h1, h2, _⟩ | ⟨h1, h2⟩ <;> rcases hbw u' b ro h' with ⟨h3, h4, _⟩ | ⟨h3, h4⟩
    · exact D.bb u u' b h1 h3 h2 h4
    · have h5 := D.boxb u b h1 h2
      cases ro with
      | true =>
        have h6 := R.boxro u' b h4
        rcases h5.2.1 with h7 | h7
        · have := R.sl b h6; omega
        · exact absurd h6 (hgvm b h7).2.2
      | false => exact absurd rfl (hold b b ⟨h5.1, h5.2.1⟩ (R.boxmine u' b h4).2.1 (hbox0' u' b h4))
    · have h5 := D.boxb u' b h3 h4
      exact absurd rfl (hold b b ⟨h5.1, h5.2.1⟩ (R.boxmine u b h2).2.1 (hbox0' u b h2))
    · exact R.bb u u' b ro h2 h4
/-- rows that are told for good from now on -/
theorem Rel.freeze (R : Rel P w0 M N α ν L a w) (ks : List Nat) (gv : Nat → Prop) (hgv : ∀ t, tkK t ∈ ks ↔ gv t) (hb : ∀ u, bxK u ∉ ks) :
    Rel P w0 M N (α.sk [] ks) ν (L.after ks (fun _ => none) (fun _ => none) (fun b => L.F b ∨ L.gvB gv b)) a w := by
  have := R.callStep (w' := w) (ν' := ν) (ks := ks) (gv := gv) (nr := fun _ => none) (nb := fun _ => none) (cb := fun _ => False) (F' := fun b => L.F b ∨ L.gvB gv b) (l := []) {
    hw := WStep.refl w _
    hgv := fun t h => (hgv t).2 h
    F := fun b h => .inl h
    hF' := fun b h => h.imp id fun h => ⟨by obtain ⟨t, r, _, h1, h2⟩ := h; exact (R.rowmine t r b h1 h2).2.1, .inr h⟩
    νs := fun _ => rfl
    νt := fun _ _ => rfl
    νb := fun _ _ _ => rfl
    rows := fun t r _ h => by cases h
    rowb := fun t r b _ h => by cases h
    boxb := fun u b _ h => by cases h
    hcb := fun u h => h.elim
    boxes := fun u x b ro h => by cases h
    rr := fun t t' r r' b _ _ h => by cases h
    rb := fun t r u b _ _ h => by cases h
    bb := fun u u' b _ _ h => by cases h }
  exact this
end
end Go.Proofs.YtogfkdpgkloljaaDoorVs
