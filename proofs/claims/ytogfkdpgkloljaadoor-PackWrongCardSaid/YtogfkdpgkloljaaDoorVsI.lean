/-
  A row or a variable in memory is made, or written. Conditions: each lemma's own premises.
-/
import Derived.Test.YtogfkdpgkloljaaDoorVsH
set_option linter.unusedVariables false
set_option linter.unusedSimpArgs false
namespace Go.Proofs.YtogfkdpgkloljaaDoorVs

structure WStep (w w' : World) (ex : Nat → Prop) : Prop where
  os : w'.os = w.os
  tape : w'.tape = w.tape
  output : w'.output = w.output
  size : w.heap.size ≤ w'.heap.size
  block : ∀ b, b < w.heap.size → ¬ ex b → w'.heap[b]? = w.heap[b]?
theorem WStep.refl (w : World) (ex : Nat → Prop) : WStep w w ex := ⟨rfl, rfl, rfl, Nat.le_refl _, fun _ _ _ => rfl⟩
theorem WStep.mono {w w' : World} {ex ex' : Nat → Prop} (h : WStep w w' ex) (he : ∀ b, ex b → ex' b) : WStep w w' ex' := ⟨h.os, h.tape, h.output, h.size, fun b hb hn => h.block b hb (fun e => hn (he b e))⟩
theorem WStep.alloc (w : World) (o : Obj) (ex : Nat → Prop) : WStep w (w.alloc o) ex := ⟨rfl, rfl, rfl, by simp, fun b hb _ => heap_alloc_old w o b hb⟩
theorem WStep.drew (w : World) (ex : Nat → Prop) : WStep w w.drew ex := ⟨rfl, rfl, rfl, Nat.le_refl _, fun _ _ _ => rfl⟩
theorem WStep.trans {w w' w'' : World} {ex : Nat → Prop} (h : WStep w w' ex) (h' : WStep w' w'' ex) : WStep w w'' ex :=
  ⟨h'.os.trans h.os, h'.tape.trans h.tape, h'.output.trans h.output, Nat.le_trans h.size h'.size, fun b hb hn => (h'.block b (Nat.lt_of_lt_of_le hb h.size) hn).trans (h.block b hb hn)⟩
theorem WStep.setRow (w : World) (g : Nat) (cs : Array Value) (ex : Nat → Prop) (h : ex g) : WStep w (w.setRow g cs) ex :=
  ⟨rfl, rfl, rfl, by simp, fun b hb hn => setRow_other w g b cs (fun e => hn (e ▸ h))⟩
theorem Keep.step {w0 w w' : World} {M ex : Nat → Prop} (h : Keep w0 M w) (hw : WStep w w' ex) (he : ∀ b, ex b → b < w.heap.size → mine w0 M b) : Keep w0 M w' where
  os := hw.os.trans h.os
  tape := hw.tape.trans h.tape
  output := hw.output.trans h.output
  size := Nat.le_trans h.size hw.size
  block b hb hn := by
    refine (hw.block b (Nat.lt_of_lt_of_le hb h.size) (fun e => ?_)).trans (h.block b hb hn)
    rcases he b e (Nat.lt_of_lt_of_le hb h.size) with h1 | h1
    · omega
    · exact hn h1

/-- the blocks of some rows -/
def Lay.blks (L : Lay) (ts : List Nat) (b : Nat) : Prop := ∃ t, t ∈ ts ∧ ∃ r, L.row t = some r ∧ r.blk = some b
def Lay.withRow (L : Lay) (k : Nat) (r' : Row) (gn cons : List Nat) : Lay where
  row := fun t => if t = k then some r' else if t ∈ gn ∨ t ∈ cons then none else L.row t
  box := L.box
  F := fun b => L.F b ∨ L.blks cons b
  S := fun b => L.S b ∨ L.blks cons b
section
variable {P : Program} {w0 : World} {M : Nat → Prop} {N : Fr} {α : Al} {ν ν' : Env} {L : Lay} {a : Act} {w w' : World} {Φ : Funs} {o : Oper} {d : Nat} {E : Eff}
theorem Lay.withRow_row {k : Nat} {r' : Row} {gn cons : List Nat} {t : Nat} {r : Row} (h : (L.withRow k r' gn cons).row t = some r) : (t = k ∧ r = r') ∨ (t ≠ k ∧ t ∉ gn ∧ t ∉ cons ∧ L.row t = some r) := by
  simp only [Lay.withRow] at h
  by_cases h1 : t = k
  · rw [if_pos h1] at h; exact .inl ⟨h1, (Option.some.inj h).symm⟩
  · rw [if_neg h1] at h
    by_cases h2 : t ∈ gn ∨ t ∈ cons
    · rw [if_pos h2] at h; cases h
    · rw [if_neg h2] at h; exact .inr ⟨h1, fun e => h2 (.inl e), fun e => h2 (.inr e), h⟩
theorem Rel.rowStep (R : Rel P w0 M N α ν L a w) (k : Nat) (r' : Row) (x' : List V) (gn cons st ks : List Nat) (hgn : k ∈ gn) (hw : WStep w w' (L.blks gn))
    (hks : ∀ t, t ∈ gn ∨ t ∈ cons → tkK t ∈ ks ∨ (t = k ∧ k ∈ st ∧ L.row k = some r')) (hdis : ∀ t, t ∈ cons → t ∉ gn)
    (hr : RowOK P (L.withRow k r' gn cons).F w' r' x') (hb : ∀ b, r'.blk = some b → b < w'.heap.size ∧ (w.heap.size ≤ b ∨ L.blks gn b)) :
    Rel P w0 M N (α.sk st ks) (ν.upd (tC k) x') (L.withRow k r' gn cons) a w' := by
  have hnS : ∀ b, L.blks gn b → ¬ L.S b := fun b ⟨t, _, r, h1, h2⟩ => (R.rowmine t r b h1 h2).2.2
  have hltS : ∀ b, L.blks gn b → b < w.heap.size := fun b ⟨t, _, r, h1, h2⟩ => (R.rowmine t r b h1 h2).2.1
  have hheapS : ∀ b, L.S b → w'.heap[b]? = w.heap[b]? := fun b h => hw.block b (R.sl b h) (fun e => hnS b e h)
  have hother : ∀ t r b, t ∉ gn → L.row t = some r → r.blk = some b → w'.heap[b]? = w.heap[b]? := by
    intro t r b ht h1 h2
    refine hw.block b (R.rowmine t r b h1 h2).2.1 ?_
    rintro ⟨t', ht', r2, h3, h4⟩
    exact ht (R.rr t t' r r2 b h1 h3 h2 h4 ▸ ht')
  have hcons : ∀ b, L.blks cons b → b < w.heap.size ∧ ¬ L.S b ∧ w'.heap[b]? = w.heap[b]? := by
    rintro b ⟨t, ht, r, h1, h2⟩
    exact ⟨(R.rowmine t r b h1 h2).2.1, (R.rowmine t r b h1 h2).2.2, hother t r b (hdis t ht) h1 h2⟩
  have E : Ext L (L.withRow k r' gn cons) w w' ks st := by
    refine ⟨fun b h => .inl h, fun b h => .inl h, R.fs, hheapS, fun t r h1 h2 => ?_, fun t r b h1 h2 h3 h4 => ?_, fun u b ro _ h => h⟩
    · simp only [Lay.withRow]
      by_cases h3 : t = k
      · subst h3
        rw [if_pos rfl]
        rcases hks t (.inl hgn) with h | ⟨_, _, h⟩
        · exact absurd h h1
        · rw [h] at h2; exact h2
      · rw [if_neg h3]
        by_cases h4 : t ∈ gn ∨ t ∈ cons
        · rcases hks t h4 with h | ⟨h, _⟩
          · exact absurd h h1
          · exact absurd h h3
        · rw [if_neg h4]; exact h2
    · refine hother t r b (fun hg => ?_) h3 h4
      rcases hks t (.inl hg) with h | ⟨h, h', _⟩
      · exact h1 h
      · subst h; exact h2 h'
  refine ⟨R.nt, ⟨R.nd.nd, fun b h => .inl (R.nd.lo b h), fun b h => h.elim (R.nd.hi b) (fun ⟨t, _, r, h1, h2⟩ => .inr (R.rowmine t r b h1 h2).1)⟩, R.kp.step hw (fun b ⟨t, _, r, h1, h2⟩ _ => (R.rowmine t r b h1 h2).1), ?_, ?_, ?_, ?_, ?_, ?_, ?_, ?_, ?_, ?_, ?_⟩
  · rintro b (h | h)
    · exact .inl (R.fs b h)
    · exact .inr h
  · rintro b (h | h)
    · exact Nat.lt_of_lt_of_le (R.sl b h) hw.size
    · exact Nat.lt_of_lt_of_le (hcons b h).1 hw.size
  · intro s
    rw [Al.sk, slot_map _ (sk_dead st ks), upd_ne (by simp only [sC, tC]; omega)]
    exact (R.slots s).ext E
  · intro t r h
    rcases Lay.withRow_row h with ⟨rfl, rfl⟩ | ⟨h1, h2, h3, h4⟩
    · rw [upd_same]; exact hr
    · rw [upd_ne (by simp only [tC]; omega)]
      exact (R.rows t r h4).ext (fun b h => .inl h) (fun b h => hheapS b (R.fs b h)) (fun b hb => hother t r b h2 h4 hb)
  · intro u b ro hu x hx
    rw [Al.sk, box_map] at hx
    simp only [Option.map_eq_some_iff] at hx
    obtain ⟨y, hy, rfl⟩ := hx
    obtain ⟨h1, h2⟩ := R.boxes u b ro hu y hy
    refine ⟨h1, ?_⟩
    rw [upd_ne (by simp only [bC, tC]; omega)]
    refine h2.ext E ?_
    cases ro with
    | true => exact hheapS b (R.boxro u b hu)
    | false =>
      refine hw.block b (R.boxmine u b hu).2.1 ?_
      rintro ⟨t, _, r, h3, h4⟩
      exact R.rb t r u b false h3 h4 hu
  · intro t r b h hbk
    rcases Lay.withRow_row h with ⟨rfl, rfl⟩ | ⟨h1, h2, h3, h4⟩
    · obtain ⟨h5, h6⟩ := hb b hbk
      refine ⟨?_, h5, ?_⟩
      · rcases h6 with h6 | ⟨t', _, r2, h7, h8⟩
        · exact .inl (Nat.le_trans R.kp.size h6)
        · exact (R.rowmine t' r2 b h7 h8).1
      · rintro (hs | hs)
        · rcases h6 with h6 | h6
          · exact absurd (R.sl b hs) (by omega)
          · exact hnS b h6 hs
        · obtain ⟨h7, _, _⟩ := hcons b hs
          rcases h6 with h6 | ⟨t', ht', r2, h8, h9⟩
          · omega
          · obtain ⟨t2, ht2, r3, h10, h11⟩ := hs
            exact hdis t2 ht2 (R.rr t' t2 r2 r3 b h8 h10 h9 h11 ▸ ht')
    · obtain ⟨h5, h6, h7⟩ := R.rowmine t r b h4 hbk
      refine ⟨h5, Nat.lt_of_lt_of_le h6 hw.size, ?_⟩
      rintro (hs | ⟨t2, ht2, r3, h10, h11⟩)
      · exact h7 hs
      · exact h3 (R.rr t2 t r3 r b h10 h4 h11 hbk ▸ ht2)
  · intro u b hu
    obtain ⟨h5, h6, h7⟩ := R.boxmine u b hu
    refine ⟨h5, Nat.lt_of_lt_of_le h6 hw.size, ?_⟩
    rintro (hs | ⟨t2, ht2, r3, h10, h11⟩)
    · exact h7 hs
    · exact R.rb t2 r3 u b false h10 h11 hu
  · intro u b hu
    exact .inl (R.boxro u b hu)
  · intro t t' r r2 b h h' hbk hbk'
    rcases Lay.withRow_row h with ⟨rfl, rfl⟩ | ⟨h1, h2, h3, h4⟩ <;> rcases Lay.withRow_row h' with ⟨rfl, rfl⟩ | ⟨h1', h2', h3', h4'⟩
    · rfl
    · exfalso
      rcases (hb b hbk).2 with h6 | ⟨t2, ht2, r3, h10, h11⟩
      · have := (R.rowmine t' r2 b h4' hbk').2.1; omega
      · exact h2' (R.rr t2 t' r3 r2 b h10 h4' h11 hbk' ▸ ht2)
    · exfalso
      rcases (hb b hbk').2 with h6 | ⟨t2, ht2, r3, h10, h11⟩
      · have := (R.rowmine t r b h4 hbk).2.1; omega
      · exact h2 (R.rr t2 t r3 r b h10 h4 h11 hbk ▸ ht2)
    · exact R.rr t t' r r2 b h4 h4' hbk hbk'
  · intro t r u b ro h hbk hu
    rcases Lay.withRow_row h with ⟨rfl, rfl⟩ | ⟨h1, h2, h3, h4⟩
    · rcases (hb b hbk).2 with h6 | ⟨t2, ht2, r3, h10, h11⟩
      · cases ro with
        | true => have := R.sl b (R.boxro u b hu); omega
        | false => have := (R.boxmine u b hu).2.1; omega
      · exact R.rb t2 r3 u b ro h10 h11 hu
    · exact R.rb t r u b ro h4 hbk hu
  · exact R.bb

/-! #### a variable in memory -/
def Lay.withBox (L : Lay) (u b : Nat) : Lay := { L with box := fun v => if v = u then some (b, false) else L.box v }
theorem Rel.boxExt (R : Rel P w0 M N α ν L a w) (u b : Nat) (ks : List Nat) (hw : WStep w w' (fun g => g = b)) (hb : (w.heap.size ≤ b ∧ b < w'.heap.size ∧ bxK u ∈ ks) ∨ L.box u = some (b, false)) : Ext L (L.withBox u b) w w' ks [] := by
  have hnS : ¬ L.S b := by
    rcases hb with ⟨h1, _⟩ | h
    · intro h; have := R.sl b h; omega
    · exact (R.boxmine u b h).2.2
  have hheapS : ∀ g, L.S g → w'.heap[g]? = w.heap[g]? := fun g h => hw.block g (R.sl g h) (fun e => hnS (e ▸ h))
  have hrowb : ∀ t r g, L.row t = some r → r.blk = some g → g ≠ b := by
    intro t r g h1 h2 e
    subst e
    rcases hb with ⟨h3, _⟩ | h3
    · have := (R.rowmine t r g h1 h2).2.1; omega
    · exact R.rb t r u g false h1 h2 h3
  refine ⟨fun _ h => h, fun _ h => h, R.fs, hheapS, fun t r _ h => h, fun t r g _ _ h1 h2 => hw.block g (R.rowmine t r g h1 h2).2.1 (hrowb t r g h1 h2), fun v g ro h1 h2 => ?_⟩
  simp only [Lay.withBox]
  by_cases h3 : v = u
  · subst h3
    rw [if_pos rfl]
    rcases hb with ⟨_, _, h⟩ | h
    · exact absurd h h1
    · rw [h2] at h; cases h; rfl
  · rw [if_neg h3]; exact h2
theorem Rel.boxStep (R : Rel P w0 M N α ν L a w) (u b : Nat) (as' : List At) (xs' : List V) (ks : List Nat) (hw : WStep w w' (fun g => g = b))
    (hb : (w.heap.size ≤ b ∧ b < w'.heap.size ∧ bxK u ∈ ks) ∨ L.box u = some (b, false)) (hok : BoxOK P (L.withBox u b) w' b as' xs') :
    Rel P w0 M N ((α.sk [] ks).setB u ⟨false, as'⟩) (ν.upd (bC u) xs') (L.withBox u b) a w' := by
  have hnS : ¬ L.S b := by
    rcases hb with ⟨h1, _⟩ | h
    · intro h; have := R.sl b h; omega
    · exact (R.boxmine u b h).2.2
  have hheapS : ∀ g, L.S g → w'.heap[g]? = w.heap[g]? := fun g h => hw.block g (R.sl g h) (fun e => hnS (e ▸ h))
  have hrowb : ∀ t r g, L.row t = some r → r.blk = some g → g ≠ b := by
    intro t r g h1 h2 e
    subst e
    rcases hb with ⟨h3, _⟩ | h3
    · have := (R.rowmine t r g h1 h2).2.1; omega
    · exact R.rb t r u g false h1 h2 h3
  have hboxb : ∀ v g ro, v ≠ u → L.box v = some (g, ro) → g ≠ b := by
    intro v g ro hv h1 e
    subst e
    rcases hb with ⟨h3, _⟩ | h3
    · cases ro with
      | true => have := R.sl g (R.boxro v g h1); omega
      | false => have := (R.boxmine v g h1).2.1; omega
    · exact hv (R.bb u v g ro h3 h1).symm
  have hbx : ∀ v g ro, (L.withBox u b).box v = some (g, ro) → (v = u ∧ g = b ∧ ro = false) ∨ (v ≠ u ∧ L.box v = some (g, ro)) := by
    intro v g ro h
    simp only [Lay.withBox] at h
    by_cases h1 : v = u
    · rw [if_pos h1] at h; cases h; exact .inl ⟨h1, rfl, rfl⟩
    · rw [if_neg h1] at h; exact .inr ⟨h1, h⟩
  have E : Ext L (L.withBox u b) w w' ks [] := by
    refine ⟨fun _ h => h, fun _ h => h, R.fs, hheapS, fun t r _ h => h, fun t r g _ _ h1 h2 => hw.block g (R.rowmine t r g h1 h2).2.1 (hrowb t r g h1 h2), fun v g ro h1 h2 => ?_⟩
    simp only [Lay.withBox]
    by_cases h3 : v = u
    · subst h3
      rw [if_pos rfl]
      rcases hb with ⟨_, _, h⟩ | h
      · exact absurd h h1
      · rw [h2] at h; cases h; rfl
    · rw [if_neg h3]; exact h2
  have hmineb : mine w0 M b ∧ b < w'.heap.size := by
    rcases hb with ⟨h1, h2, _⟩ | h
    · exact ⟨.inl (Nat.le_trans R.kp.size h1), h2⟩
    · exact ⟨(R.boxmine u b h).1, Nat.lt_of_lt_of_le (R.boxmine u b h).2.1 hw.size⟩
  refine ⟨R.nt, R.nd, R.kp.step hw (fun g e _ => e ▸ hmineb.1), R.fs, fun g h => Nat.lt_of_lt_of_le (R.sl g h) hw.size, ?_, ?_, ?_, ?_, ?_, ?_, R.rr, ?_, ?_⟩
  · intro s
    rw [slot_setB, Al.sk, slot_map _ (sk_dead [] ks), upd_ne (by simp only [sC, bC]; omega)]
    exact (R.slots s).ext E
  · intro t r h
    rw [upd_ne (by simp only [tC, bC]; omega)]
    exact (R.rows t r h).ext (fun _ h => h) (fun g h => hheapS g (R.fs g h)) (fun g hg => hw.block g (R.rowmine t r g h hg).2.1 (hrowb t r g h hg))
  · intro v g ro hv x hx
    rw [box_setB] at hx
    rcases hbx v g ro hv with ⟨rfl, rfl, rfl⟩ | ⟨h1, h2⟩
    · rw [if_pos rfl] at hx
      cases hx
      rw [upd_same]
      exact ⟨rfl, hok⟩
    · rw [if_neg h1, Al.sk, box_map] at hx
      simp only [Option.map_eq_some_iff] at hx
      obtain ⟨y, hy, rfl⟩ := hx
      obtain ⟨h3, h4⟩ := R.boxes v g ro h2 y hy
      refine ⟨h3, ?_⟩
      rw [upd_ne (by simp only [bC]; omega)]
      refine h4.ext E ?_
      cases ro with
      | true => exact hheapS g (R.boxro v g h2)
      | false => exact hw.block g (R.boxmine v g h2).2.1 (hboxb v g false h1 h2)
  · intro t r g h hg
    obtain ⟨h1, h2, h3⟩ := R.rowmine t r g h hg
    exact ⟨h1, Nat.lt_of_lt_of_le h2 hw.size, h3⟩
  · intro v g hv
    rcases hbx v g false hv with ⟨rfl, rfl, _⟩ | ⟨h1, h2⟩
    · exact ⟨hmineb.1, hmineb.2, hnS⟩
    · obtain ⟨h3, h4, h5⟩ := R.boxmine v g h2
      exact ⟨h3, Nat.lt_of_lt_of_le h4 hw.size, h5⟩
  · intro v g hv
    rcases hbx v g true hv with ⟨_, _, h⟩ | ⟨h1, h2⟩
    · cases h
    · exact R.boxro v g h2
  · intro t r v g ro h hg hv
    rcases hbx v g ro hv with ⟨rfl, rfl, rfl⟩ | ⟨h1, h2⟩
    · exact hrowb t r g h hg rfl
    · exact R.rb t r v g ro h hg h2
  · intro v v' g ro hv hv'
    rcases hbx v g false hv with ⟨rfl, rfl, _⟩ | ⟨h1, h2⟩ <;> rcases hbx v' g ro hv' with ⟨rfl, h3, _⟩ | ⟨h1', h2'⟩
    · rfl
    · exact absurd rfl (hboxb v' g ro h1' h2')
    · exact absurd h3 (hboxb v g false h1 h2)
    · exact R.bb v v' g ro h2 h2'
end
end Go.Proofs.YtogfkdpgkloljaaDoorVs
