/-
  Less may be known: for joins and loops. Conditions: each lemma's own premises.
-/
import Derived.Test.YtogfkdpgkloljaaDoorVtC
set_option linter.unusedVariables false
set_option linter.unusedSimpArgs false
namespace Go.Proofs.YtogfkdpgkloljaaDoorVs
def leSrc : Src → Src → Bool
  | .fz, _ => true
  | .lent, .lent => true
  | .lent, .of _ => true
  | .of t, .of u => t == u
  | _, _ => false
def leA (a b : At) : Bool := match b with
  | .dead => true
  | .gone _ => true
  | .v s' => match a with
    | .v s => leSrc s s'
    | _ => false
  | .iel s' j' => match a with
    | .iel s j => leSrc s s' && j == j'
    | _ => false
  | b => decide (a = b)
def leAs : List At → List At → Bool
  | [], [] => true
  | a :: as, b :: bs => leA a b && leAs as bs
  | _, _ => false
def lePs : List (Bool × List At) → List (Bool × List At) → Bool
  | [], [] => true
  | p :: ps, q :: qs => p.1 == q.1 && leAs p.2 q.2 && lePs ps qs
  | _, _ => false
def leSh (a b : Sh) : Bool := match b with
  | .one .dead => true
  | .one (.gone _) => true
  | .one y => match a with
    | .one x => leA x y
    | _ => false
  | .agg ys => match a with
    | .agg xs => leAs xs ys
    | _ => false
  | .tup qs => match a with
    | .tup ps => lePs ps qs
    | _ => false
def leSl : List Sh → List Sh → Bool
  | _, [] => true
  | [], b :: bs => leSh (.one .dead) b && leSl [] bs
  | a :: as, b :: bs => leSh a b && leSl as bs
theorem leSl_ok : ∀ {as bs : List Sh}, leSl as bs = true → ∀ s, s < bs.length → leSh (as.getD s (.one .dead)) (bs.getD s (.one .dead)) = true
  | _, [], _, s, h => by simp at h
  | [], b :: bs, H, s, h => by
    simp only [leSl, Bool.and_eq_true] at H
    cases s with
    | zero => simpa using H.1
    | succ s =>
      have := leSl_ok H.2 s (by simpa using h)
      simpa using this
  | a :: as, b :: bs, H, s, h => by
    simp only [leSl, Bool.and_eq_true] at H
    cases s with
    | zero => simpa using H.1
    | succ s =>
      have := leSl_ok H.2 s (by simpa using h)
      simpa using this
def leAl (α β : Al) : Bool := leSl α.sl β.sl && β.bx.all fun p => match β.box p.1, α.box p.1 with
  | some y, some x => x.ro == y.ro && leAs x.as y.as
  | none, _ => true
  | _, _ => false
section
variable {P : Program} {w0 : World} {M : Nat → Prop} {N : Fr} {α α' β : Al} {ν ν' : Env} {L : Lay} {a : Act} {w w' : World}
theorem leSrc_ok {s s' : Src} (hfs : ∀ b, L.F b → L.S b) (h : leSrc s s' = true) : ∀ b, L.src s b → L.src s' b := by
  intro b hb
  cases s with
  | fz => cases s' with
    | fz => exact hb
    | lent => exact hfs b hb
    | of t => exact .inl (hfs b hb)
  | lent => cases s' with
    | fz => cases h
    | lent => exact hb
    | of t => exact .inl hb
  | of t => cases s' with
    | fz => cases h
    | lent => cases h
    | of u =>
      have : t = u := by simpa [leSrc] using h
      rw [← this]; exact hb
theorem leA_ok {x y : At} {v : V} {c : Value} (hfs : ∀ b, L.F b → L.S b) (h : leA x y = true) (H : RA P L w x v c) : RA P L w y v c := by
  rcases H with H | H
  · exact .inl H
  cases y with
  | dead => exact .inr trivial
  | gone k => exact .inr trivial
  | v s' =>
    cases x with
    | v s => exact .inr (Rd.mono H (leSrc_ok hfs h) (fun _ _ => rfl))
    | _ => cases h
  | iel s' j' =>
    cases x with
    | iel s j =>
      simp only [leA, Bool.and_eq_true, beq_iff_eq] at h
      obtain ⟨h1, rfl⟩ := h
      obtain ⟨b, p, hs, hel, hc⟩ := H
      exact .inr ⟨b, p, leSrc_ok hfs h1 b hs, hel.mono hs (leSrc_ok hfs h1) (fun _ _ => rfl), hc⟩
    | _ => cases h
  | _ =>
    simp only [leA, decide_eq_true_eq] at h
    subst h
    exact .inr H
theorem leAs_len : ∀ {xs ys : List At}, leAs xs ys = true → xs.length = ys.length
  | [], [], _ => rfl
  | [], _ :: _, h => by cases h
  | _ :: _, [], h => by cases h
  | x :: xs, y :: ys, h => by
    simp only [leAs, Bool.and_eq_true] at h
    simp [leAs_len h.2]
theorem leAs_get : ∀ {xs ys : List At}, leAs xs ys = true → ∀ i (h : i < xs.length) (h' : i < ys.length), leA xs[i] ys[i] = true
  | [], [], _ => fun i h => by simp at h
  | [], _ :: _, h => by cases h
  | _ :: _, [], h => by cases h
  | x :: xs, y :: ys, h => by
    simp only [leAs, Bool.and_eq_true] at h
    intro i hi hi'
    cases i with
    | zero => exact h.1
    | succ i => exact leAs_get h.2 i (by simpa using hi) (by simpa using hi')
theorem leAs_ok {xs ys : List At} {vs : List V} {cs : List Value} (hfs : ∀ b, L.F b → L.S b) (h : leAs xs ys = true) (H : RAs P L w xs vs cs) : RAs P L w ys vs cs := by
  have hl := leAs_len h
  exact ⟨by rw [← hl]; exact H.1, by rw [← hl]; exact H.2.1, fun i h0 h1 h2 => leA_ok hfs (leAs_get h i (by omega) h0) (H.2.2 i (by omega) h1 h2)⟩
theorem lePs_ok (hfs : ∀ b, L.F b → L.S b) : ∀ {ps qs : List (Bool × List At)} {vs : List V} {cs : List Value}, lePs ps qs = true → RParts P L w ps vs cs → RParts P L w qs vs cs
  | [], [], vs, cs, _, H => H
  | [], _ :: _, _, _, h, _ => by cases h
  | _ :: _, [], _, _, h, _ => by cases h
  | p :: ps, q :: qs, vs, cs, h, ⟨x1, x2, c, c2, h1, h2, h3, h4⟩ => by
    simp only [lePs, Bool.and_eq_true, beq_iff_eq] at h
    refine ⟨x1, x2, c, c2, h1, h2, ?_, lePs_ok hfs h.2 h4⟩
    unfold RPart at h3 ⊢
    rw [← h.1.1]
    split at h3
    · rename_i hb
      rw [if_pos hb]
      obtain ⟨cs, h5, h6⟩ := h3
      exact ⟨cs, h5, leAs_ok hfs h.1.2 h6⟩
    · rename_i hb
      rw [if_neg hb]
      exact leAs_ok hfs h.1.2 h3
theorem leSh_ok {x y : Sh} {vs : List V} {c : Value} (hfs : ∀ b, L.F b → L.S b) (h : leSh x y = true) (H : RSl P L w x vs c) : RSl P L w y vs c := by
  cases y with
  | one y =>
    by_cases hd : y = .dead ∨ ∃ k, y = .gone k
    · rcases hd with rfl | ⟨k, rfl⟩ <;> trivial
    · cases x with
      | one x =>
        have h' : leA x y = true := by cases y <;> first | exact h | (simp at hd)
        have hx : RAs P L w [x] vs [c] := by
          cases x with
          | dead => cases y <;> first | (simp at hd; done) | (simp [leA] at h')
          | gone k => cases y <;> first | (simp at hd; done) | (simp [leA] at h')
          | _ => exact H
        exact RSl.one (leAs_ok hfs (by simp [leAs, h']) hx)
      | _ => cases y <;> first | (simp at hd; done) | cases h
  | agg ys =>
    cases x with
    | agg xs => obtain ⟨cs, h1, h2⟩ := H; exact ⟨cs, h1, leAs_ok hfs h h2⟩
    | _ => cases h
  | tup qs =>
    cases x with
    | tup ps => obtain ⟨cs, h1, h2⟩ := H; exact ⟨cs, h1, lePs_ok hfs h h2⟩
    | _ => cases h
theorem lookB_mem : ∀ {l : List (Nat × Bx)} {u : Nat} {x : Bx}, lookB l u = some x → (u, x) ∈ l
  | (v, b) :: r, u, x, h => by
    simp only [lookB] at h
    split at h
    · rename_i hv; cases h; rw [hv]; exact List.mem_cons_self
    · exact List.mem_cons_of_mem _ (lookB_mem h)
theorem Rel.le (R : Rel P w0 M N α ν L a w) (h : leAl α β = true) : Rel P w0 M N β ν L a w := by
  simp only [leAl, Bool.and_eq_true, List.all_eq_true] at h
  obtain ⟨h1', h2⟩ := h
  have h1 : ∀ s, s < β.sl.length → leSh (α.slot s) (β.slot s) = true := fun s hs => leSl_ok h1' s hs
  refine ⟨R.nt, R.nd, R.kp, R.fs, R.sl, fun s => ?_, R.rows, fun u b ro hu y hy => ?_, R.rowmine, R.boxmine, R.boxro, R.rr, R.rb, R.bb⟩
  · by_cases hs : s < β.sl.length
    · exact leSh_ok R.fs (h1 s hs) (R.slots s)
    · have : β.slot s = .one .dead := by simp [Al.slot, List.getD_eq_getElem?_getD, List.getElem?_eq_none (Nat.le_of_not_lt hs)]
      rw [this]; trivial
  · have h3 := h2 (u, y) (lookB_mem hy)
    simp only [hy] at h3
    split at h3
    · rename_i y' x he hx
      cases he
      simp only [Bool.and_eq_true, beq_iff_eq] at h3
      obtain ⟨h4, h5⟩ := R.boxes u b ro hu x hx
      obtain ⟨C, ty, fz, h6, h7, h8⟩ := h5.cells
      exact ⟨by rw [← h3.1]; exact h4, ⟨C, ty, fz, h6, h7, leAs_ok R.fs h3.2 h8⟩⟩
    · rename_i he; cases he
    · cases h3
end
end Go.Proofs.YtogfkdpgkloljaaDoorVs
