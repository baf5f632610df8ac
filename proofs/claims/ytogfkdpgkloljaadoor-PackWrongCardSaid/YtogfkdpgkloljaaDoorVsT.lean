/-
  What a call is given and what it owes: contracts, and the arguments. Conditions: each lemma's own premises.
-/
import Derived.Test.YtogfkdpgkloljaaDoorVsS
set_option linter.unusedVariables false
set_option linter.unusedSimpArgs false
namespace Go.Proofs.YtogfkdpgkloljaaDoorVs

/-! ### contracts -/
def eOf : V → TypeId
  | .list e _ => e
  | _ => 0
def PCell (P : Program) (F S : Nat → Prop) (w : World) : PM → V → Value → Prop
  | .fz, x, c => Rd P F w x c
  | .lent, x, c => Rd P S w x c
  | .own, x, c => RowOK P F w ⟨c, eOf x⟩ [x]
structure PCells (P : Program) (F S : Nat → Prop) (w : World) (ms : List PM) (xs : List V) (cs : List Value) : Prop where
  ml : ms.length = cs.length
  xl : xs.length = cs.length
  ok : ∀ i (h : i < ms.length) (h1 : i < xs.length) (h2 : i < cs.length), xs[i] ≠ .undef ∧ PCell P F S w ms[i] xs[i] cs[i]
/-- the blocks of the own rows among some cells -/
def blkG : List PM → List Value → List Nat
  | .own :: ms, c :: cs => c.ownBlock.toList ++ blkG ms cs
  | _ :: ms, _ :: cs => blkG ms cs
  | _, _ => []
def cellsAt (w : World) (b : Nat) : List Value := match w.heap[b]? with
  | some (.cells C _ _) => C.toList
  | _ => []
def boxOpen (w : World) (b : Nat) : Prop := ∃ C ty fz, w.heap[b]? = some (.cells C ty fz) ∧ (fz.2 ≤ fz.1 ∨ C.size ≤ fz.1)
def PArg (P : Program) (F S : Nat → Prop) (w : World) : PSh → List V → Value → Prop
  | .one m, xs, c => PCells P F S w [m] xs [c]
  | .agg ms, xs, c => ∃ cs, c = .agg cs ∧ PCells P F S w ms xs cs.toList
  | .ptr ro ms, xs, c => ∃ b, c = .pointer (some ⟨b, 0, none⟩) ∧ boxOpen w b ∧ PCells P F S w ms xs (cellsAt w b) ∧ (ro = true → S b ∧ ms.all (· != .own) = true)
  | .nilp, xs, c => c = .pointer none
def argB (w : World) : PSh → Value → List Nat
  | .one m, c => blkG [m] [c]
  | .agg ms, .agg cs => blkG ms cs.toList
  | .ptr ro ms, .pointer (some ad) => if ro then [] else ad.block :: blkG ms (cellsAt w ad.block)
  | _, _ => []
def PArgs (P : Program) (F S : Nat → Prop) (w : World) : List PSh → List (List V) → List Value → Prop
  | [], [], [] => True
  | p :: ps, xs :: xss, c :: cs => PArg P F S w p xs c ∧ PArgs P F S w ps xss cs
  | _, _, _ => False
def argsB (w : World) : List PSh → List Value → List Nat
  | p :: ps, c :: cs => argB w p c ++ argsB w ps cs
  | _, _ => []
/-- the variables that come back -/
def backsOf : List PSh → List Value → List (Nat × List PM)
  | .ptr false ms :: ps, .pointer (some ad) :: cs => (ad.block, ms.map bkM) :: backsOf ps cs
  | _ :: ps, _ :: cs => backsOf ps cs
  | _, _ => []
def RRes (P : Program) (F : Nat → Prop) (w : World) : RSh → List V → Value → Prop
  | .one m, xs, c => PCells P F F w [m] xs [c]
  | .agg ms, xs, c => ∃ cs, c = .agg cs ∧ PCells P F F w ms xs cs.toList
  | .obx ms, xs, c => (c = .pointer none ∧ xs.head? = some (.bool false)) ∨ ∃ b ys, c = .pointer (some ⟨b, 0, none⟩) ∧ boxOpen w b ∧ xs = .bool true :: ys ∧ PCells P F F w ms ys (cellsAt w b)
def resB (w : World) : RSh → Value → List Nat
  | .one m, c => blkG [m] [c]
  | .agg ms, .agg cs => blkG ms cs.toList
  | .obx ms, .pointer (some ad) => ad.block :: blkG ms (cellsAt w ad.block)
  | _, _ => []
def RRess (P : Program) (F : Nat → Prop) (w : World) : List RSh → List (List V) → List Value → Prop
  | [], [], [] => True
  | p :: ps, xs :: xss, c :: cs => RRes P F w p xs c ∧ RRess P F w ps xss cs
  | _, _, _ => False
def ressB (w : World) : List RSh → List Value → List Nat
  | p :: ps, c :: cs => resB w p c ++ ressB w ps cs
  | _, _ => []
def RBacks (P : Program) (F : Nat → Prop) (w : World) : List (Nat × List PM) → List (List V) → Prop
  | [], [] => True
  | p :: ps, xs :: xss => (boxOpen w p.1 ∧ PCells P F F w p.2 xs (cellsAt w p.1)) ∧ RBacks P F w ps xss
  | _, _ => False
def backsB (w : World) : List (Nat × List PM) → List Nat
  | [] => []
  | p :: ps => (p.1 :: blkG p.2 (cellsAt w p.1)) ++ backsB w ps
def tupV : List Value → Value
  | [v] => v
  | vs => .tuple vs.toArray
structure SimPost (P : Program) (F : Nat → Prop) (w : World) (g : Sig) (cs : List Value) (raw : List (List V)) (vs : List Value) (F' : Nat → Prop) (w' : World) : Prop where
  hw : WStep w w' (· ∈ argsB w g.ps cs)
  hF : ∀ b, F b → F' b
  hF' : ∀ b, F' b → F b ∨ (b < w'.heap.size ∧ (w.heap.size ≤ b ∨ b ∈ argsB w g.ps cs))
  res : ∃ raw1 raw2, raw = raw1 ++ raw2 ∧ raw1.length = g.rs.length ∧ RRess P F' w' g.rs raw1 vs ∧ RBacks P F' w' (backsOf g.ps cs) raw2
  nd : (ressB w' g.rs vs ++ backsB w' (backsOf g.ps cs)).Nodup
  bl : ∀ b ∈ ressB w' g.rs vs ++ backsB w' (backsOf g.ps cs), b < w'.heap.size ∧ (w.heap.size ≤ b ∨ b ∈ argsB w g.ps cs) ∧ ¬ F' b
/-- a function of the program does what φ says -/
structure Sim (P : Program) (GW : World → Prop) (f : FuncId) (g : Sig) (φ : List (List V) → Option (List (List V))) : Prop where
  en : ∃ fn, P.funcs[f]? = some fn ∧ (fn.name == "runtime.NumGoroutine") = false ∧ fn.body.isNone = false
  calls : ∀ (F S : Nat → Prop) (w : World) (xss : List (List V)) (cs : List Value) (raw : List (List V)), (∀ b, F b → S b) → (∀ b, S b → b < w.heap.size) → PArgs P F S w g.ps xss cs →
    (argsB w g.ps cs).Nodup → (∀ b ∈ argsB w g.ps cs, b < w.heap.size ∧ ¬ S b) → GW w → 0 ∉ argsB w g.ps cs → φ xss = some raw →
    Calls P f cs.toArray w fun e w' => ∃ vs F', e = .returned (tupV vs) ∧ SimPost P F w g cs raw vs F' w'

/-- what is known of the package's variables (block 0) -/
structure GWOK (GW : World → Prop) (w0 : World) (M : Nat → Prop) : Prop where
  gw : ∀ w, Keep w0 M w → GW w
  m0 : ¬ mine w0 M 0
/-! ### the arguments -/
def Lay.tB (L : Lay) (t : Nat) : List Nat := ((L.row t).bind Row.blk).toList
structure CellsOK (P : Program) (L : Lay) (w : World) (ms : List PM) (as : List At) (q : Pcs) (fz gn : List Nat) (xs : List V) (cs : List Value) : Prop where
  pm : q.kill.Perm ((fz ++ gn).map tkK)
  row : ∀ t, t ∈ fz ∨ t ∈ gn → ∃ r, L.row t = some r
  blk : blkG ms cs = gn.flatMap L.tB
  ok : ∀ F1 S1 : Nat → Prop, (∀ b, L.F b → F1 b) → (∀ b, L.blks fz b → F1 b) → (∀ b, L.S b → S1 b) → (∀ t r b, tkK t ∈ lnL ms as → L.row t = some r → r.blk = some b → S1 b) → PCells P F1 S1 w ms xs cs
section
variable {P : Program} {w0 : World} {M : Nat → Prop} {N : Fr} {α : Al} {ν ν' : Env} {L : Lay} {a : Act} {w w' : World} {Φ : Funs} {o : Oper} {d : Nat} {E : Eff}
theorem PCells.nil {F S : Nat → Prop} : PCells P F S w [] [] [] := ⟨rfl, rfl, fun i h => by simp at h⟩
theorem PCells.cons {F S : Nat → Prop} {m : PM} {ms : List PM} {x : V} {xs : List V} {c : Value} {cs : List Value} (h1 : x ≠ .undef) (h2 : PCell P F S w m x c) (h : PCells P F S w ms xs cs) : PCells P F S w (m :: ms) (x :: xs) (c :: cs) where
  ml := by simp [h.ml]
  xl := by simp [h.xl]
  ok i hi hi1 hi2 := by
    cases i with
    | zero => exact ⟨h1, h2⟩
    | succ i => exact h.ok i (by simpa using hi) (by simpa using hi1) (by simpa using hi2)
theorem row_own (R : Rel P w0 M N α ν L a w) {t : Nat} {r : Row} (h : L.row t = some r) {F1 : Nat → Prop} (hF : ∀ b, L.F b → F1 b) {x : V} (hx : (ν (tC t))[0]? = some x) : RowOK P F1 w ⟨r.val, eOf x⟩ [x] := by
  have h1 := R.rows t r h
  obtain ⟨xs, h2, h3⟩ := h1
  rw [h2] at hx
  simp only [List.getElem?_cons_zero, Option.some.injEq] at hx
  subst hx
  have : RowOK P L.F w r [.list r.e xs] := ⟨xs, rfl, h3⟩
  exact this.ext hF (fun _ _ => rfl) (fun _ _ => rfl)
theorem pass1_ok (R : Rel P w0 M N α ν L a w) {g : VArg} {j : Nat} {m : PM} {at1 : At} {q : Pcs} {c : Value} (h : pass1 g j m at1 = some q) (hr : ∀ x, (g.get ν)[j]? = some x → RA P L w at1 x c) (hk : q.chk.all (unitAt ν) = true) :
    ∃ p, q.ps = [p] ∧ ∀ x, pcGet ν p = some x → x ≠ .undef → ∃ fz gn : List Nat, q.kill.Perm ((fz ++ gn).map tkK) ∧ (∀ t, t ∈ fz ∨ t ∈ gn → ∃ r, L.row t = some r) ∧ (∀ ms cs, blkG (m :: ms) (c :: cs) = gn.flatMap L.tB ++ blkG ms cs) ∧
      ∀ F1 S1 : Nat → Prop, (∀ b, L.F b → F1 b) → (∀ b, L.blks fz b → F1 b) → (∀ b, L.S b → S1 b) → (∀ t r b, tkK t ∈ lnOf m at1 → L.row t = some r → r.blk = some b → S1 b) → PCell P F1 S1 w m x c := by
  cases m with
  | fz =>
    obtain ⟨toks, f⟩ := frz1_ok R h hr hk
    have hl := f.len
    obtain ⟨p, hp⟩ := List.length_eq_one_iff.1 hl
    refine ⟨p, hp, fun x hx hne => ⟨toks, [], by simp [f.kill], fun t ht => f.row t (by simpa using ht), fun _ _ => rfl, fun F1 S1 h1 h2 h3 h4 => ?_⟩⟩
    obtain ⟨h5, _⟩ := f.rd 0 (by simp [hp]) (by simp) x (by simpa [hp] using hx) hne
    exact h5.mono (fun b hb => hb.elim (h1 b) (h2 b)) (fun _ _ => rfl)
  | lent =>
    cases at1 with
    | v s =>
      cases h
      refine ⟨_, rfl, fun x hx hne => ⟨[], [], by simp, by simp, fun _ _ => rfl, fun F1 S1 h1 h2 h3 h4 => ?_⟩⟩
      rcases hr x hx with h | h
      · exact absurd h hne
      · refine h.mono (fun b hb => ?_) (fun _ _ => rfl)
        cases s with
        | fz => exact h3 b (R.fs b hb)
        | lent => exact h3 b hb
        | of t =>
          rcases hb with hb | ⟨r, hr1, hr2⟩
          · exact h3 b hb
          · exact h4 t r b (by simp [lnOf]) hr1 hr2
    | nils =>
      cases h
      refine ⟨_, rfl, fun x hx hne => ⟨[], [], by simp, by simp, fun _ _ => rfl, fun F1 S1 h1 h2 h3 h4 => ?_⟩⟩
      rcases hr x hx with h | ⟨rfl, e, rfl⟩
      · exact absurd h hne
      · exact .nil _ _ _
    | own t =>
      cases g with
      | lit vs => cases h
      | c k =>
        cases h
        have hu := chk_one hk (List.mem_singleton.2 rfl)
        rcases hr .unit hu with h | ⟨_, r, hrow, rfl⟩
        · cases h
        refine ⟨_, rfl, fun x hx hne => ⟨[], [], by simp, by simp, fun _ _ => rfl, fun F1 S1 h1 h2 h3 h4 => ?_⟩⟩
        obtain ⟨xs, hxs, hrd⟩ := row_rdF R hrow S1 (fun b hb => h3 b (R.fs b hb)) (fun b hb => h4 t r b (by simp [lnOf]) hrow hb)
        have hx' : (ν (tC t))[0]? = some x := hx
        rw [hxs] at hx'
        cases hx'
        exact hrd
    | _ => cases h
  | own =>
    cases at1 with
    | nils =>
      cases h
      refine ⟨_, rfl, fun x hx hne => ?_⟩
      rcases hr x hx with h | ⟨rfl, e, rfl⟩
      · exact absurd h hne
      · exact ⟨[], [], by simp, by simp, fun ms cs => by simp [blkG, Value.ownBlock], fun F1 S1 h1 h2 h3 h4 => nil_row _ _⟩
    | own t =>
      cases g with
      | lit vs => cases h
      | c k =>
        cases h
        have hu := chk_one hk (List.mem_singleton.2 rfl)
        rcases hr .unit hu with h | ⟨_, r, hrow, rfl⟩
        · cases h
        refine ⟨_, rfl, fun x hx hne => ⟨[], [t], by simp, by simp [hrow], fun ms cs => by simp [blkG, Lay.tB, hrow, Row.blk], fun F1 S1 h1 h2 h3 h4 => ?_⟩⟩
        exact row_own R hrow h1 hx
    | _ => cases h
theorem passL_ok (R : Rel P w0 M N α ν L a w) {g : VArg} : ∀ (ms : List PM) (as : List At) (j : Nat) (q : Pcs) (cs : List Value), passL g j ms as = some q → as.length = cs.length →
    (∀ i (h : i < as.length) (h' : i < cs.length) x, (g.get ν)[j + i]? = some x → RA P L w as[i] x cs[i]) → q.chk.all (unitAt ν) = true → ∀ xs, Pieces ν q.ps xs → ∃ fz gn, CellsOK P L w ms as q fz gn xs cs
  | [], [], j, q, cs, h, hl, hr, hk, xs, hx => by
    cases h
    have : cs = [] := List.eq_nil_of_length_eq_zero hl.symm
    subst this
    have : xs = [] := List.eq_nil_of_length_eq_zero hx.1
    subst this
    exact ⟨[], [], by simp, by simp, rfl, fun _ _ _ _ _ _ => .nil⟩
  | [], a1 :: as, j, q, cs, h, hl, hr, hk, xs, hx => by cases h
  | m :: ms, [], j, q, cs, h, hl, hr, hk, xs, hx => by cases h
  | m :: ms, a1 :: as, j, q, [], h, hl, hr, hk, xs, hx => by simp at hl
  | m :: ms, a1 :: as, j, q, c :: cs, h, hl, hr, hk, xs, hx => by
    simp only [passL, Option.bind_eq_some_iff, Option.map_eq_some_iff] at h
    obtain ⟨q1, h1, q2, h2, rfl⟩ := h
    simp only [Pcs.cat, List.all_append, Bool.and_eq_true] at hk
    obtain ⟨p, hp, H⟩ := pass1_ok R h1 (fun x hx => hr 0 (by simp) (by simp) x (by simpa using hx)) hk.1
    obtain ⟨hx1, hx2⟩ := hx
    simp only [Pcs.cat, hp, List.cons_append, List.nil_append, List.length_cons] at hx1 hx2
    cases xs with
    | nil => simp at hx1
    | cons x xs =>
      have h0 := hx2 0 (by simp) (by simp)
      obtain ⟨fz1, gn1, p1, r1, b1, k1⟩ := H x (by simpa using h0.1) (by simpa using h0.2)
      obtain ⟨fz2, gn2, C⟩ := passL_ok R ms as (j + 1) q2 cs h2 (by simpa using hl) (fun i hi hi' x hx => by
        have := hr (i + 1) (by simpa using hi) (by simpa using hi') x (by rw [← hx]; congr 1; omega)
        simpa using this) hk.2 xs ⟨by simpa using hx1, fun i hi hi' => hx2 (i + 1) (by simpa using hi) (by simpa using hi')⟩
      refine ⟨fz1 ++ fz2, gn1 ++ gn2, ?_, ?_, ?_, fun F1 S1 h3 h4 h5 h6 => ?_⟩
      · simp only [Pcs.cat]
        refine (p1.append C.pm).trans ?_
        simp only [List.map_append, List.append_assoc]
        refine List.Perm.append_left _ ?_
        rw [← List.append_assoc, ← List.append_assoc]
        exact List.Perm.append_right _ List.perm_append_comm
      · intro t ht
        simp only [List.mem_append] at ht
        rcases ht with (h | h) | (h | h)
        · exact r1 t (.inl h)
        · exact C.row t (.inl h)
        · exact r1 t (.inr h)
        · exact C.row t (.inr h)
      · rw [b1, C.blk, List.flatMap_append]
      · refine PCells.cons (by simpa using h0.2) (k1 F1 S1 h3 (fun b hb => h4 b (blks_mono (by simp; intro t h; exact .inl h) b hb)) h5 (fun t r b h => h6 t r b (by simp only [lnL, List.mem_append]; exact .inl h))) ?_
        exact C.ok F1 S1 h3 (fun b hb => h4 b (blks_mono (by simp; intro t h; exact .inr h) b hb)) h5 (fun t r b h => h6 t r b (by simp only [lnL, List.mem_append]; exact .inr h))
end
end Go.Proofs.YtogfkdpgkloljaaDoorVs
