/-
  A function of the program does what its translation says. Conditions: each lemma's own premises.
-/
import Derived.Test.YtogfkdpgkloljaaDoorVtH
set_option linter.unusedVariables false
set_option linter.unusedSimpArgs false
namespace Go.Proofs.YtogfkdpgkloljaaDoorVs
section
variable {P : Program} {w0 : World} {M : Nat → Prop} {N : Fr} {α α' β : Al} {ν ν' : Env} {L : Lay} {a : Act} {w w' : World} {Φ : Funs}
/-! ### the blocks that come in -/
theorem blkG_mem {b : Nat} {c : Value} : ∀ {ms : List PM} {cs : List Value} {j : Nat}, ms[j]? = some .own → cs[j]? = some c → c.ownBlock = some b → b ∈ blkG ms cs
  | [], cs, j, h, _, _ => by simp at h
  | m :: ms, [], j, _, h, _ => by simp at h
  | m :: ms, c' :: cs, 0, h1, h2, h3 => by
    simp only [List.getElem?_cons_zero, Option.some.injEq] at h1 h2
    subst h1; subst h2
    simp [blkG, h3]
  | m :: ms, c' :: cs, j + 1, h1, h2, h3 => by
    simp only [List.getElem?_cons_succ] at h1 h2
    have := blkG_mem h1 h2 h3
    cases m <;> simp [blkG, this]
theorem blkG_inj {b : Nat} {c c' : Value} : ∀ {ms : List PM} {cs : List Value} {i j : Nat}, (blkG ms cs).Nodup → ms[i]? = some .own → cs[i]? = some c → c.ownBlock = some b → ms[j]? = some .own → cs[j]? = some c' → c'.ownBlock = some b → i = j
  | [], cs, i, j, _, h, _, _, _, _, _ => by simp at h
  | m :: ms, [], i, j, _, _, h, _, _, _, _ => by simp at h
  | m :: ms, d :: cs, 0, 0, hn, h1, h2, h3, h4, h5, h6 => rfl
  | m :: ms, d :: cs, 0, j + 1, hn, h1, h2, h3, h4, h5, h6 => by
    simp only [List.getElem?_cons_zero, Option.some.injEq, List.getElem?_cons_succ] at h1 h2 h4 h5
    subst h1; subst h2
    have := blkG_mem h4 h5 h6
    simp [blkG, h3] at hn
    exact absurd this hn.1
  | m :: ms, d :: cs, i + 1, 0, hn, h1, h2, h3, h4, h5, h6 => by
    simp only [List.getElem?_cons_zero, Option.some.injEq, List.getElem?_cons_succ] at h1 h2 h4 h5
    subst h4; subst h5
    have := blkG_mem h1 h2 h3
    simp [blkG, h6] at hn
    exact absurd this hn.1
  | m :: ms, d :: cs, i + 1, j + 1, hn, h1, h2, h3, h4, h5, h6 => by
    simp only [List.getElem?_cons_succ] at h1 h2 h4 h5
    have hn' : (blkG ms cs).Nodup := by
      cases m with
      | own => simp only [blkG] at hn; exact (List.nodup_append.1 hn).2.1
      | _ => exact hn
    rw [blkG_inj hn' h1 h2 h3 h4 h5 h6]
theorem argsB_mem {p : PSh} {c : Value} {b : Nat} : ∀ {ps : List PSh} {cs : List Value} {s : Nat}, ps[s]? = some p → cs[s]? = some c → b ∈ argB w p c → b ∈ argsB w ps cs
  | [], cs, s, h, _, _ => by simp at h
  | q :: ps, [], s, _, h, _ => by simp at h
  | q :: ps, d :: cs, 0, h1, h2, h3 => by
    simp only [List.getElem?_cons_zero, Option.some.injEq] at h1 h2
    subst h1; subst h2
    exact List.mem_append_left _ h3
  | q :: ps, d :: cs, s + 1, h1, h2, h3 => List.mem_append_right _ (argsB_mem (by simpa using h1) (by simpa using h2) h3)
theorem argsB_nd {p : PSh} {c : Value} : ∀ {ps : List PSh} {cs : List Value} {s : Nat}, (argsB w ps cs).Nodup → ps[s]? = some p → cs[s]? = some c → (argB w p c).Nodup
  | [], cs, s, _, h, _ => by simp at h
  | q :: ps, [], s, _, _, h => by simp at h
  | q :: ps, d :: cs, 0, hn, h1, h2 => by
    simp only [List.getElem?_cons_zero, Option.some.injEq] at h1 h2
    subst h1; subst h2
    exact (List.nodup_append.1 hn).1
  | q :: ps, d :: cs, s + 1, hn, h1, h2 => argsB_nd (List.nodup_append.1 hn).2.1 (by simpa using h1) (by simpa using h2)
theorem argsB_inj {p p' : PSh} {c c' : Value} {b : Nat} : ∀ {ps : List PSh} {cs : List Value} {s s' : Nat}, (argsB w ps cs).Nodup → ps[s]? = some p → cs[s]? = some c → b ∈ argB w p c → ps[s']? = some p' → cs[s']? = some c' → b ∈ argB w p' c' → s = s'
  | [], cs, s, s', _, h, _, _, _, _, _ => by simp at h
  | q :: ps, [], s, s', _, _, h, _, _, _, _ => by simp at h
  | q :: ps, d :: cs, 0, 0, hn, h1, h2, h3, h4, h5, h6 => rfl
  | q :: ps, d :: cs, 0, s' + 1, hn, h1, h2, h3, h4, h5, h6 => by
    simp only [List.getElem?_cons_zero, Option.some.injEq, List.getElem?_cons_succ] at h1 h2 h4 h5
    subst h1; subst h2
    exact absurd rfl ((List.nodup_append.1 hn).2.2 b h3 b (argsB_mem h4 h5 h6))
  | q :: ps, d :: cs, s + 1, 0, hn, h1, h2, h3, h4, h5, h6 => by
    simp only [List.getElem?_cons_zero, Option.some.injEq, List.getElem?_cons_succ] at h1 h2 h4 h5
    subst h4; subst h5
    exact absurd rfl ((List.nodup_append.1 hn).2.2 b h6 b (argsB_mem h1 h2 h3))
  | q :: ps, d :: cs, s + 1, s' + 1, hn, h1, h2, h3, h4, h5, h6 => by
    exact congrArg Nat.succ (argsB_inj (ps := ps) (cs := cs) (List.nodup_append.1 hn).2.1 (by simpa using h1) (by simpa using h2) h3 (by simpa using h4) (by simpa using h5) h6)
theorem PArgs.get {F S : Nat → Prop} : ∀ {ps : List PSh} {xss : List (List V)} {cs : List Value}, PArgs P F S w ps xss cs → ps.length = cs.length ∧ ∀ {s : Nat} {p : PSh}, ps[s]? = some p → ∃ xs c, xss[s]? = some xs ∧ cs[s]? = some c ∧ PArg P F S w p xs c
  | [], [], [], _ => ⟨rfl, fun h => by simp at h⟩
  | p :: ps, xs :: xss, c :: cs, h => by
    obtain ⟨h1, h2⟩ := PArgs.get h.2
    refine ⟨by simp [h1], fun {s q} hq => ?_⟩
    cases s with
    | zero =>
      simp only [List.getElem?_cons_zero, Option.some.injEq] at hq
      subst hq
      exact ⟨xs, c, rfl, rfl, h.1⟩
    | succ s => simpa using h2 (by simpa using hq)
  | [], _ :: _, _, h => h.elim
  | [], [], _ :: _, h => h.elim
  | _ :: _, [], _, h => h.elim
  | _ :: _, _ :: _, [], h => h.elim

/-! ### what stands when a function begins -/
def isBoxP : PSh → Bool
  | .ptr _ _ => true
  | _ => false
/-- the cells of what comes in -/
def clOf (w : World) : PSh → Value → List Value
  | .one _, c => [c]
  | .agg _, .agg cs => cs.toList
  | .ptr _ _, .pointer (some ad) => cellsAt w ad.block
  | _, _ => []
theorem PArg.cells {F S : Nat → Prop} {p : PSh} {xs : List V} {c : Value} (h : PArg P F S w p xs c) (hn : p ≠ .nilp) : PCells P F S w p.ms xs (clOf w p c) := by
  cases p with
  | one m => exact h
  | agg ms => obtain ⟨cs, rfl, h⟩ := h; exact h
  | ptr ro ms => obtain ⟨b, rfl, _, h, _⟩ := h; exact h
  | nilp => exact absurd rfl hn
def rowC (ms : List PM) (xs : List V) (cl : List Value) (j : Nat) : Option Row := match ms[j]?, xs[j]?, cl[j]? with
  | some .own, some x, some c => some ⟨c, eOf x⟩
  | _, _, _ => none
def prmRow (w : World) (ps : List PSh) (xss : List (List V)) (cs : List Value) (box : Bool) (j s : Nat) : Option Row := match ps[s]?, xss[s]?, cs[s]? with
  | some p, some xs, some c => if isBoxP p = box then rowC p.ms xs (clOf w p c) j else none
  | _, _, _ => none
def L0 (w : World) (ps : List PSh) (xss : List (List V)) (cs : List Value) (F S : Nat → Prop) : Lay where
  row := fun t => if (t / 64) % 2 = 0 then prmRow w ps xss cs false (t % 64) (t / 64 / 2) else if t / 64 / 2 < pinB then none else prmRow w ps xss cs true (t % 64) (t / 64 / 2 - pinB)
  box := fun u => if u < pinB then none else match ps[u - pinB]?, cs[u - pinB]? with
    | some (.ptr ro _), some (.pointer (some ad)) => some (ad.block, ro)
    | _, _ => none
  F := F
  S := S
def tokP (p : PSh) (s j : Nat) : Nat := if isBoxP p then tokB (pinB + s) j else tokS s j
theorem rowC_some {ms : List PM} {xs : List V} {cl : List Value} {j : Nat} {r : Row} (h : rowC ms xs cl j = some r) : ∃ x c, ms[j]? = some .own ∧ xs[j]? = some x ∧ cl[j]? = some c ∧ r = ⟨c, eOf x⟩ := by
  unfold rowC at h
  split at h
  · rename_i x c h1 h2 h3
    cases h
    exact ⟨x, c, h1, h2, h3, rfl⟩
  · cases h
theorem tk_nil {b : Bool} {j : Nat} {xs : List V} {p : PSh} (h : isBoxP p = b) (hp : p ≠ .nilp) : tkV b j xs p = (xs[j]?).toList := by
  cases p <;> simp_all [isBoxP, tkV]
  all_goals (subst h; simp [tkV])
theorem row_inv {ps : List PSh} {xss : List (List V)} {cs : List Value} {F S : Nat → Prop} {t : Nat} {r : Row} (h : (L0 w ps xss cs F S).row t = some r) :
    ∃ s p xs c j x cc, ps[s]? = some p ∧ xss[s]? = some xs ∧ cs[s]? = some c ∧ p.ms[j]? = some .own ∧ xs[j]? = some x ∧ (clOf w p c)[j]? = some cc ∧ r = ⟨cc, eOf x⟩ ∧ env0 ps xss (tC t) = [x] ∧ t = tokP p s j := by
  have go : ∀ (box : Bool) (s : Nat), prmRow w ps xss cs box (t % 64) s = some r → env0 ps xss (tC t) = at2 (tkV box (t % 64)) ps xss s → t = (if box then tokB (pinB + s) (t % 64) else tokS s (t % 64)) →
      ∃ s p xs c j x cc, ps[s]? = some p ∧ xss[s]? = some xs ∧ cs[s]? = some c ∧ p.ms[j]? = some .own ∧ xs[j]? = some x ∧ (clOf w p c)[j]? = some cc ∧ r = ⟨cc, eOf x⟩ ∧ env0 ps xss (tC t) = [x] ∧ t = tokP p s j := by
    intro box s h1 h2 h3
    unfold prmRow at h1
    split at h1
    · rename_i p xs c hp hxs hc
      split at h1
      · rename_i hb
        obtain ⟨x, cc, h4, h5, h6, rfl⟩ := rowC_some h1
        refine ⟨s, p, xs, c, _, x, cc, hp, hxs, hc, h4, h5, h6, rfl, ?_, ?_⟩
        · rw [h2]
          simp only [at2, hp, hxs]
          rw [tk_nil hb (by rintro rfl; simp [PSh.ms] at h4), h5]
          rfl
        · unfold tokP; rw [hb]; exact h3
      · cases h1
    · cases h1
  have e3 : tC t / 3 = t := by simp only [tC]; omega
  have e0 : tC t % 3 = 2 := by simp only [tC]; omega
  simp only [L0] at h
  by_cases h1 : (t / 64) % 2 = 0
  · rw [if_pos h1] at h
    refine go false _ h ?_ ?_
    · simp only [env0, e3, e0, h1]; simp
    · simp only [tokS]; simp; omega
  · rw [if_neg h1] at h
    by_cases h2 : t / 64 / 2 < pinB
    · rw [if_pos h2] at h; cases h
    · rw [if_neg h2] at h
      refine go true _ h ?_ ?_
      · simp only [env0, e3, e0, if_neg h1, if_neg h2]; simp
      · simp only [tokB]; simp; omega
theorem row_at {ps : List PSh} {xss : List (List V)} {cs : List Value} {F S : Nat → Prop} {s j : Nat} {p : PSh} {xs : List V} {c : Value} (hp : ps[s]? = some p) (hx : xss[s]? = some xs) (hc : cs[s]? = some c) (hj : j < 64) :
    (L0 w ps xss cs F S).row (tokP p s j) = rowC p.ms xs (clOf w p c) j := by
  unfold tokP
  cases hb : isBoxP p with
  | false =>
    have h1 : (tokS s j / 64) % 2 = 0 := by simp only [tokS]; omega
    have h2 : tokS s j % 64 = j := by simp only [tokS]; omega
    have h3 : tokS s j / 64 / 2 = s := by simp only [tokS]; omega
    simp only [L0, Bool.false_eq_true, if_false, if_pos h1, h2, h3, prmRow, hp, hx, hc, hb, if_true]
  | true =>
    have h1 : ¬ (tokB (pinB + s) j / 64) % 2 = 0 := by simp only [tokB]; omega
    have h2 : tokB (pinB + s) j % 64 = j := by simp only [tokB]; omega
    have h3 : tokB (pinB + s) j / 64 / 2 = pinB + s := by simp only [tokB]; omega
    have h4 : ¬ pinB + s < pinB := by omega
    have h5 : pinB + s - pinB = s := by omega
    simp only [L0, if_true, if_neg h1, h2, h3, if_neg h4, h5, prmRow, hp, hx, hc, hb]
theorem ms64_ok : ∀ {ms : List PM} {k : Nat}, ms64 k ms = true → ∀ j, ms[j]? = some .own → k + j < 64
  | [], k, h, j, hj => by simp at hj
  | m :: ms, k, h, j, hj => by
    simp only [ms64, Bool.and_eq_true] at h
    cases j with
    | zero =>
      simp only [List.getElem?_cons_zero, Option.some.injEq] at hj
      subst hj
      simpa using h.1
    | succ j =>
      have := ms64_ok h.2 j (by simpa using hj)
      omega
theorem inAt_len (base : Nat) : ∀ (ms : List PM) (j : Nat), (inAt base j ms).length = ms.length
  | [], j => rfl
  | m :: ms, j => by cases m <;> simp [inAt, inAt_len base ms]
def pmAt (t : Nat) : PM → At
  | .own => .own t
  | .fz => .v .fz
  | .lent => .v .lent
theorem inAt_get (base : Nat) : ∀ (ms : List PM) (k j : Nat) (h : j < ms.length) (h' : j < (inAt base k ms).length), (inAt base k ms)[j] = pmAt (base + (k + j)) ms[j]
  | [], k, j, h, _ => by simp at h
  | m :: ms, k, 0, h, h' => by cases m <;> simp [inAt, pmAt]
  | m :: ms, k, j + 1, h, h' => by
    have := inAt_get base ms (k + 1) j (by simpa using h) (by rw [inAt_len]; simpa using h)
    rw [show k + 1 + j = k + (j + 1) by omega] at this
    cases m <;> simpa [inAt] using this
theorem ras_in {F S : Nat → Prop} {ms : List PM} {xs : List V} {cl : List Value} {base : Nat} (hF : L.F = F) (hS : L.S = S) (H : PCells P F S w ms xs cl)
    (hrow : ∀ j x c, ms[j]? = some .own → xs[j]? = some x → cl[j]? = some c → L.row (base + j) = some ⟨c, eOf x⟩) : RAs P L w (inAt base 0 ms) (List.zipWith inV ms xs) cl := by
  refine ⟨by rw [inAt_len]; exact H.ml, by rw [inAt_len, List.length_zipWith, H.ml, H.xl]; simp, fun i h0 h1 h2 => ?_⟩
  have hm : i < ms.length := by rw [inAt_len] at h0; exact h0
  have hx : i < xs.length := by have := H.xl; have := H.ml; omega
  obtain ⟨h3, h4⟩ := H.ok i hm hx h2
  rw [inAt_get base ms 0 i hm h0, List.getElem_zipWith]
  cases hmi : ms[i] with
  | own =>
    rw [hmi] at h4
    refine .inr ⟨rfl, ⟨cl[i], eOf xs[i]⟩, ?_, rfl⟩
    rw [Nat.zero_add]
    exact hrow i xs[i] cl[i] (by rw [List.getElem?_eq_getElem hm, hmi]) (List.getElem?_eq_getElem hx) (List.getElem?_eq_getElem h2)
  | fz =>
    rw [hmi] at h4
    subst hF
    exact .inr h4
  | lent =>
    rw [hmi] at h4
    subst hS
    exact .inr h4
theorem inSl_get : ∀ (ps : List PSh) (k s : Nat), (inSl k ps)[s]? = (ps[s]?).map (inSh (k + s))
  | [], k, s => by simp [inSl]
  | p :: ps, k, 0 => by simp [inSl]
  | p :: ps, k, s + 1 => by
    simp only [inSl, List.getElem?_cons_succ, inSl_get ps (k + 1) s]
    rw [show k + 1 + s = k + (s + 1) by omega]
theorem inSl_len : ∀ (ps : List PSh) (k : Nat), (inSl k ps).length = ps.length
  | [], k => rfl
  | p :: ps, k => by simp [inSl, inSl_len ps]
theorem inBx_get : ∀ (ps : List PSh) (k u : Nat) (x : Bx), lookB (inBx k ps) u = some x → ∃ s ro ms, u = pinB + (k + s) ∧ ps[s]? = some (.ptr ro ms) ∧ x = ⟨ro, inAt (tokB u 0) 0 ms⟩
  | [], k, u, x, h => by cases h
  | p :: ps, k, u, x, h => by
    have next : lookB (inBx (k + 1) ps) u = some x → ∃ s ro ms, u = pinB + (k + s) ∧ (p :: ps)[s]? = some (.ptr ro ms) ∧ x = ⟨ro, inAt (tokB u 0) 0 ms⟩ := by
      intro h
      obtain ⟨s, ro, ms, h1, h2, h3⟩ := inBx_get ps (k + 1) u x h
      exact ⟨s + 1, ro, ms, by omega, by simpa using h2, h3⟩
    cases p with
    | ptr ro ms =>
      simp only [inBx, lookB] at h
      split at h
      · rename_i hu
        cases h
        subst hu
        exact ⟨0, ro, ms, rfl, rfl, rfl⟩
      · exact next h
    | _ => exact next h
theorem entry {F S : Nat → Prop} {ps : List PSh} {xss : List (List V)} {cs : List Value} {n : Nat} {kl : List Nat} (hFS : ∀ b, F b → S b) (hS : ∀ b, S b → b < w.heap.size) (hA : PArgs P F S w ps xss cs) (hnd : (argsB w ps cs).Nodup)
    (hB : ∀ b ∈ argsB w ps cs, b < w.heap.size ∧ ¬ S b) (hn : ps.length ≤ n) (h64 : ps.all (fun p => ms64 0 p.ms) = true) :
    Rel P w (· ∈ argsB w ps cs) ⟨n, kl, fun s => (cs.toArray ++ Array.replicate (n - cs.toArray.size) undef).getD s undef, F⟩ (inAl n ps) (env0 ps xss) (L0 w ps xss cs F S) { tmps := cs.toArray ++ Array.replicate (n - cs.toArray.size) undef, defers := [] } w := by
  obtain ⟨hlen, hget⟩ := hA.get
  have h64' : ∀ {s : Nat} {p : PSh}, ps[s]? = some p → ∀ j, p.ms[j]? = some .own → j < 64 := fun {s p} hp j hj => by
    have := ms64_ok (List.all_eq_true.1 h64 p (List.mem_of_getElem? hp)) j hj
    omega
  -- a row's block
  have hblk : ∀ {t : Nat} {r : Row} {b : Nat}, (L0 w ps xss cs F S).row t = some r → r.blk = some b → ∃ s p c j cc, ps[s]? = some p ∧ cs[s]? = some c ∧ p.ms[j]? = some .own ∧ (clOf w p c)[j]? = some cc ∧ cc.ownBlock = some b ∧ b ∈ argB w p c ∧ b ∈ argsB w ps cs ∧ t = tokP p s j ∧ ∃ ad ms, p = .ptr false ms → c = .pointer (some ad) ∧ b ∈ blkG ms (cellsAt w ad.block) := by
    intro t r b h hb
    obtain ⟨s, p, xs, c, j, x, cc, hp, hx, hc, hm, hxj, hcc, rfl, _, rfl⟩ := row_inv h
    have hbk : cc.ownBlock = some b := hb
    obtain ⟨xs', c', hx', hc', hA'⟩ := hget hp
    rw [hx] at hx'; cases hx'
    rw [hc] at hc'; cases hc'
    have hmem := blkG_mem hm hcc hbk
    have hin : b ∈ argB w p c ∧ ∃ ad ms, p = .ptr false ms → c = .pointer (some ad) ∧ b ∈ blkG ms (cellsAt w ad.block) := by
      cases p with
      | one m => exact ⟨hmem, ⟨0, 0, none⟩, [], fun e => by cases e⟩
      | agg ms => obtain ⟨ds, rfl, _⟩ := hA'; exact ⟨hmem, ⟨0, 0, none⟩, [], fun e => by cases e⟩
      | ptr ro ms =>
        obtain ⟨g, rfl, _, _, hro⟩ := hA'
        cases ro with
        | false => exact ⟨List.mem_cons_of_mem _ hmem, ⟨g, 0, none⟩, ms, fun _ => ⟨rfl, hmem⟩⟩
        | true =>
          have := List.all_eq_true.1 (hro rfl).2 .own (List.mem_of_getElem? hm)
          simp at this
      | nilp => simp [PSh.ms] at hm
    exact ⟨s, p, c, j, cc, hp, hc, hm, hcc, hbk, hin.1, argsB_mem hp hc hin.1, rfl, hin.2⟩
  have hboxb : ∀ {u b : Nat} {ro : Bool}, (L0 w ps xss cs F S).box u = some (b, ro) → ∃ s ms, u = pinB + s ∧ ps[s]? = some (.ptr ro ms) ∧ cs[s]? = some (.pointer (some ⟨b, 0, none⟩)) := by
    intro u b ro h
    simp only [L0] at h
    split at h
    · cases h
    · rename_i hu
      split at h
      · rename_i ro' ms ad hp hc
        cases h
        obtain ⟨xs', c', hx', hc', g, rfl, _⟩ := hget hp
        rw [hc] at hc'
        cases hc'
        exact ⟨u - pinB, ms, by omega, hp, hc⟩
      · cases h
  have hbin : ∀ {s b : Nat} {ms : List PM}, ps[s]? = some (.ptr false ms) → cs[s]? = some (.pointer (some ⟨b, 0, none⟩)) → b ∈ argB w (.ptr false ms) (.pointer (some ⟨b, 0, none⟩)) := fun _ _ => List.mem_cons_self
  constructor
  · exact ⟨by simp; omega, fun s _ => rfl⟩
  · exact ⟨rfl, fun b h => h, fun b h => .inl h⟩
  · exact ⟨rfl, rfl, rfl, Nat.le_refl _, fun _ _ _ => rfl⟩
  · exact hFS
  · exact hS
  · intro s
    by_cases hs : s < ps.length
    · obtain ⟨p, hp⟩ : ∃ p, ps[s]? = some p := ⟨_, List.getElem?_eq_getElem hs⟩
      obtain ⟨xs, c, hx, hc, hA'⟩ := hget hp
      have h1 : (inAl n ps).slot s = inSh s p := by
        simp only [inAl, Al.slot, List.getD_eq_getElem?_getD]
        rw [List.getElem?_append_left (by rw [inSl_len]; exact hs), inSl_get, hp]
        simp
      have h2 : env0 ps xss (sC s) = slV xs p := by
        have e1 : sC s % 3 = 0 := by simp only [sC]; omega
        have e2 : sC s / 3 = s := by simp only [sC]; omega
        simp only [env0, e1, e2, if_true, at2, hp, hx]
      have h3 : (cs.toArray ++ Array.replicate (n - cs.toArray.size) undef).getD s undef = c := by
        rw [Array.getD_eq_getD_getElem?, Array.getElem?_append_left (by simpa [← hlen] using hs)]
        simp [hc]
      rw [h1, h2]
      simp only [h3]
      have hrow : p ≠ .nilp → isBoxP p = false → ∀ j x cc, p.ms[j]? = some .own → xs[j]? = some x → (clOf w p c)[j]? = some cc → (L0 w ps xss cs F S).row (tokS s 0 + j) = some ⟨cc, eOf x⟩ := by
        intro hpn hb j x cc hm hxj hcc
        have hj := h64' hp j hm
        have := row_at (w := w) (F := F) (S := S) hp hx hc hj
        have e : tokP p s j = tokS s 0 + j := by simp [tokP, hb, tokS]
        rw [e] at this
        rw [this]
        simp only [rowC, hm, hxj, hcc]
      cases p with
      | one m =>
        have := ras_in (L := L0 w ps xss cs F S) (base := tokS s 0) rfl rfl (hA'.cells (by simp)) (hrow (by simp) rfl)
        simp only [PSh.ms, clOf] at this
        cases m <;> exact RSl.one this
      | agg ms =>
        have := ras_in (L := L0 w ps xss cs F S) (base := tokS s 0) rfl rfl (hA'.cells (by simp)) (hrow (by simp) rfl)
        obtain ⟨ds, rfl, _⟩ := hA'
        exact ⟨ds, rfl, this⟩
      | ptr ro ms =>
        obtain ⟨g, rfl, _⟩ := hA'
        refine RSl.one (RAs.one (.inr ⟨rfl, g, ro, ?_, rfl⟩))
        have e : pinB + s - pinB = s := by omega
        simp only [L0, e, hp, hc]
        rw [if_neg (by omega)]
      | nilp =>
        have hc' : c = .pointer none := hA'
        subst hc'
        exact RSl.one (RAs.one (.inr ⟨rfl, rfl⟩))
    · have : (inAl n ps).slot s = .one .dead := by
        simp only [inAl, Al.slot, List.getD_eq_getElem?_getD]
        rw [List.getElem?_append_right (by rw [inSl_len]; omega), List.getElem?_replicate]
        split <;> rfl
      rw [this]; trivial
  · intro t r h
    obtain ⟨s, p, xs, c, j, x, cc, hp, hx, hc, hm, hxj, hcc, rfl, he, rfl⟩ := row_inv h
    obtain ⟨xs', c', hx', hc', hA'⟩ := hget hp
    rw [hx] at hx'; cases hx'
    rw [hc] at hc'; cases hc'
    rw [he]
    obtain ⟨hm1, hm2⟩ := List.getElem?_eq_some_iff.1 hm
    obtain ⟨hx1, hx2⟩ := List.getElem?_eq_some_iff.1 hxj
    obtain ⟨hc1, hc2⟩ := List.getElem?_eq_some_iff.1 hcc
    obtain ⟨_, h5⟩ := (hA'.cells (by rintro rfl; simp [PSh.ms] at hm)).ok j hm1 hx1 hc1
    rw [hm2, hx2, hc2] at h5
    exact h5
  · intro u b ro h x hx
    obtain ⟨s, ms, rfl, hp, hc⟩ := hboxb h
    obtain ⟨s', ro', ms', h1, h2, rfl⟩ := inBx_get ps 0 _ x hx
    have : s' = s := by omega
    subst this
    rw [hp] at h2
    cases h2
    obtain ⟨xs, c', hxs, hc', hA'⟩ := hget hp
    rw [hc] at hc'; cases hc'
    have hcl := hA'.cells (by simp)
    obtain ⟨g, hg, hop, _, _⟩ := hA'
    cases hg
    obtain ⟨C, ty, fz, hh, hfz⟩ := hop
    have hcC : cellsAt w b = C.toList := by simp [cellsAt, hh]
    refine ⟨rfl, C, ty, fz, hh, hfz, ?_⟩
    have h2 : env0 ps xss (bC (pinB + s')) = List.zipWith inV ms xs := by
      have e1 : ¬ bC (pinB + s') % 3 = 0 := by simp only [bC]; omega
      have e2 : bC (pinB + s') % 3 = 1 := by simp only [bC]; omega
      have e3 : bC (pinB + s') / 3 = pinB + s' := by simp only [bC]; omega
      have e4 : ¬ pinB + s' < pinB := by omega
      have e5 : pinB + s' - pinB = s' := by omega
      simp only [env0, e2, e3, e4, e5, if_true, if_false, at2, hp, hxs, bxV]
      simp
    rw [h2, ← hcC]
    refine ras_in (L := L0 w ps xss cs F S) rfl rfl hcl (fun j x cc hm hxj hcc => ?_)
    have hj := h64' hp j hm
    have := row_at (w := w) (F := F) (S := S) hp hxs hc hj
    have e : tokP (.ptr ro ms) s' j = tokB (pinB + s') 0 + j := by simp [tokP, isBoxP, tokB]
    rw [e] at this
    rw [this]
    show rowC ms xs (cellsAt w b) j = _
    have hcc' : (cellsAt w b)[j]? = some cc := hcc
    have hm' : ms[j]? = some PM.own := hm
    simp only [rowC, hm', hxj, hcc']
  · intro t r b h hb
    obtain ⟨s, p, c, j, cc, _, _, _, _, _, _, hm, _⟩ := hblk h hb
    exact ⟨.inr hm, hB b hm⟩
  · intro u b h
    obtain ⟨s, ms, rfl, hp, hc⟩ := hboxb h
    have hm := argsB_mem hp hc (hbin hp hc)
    exact ⟨.inr hm, hB b hm⟩
  · intro u b h
    obtain ⟨s, ms, rfl, hp, hc⟩ := hboxb h
    obtain ⟨xs, c', hxs, hc', g, hg, _, _, hro⟩ := hget hp
    rw [hc] at hc'
    cases hc'
    cases hg
    exact (hro rfl).1
  · intro t t' r r' b h h' hb hb'
    obtain ⟨s, p, c, j, cc, hp, hc, hm, hcc, hbk, hin, _, rfl, _⟩ := hblk h hb
    obtain ⟨s', p', c', j', cc', hp', hc', hm', hcc', hbk', hin', _, rfl, _⟩ := hblk h' hb'
    have hs := argsB_inj hnd hp hc hin hp' hc' hin'
    subst hs
    rw [hp] at hp'; cases hp'
    rw [hc] at hc'; cases hc'
    have hnd1 := argsB_nd hnd hp hc
    have hnd2 : (blkG p.ms (clOf w p c)).Nodup := by
      obtain ⟨xs, c', hxs, hc', hA'⟩ := hget hp
      rw [hc] at hc'; cases hc'
      cases p with
      | one m => exact hnd1
      | agg ms => obtain ⟨ds, rfl, _⟩ := hA'; exact hnd1
      | ptr ro ms =>
        obtain ⟨g, rfl, _, _, hro⟩ := hA'
        cases ro with
        | false => exact (List.nodup_cons.1 hnd1).2
        | true =>
          have := List.all_eq_true.1 (hro rfl).2 .own (List.mem_of_getElem? hm)
          simp at this
      | nilp => simp [PSh.ms] at hm
    rw [blkG_inj hnd2 hm hcc hbk hm' hcc' hbk']
  · intro t r u b ro h hb hu
    obtain ⟨s, p, c, j, cc, hp, hc, hm, hcc, hbk, hin, hmem, rfl, ad, ms0, hpt⟩ := hblk h hb
    obtain ⟨s', ms, rfl, hp', hc'⟩ := hboxb hu
    cases ro with
    | true =>
      obtain ⟨xs, c', hxs, hc2, g, hg, _, _, hro⟩ := hget hp'
      rw [hc'] at hc2
      cases hc2
      cases hg
      exact (hB b hmem).2 (hro rfl).1
    | false =>
      have hs := argsB_inj hnd hp hc hin hp' hc' (hbin hp' hc')
      subst hs
      rw [hp] at hp'; cases hp'
      rw [hc] at hc'; cases hc'
      have hnd1 := argsB_nd hnd hp hc
      have := (List.nodup_cons.1 hnd1).1
      exact this (blkG_mem hm hcc hbk)
  · intro u u' b ro h h'
    obtain ⟨s, ms, rfl, hp, hc⟩ := hboxb h
    obtain ⟨s', ms', rfl, hp', hc'⟩ := hboxb h'
    have hm := argsB_mem hp hc (hbin hp hc)
    cases ro with
    | true =>
      obtain ⟨xs, c', hxs, hc2, g, hg, _, _, hro⟩ := hget hp'
      rw [hc'] at hc2
      cases hc2
      cases hg
      exact absurd (hro rfl).1 (hB b hm).2
    | false =>
      rw [argsB_inj hnd hp hc (hbin hp hc) hp' hc' (hbin hp' hc')]

/-! ### a function's contract out of its body -/
theorem keepS_ge : ∀ {ps : List PSh} {s t : Nat}, t ∈ keepS s ps → s ≤ t
  | [], s, t, h => by simp [keepS] at h
  | p :: ps, s, t, h => by
    have next : t ∈ keepS (s + 1) ps → s ≤ t := fun h => by have := keepS_ge h; omega
    cases p with
    | ptr ro ms =>
      cases ro with
      | false =>
        rcases List.mem_cons.1 h with rfl | h
        · exact Nat.le_refl _
        · exact next h
      | true => exact next h
    | _ => exact next h
theorem kept_of {F S : Nat → Prop} : ∀ {ps : List PSh} {xss : List (List V)} {cs : List Value} {s : Nat}, (∀ t ∈ keepS s ps, a.tmps.getD t undef = cs.getD (t - s) undef) → PArgs P F S w ps xss cs → KeptOK a s ps cs
  | [], [], [], s, _, _ => trivial
  | p :: ps, xs :: xss, c :: cs, s, h, hA => by
    have next : (∀ t ∈ keepS (s + 1) ps, t ∈ keepS s (p :: ps)) → KeptOK a (s + 1) ps cs := fun hsub => kept_of (fun t ht => by
      have h1 := keepS_ge ht
      have := h t (hsub t ht)
      rw [show t - s = (t - (s + 1)) + 1 by omega] at this
      simpa using this) hA.2
    cases p with
    | ptr ro ms =>
      cases ro with
      | false =>
        obtain ⟨b, hb, _⟩ := hA.1
        refine ⟨⟨?_, b, hb⟩, next (fun t ht => List.mem_cons_of_mem _ ht)⟩
        have := h s List.mem_cons_self
        simpa using this
      | true => exact next (fun t ht => ht)
    | _ => exact next (fun t ht => ht)
  | [], _ :: _, _, s, _, h => h.elim
  | [], [], _ :: _, s, _, h => h.elim
  | _ :: _, [], _, s, _, h => h.elim
  | _ :: _, _ :: _, [], s, _, h => h.elim
/-- what is known of the package's variables stands in block 0 -/
structure GWDep (GW : World → Prop) : Prop where
  dep : ∀ w w', w'.heap[0]? = w.heap[0]? → GW w → GW w'
  pos : ∀ w, GW w → 0 < w.heap.size
theorem keepS_lt : ∀ {ps : List PSh} {s t : Nat}, t ∈ keepS s ps → t < s + ps.length
  | [], s, t, h => by simp [keepS] at h
  | p :: ps, s, t, h => by
    have nx : t ∈ keepS (s + 1) ps → t < s + (p :: ps).length := fun h => by have := keepS_lt h; simp; omega
    cases p with
    | ptr ro ms =>
      cases ro with
      | false =>
        rcases List.mem_cons.1 h with rfl | h
        · simp
        · exact nx h
      | true => exact nx h
    | _ => exact nx h
/-- what a function owes, over its frame -/
def frN (fn : Func) (g : Sig) (cs : List Value) (F : Nat → Prop) : Fr := ⟨fn.ntmps, keepS 0 g.ps, fun s => (cs.toArray ++ Array.replicate (fn.ntmps - cs.toArray.size) undef).getD s undef, F⟩
/-- a body that is told, from where nothing but the parameters is known -/
theorem body_wp {GW : World → Prop} (hG : GWDep GW) (hm : P.follows .mixedOrders = true) {fn fn0 : Func} {g : Sig} {sg : Sigs} {hs : Nat → Nat → Nat} {vc : VC} {c : Code} {F S : Nat → Prop} {w w1 : World} {xss raw : List (List V)} {cs : List Value} {n : Nat} (hb : fn.body = some c) (hn0 : fn0.ntmps = fn.ntmps) (hr0 : fn0.results = fn.results)
    (hc : compF P sg hs fn g = some vc) (hsim : ∀ f k g, (k, g) ∈ sg f → Sim P GW f g (Φ f k)) (hA : PArgs P F S w g.ps xss cs) (hgw : GW w) (h0n : 0 ∉ argsB w g.ps cs)
    (R : Rel P w (· ∈ argsB w g.ps cs) (frN fn g cs F) (inAl fn.ntmps g.ps) (env0 g.ps xss) L a w1) (hn : vc.run Φ n (env0 g.ps xss) = some (.ret raw)) :
    c.wp P (fun e a' w' => bodyPost P fn0 (fun e w' => ∃ vs F', e = .returned (tupV vs) ∧ SimPost P F w g cs raw vs F' w') e a' w' ∧ (((comp (cxOf P sg hs fn g) c (inAl fn.ntmps g.ps)).map fun r => r.nm.isNone) = some true → e = .ret)) a w1 := by
  unfold compF at hc
  split at hc
  · rename_i hchk
    rw [Bool.and_eq_true, decide_eq_true_eq] at hchk
    rw [hb] at hc
    simp only at hc
    have hsz := hG.pos w hgw
    have hsims : Sims P w (· ∈ argsB w g.ps cs) sg Φ := ⟨GW, ⟨fun w' k => hG.dep w w' (k.block 0 hsz h0n) hgw, fun h => h.elim (fun h => by omega) h0n⟩, hsim⟩
    generalize hN : frN fn g cs F = N at R
    have hNF : N.F = F := by rw [← hN]; rfl
    have hNs : N.st = (fn.ntmps, keepS 0 g.ps) := by rw [← hN]; rfl
    let RT : List (List V) → Act → World → Prop := fun raw a w' => a.defers = [] ∧ ∃ vs F', (results fn0 a.tmps).run P w' = .ok (tupV vs) w' ∧ SimPost P F w g cs raw vs F' w'
    have hres : ∀ tmps, results fn0 tmps = results fn tmps := fun tmps => by unfold results; rw [hr0]
    have hret : ∀ (α : Al) (i : VI) (ν : Env) (L : Lay) (a : Act) (w' : World) (out : Out), ((compRet P g fn.results.toList).run α).map (·.1) = some i → Rel P w (· ∈ argsB w g.ps cs) N α ν L a w' → (VC.ret i).run Φ n ν = some out → ∃ raw, out = .ret raw ∧ RT raw a w' := by
      intro α i ν L a w' out hi R' hv
      obtain ⟨q, hq, rfl⟩ := Option.map_eq_some_iff.1 hi
      have hk : KeptOK a 0 g.ps cs := kept_of (fun t ht => by
        have h1 := R'.nt.keep t (by rw [← hN]; exact ht)
        rw [h1, ← hN]
        have h2 : t < cs.length := by
          rw [← hA.get.1]
          have := keepS_lt ht
          omega
        simp only [frN]
        rw [Array.getD_eq_getD_getElem?, Array.getElem?_append_left (by simpa using h2)]
        simp [List.getD_eq_getElem?_getD]) hA
      obtain ⟨raw, rfl, h1, vs, F', h2, h3⟩ := ret_ok R' ⟨q.2, hq⟩ hk (fun b => Iff.rfl) hv
      rw [hNF] at h3
      exact ⟨raw, rfl, h1, vs, F', by rw [hres]; exact results_list h2, h3⟩
    have hend : ∀ {raw' : List (List V)} {a : Act} {w' : World}, raw' = raw → RT raw' a w' → a.defers = [] ∧ ∃ v, (results fn0 a.tmps).run P w' = .ok v w' ∧ ∃ vs F', Ending.returned v = .returned (tupV vs) ∧ SimPost P F w g cs raw vs F' w' := by
      rintro raw' a w' rfl ⟨h1, vs, F', h2, h3⟩
      exact ⟨h1, _, h2, vs, F', rfl, h3⟩
    simp only [Option.bind_eq_some_iff] at hc
    obtain ⟨r, hr1, hc⟩ := hc
    have hcx : cxOf P sg hs fn g = ⟨P, sg, N.st, hs, fun α => ((compRet P g fn.results.toList).run α).map (·.1)⟩ := by rw [hNs]; rfl
    have hno : ∀ {α2 : Al}, r.nm = some α2 → ((comp (cxOf P sg hs fn g) c (inAl fn.ntmps g.ps)).map fun r => r.nm.isNone) = some true → False := fun h1 h2 => by
      rw [hr1] at h2
      simp [h1] at h2
    rw [hcx] at hr1
    split at hc
    · rename_i hnm
      split at hc
      · rename_i hex
        cases hc
        refine wp_mono (comp_ok (RT := RT) hsims hm hret c hr1 R hn) fun e a w' hp => ?_
        cases e <;> first | exact hp.elim | skip
        exact ⟨hend rfl hp, fun _ => rfl⟩
      · cases hc
    · rename_i α1 hnm
      simp only [Option.bind_eq_some_iff] at hc
      obtain ⟨⟨i, lk⟩, hi, hc⟩ := hc
      split at hc
      · rename_i hex
        cases hc
        simp only [VC.run, Option.bind_eq_some_iff] at hn
        obtain ⟨out1, hn1, hn2⟩ := hn
        refine wp_mono (comp_ok (RT := RT) hsims hm hret c hr1 R hn1) fun e a w' hp => ?_
        cases out1 with
        | norm ν' =>
          cases e <;> first | exact hp.elim | skip
          obtain ⟨γ, L', hb', R'⟩ := hp
          rw [hnm] at hb'; cases hb'
          simp only at hn2
          obtain ⟨raw', h1, h2⟩ := hret α1 i ν' L' a w' (.ret raw) (by rw [hi]; rfl) R' hn2
          cases h1
          exact ⟨hend rfl h2, fun hh => (hno hnm hh).elim⟩
        | exit id ν' => simp only [Option.some.injEq] at hn2; cases hn2
        | ret raw' =>
          simp only [Option.some.injEq, Out.ret.injEq] at hn2
          subst hn2
          cases e <;> first | exact hp.elim | skip
          exact ⟨hend rfl hp, fun _ => rfl⟩
      · cases hc
  · cases hc
theorem compF_chk {sg : Sigs} {hs : Nat → Nat → Nat} {fn : Func} {g : Sig} {vc : VC} (hc : compF P sg hs fn g = some vc) : g.ps.length ≤ fn.ntmps ∧ g.ps.all (fun p => ms64 0 p.ms) = true ∧ ∃ c, fn.body = some c := by
  unfold compF at hc
  split at hc
  · rename_i hchk
    rw [Bool.and_eq_true, decide_eq_true_eq] at hchk
    split at hc
    · rename_i c hb
      exact ⟨hchk.1, hchk.2, c, hb⟩
    · cases hc
  · cases hc
theorem sim_of_body {GW : World → Prop} (hG : GWDep GW) (hm : P.follows .mixedOrders = true) {f : FuncId} {fn : Func} {g : Sig} {sg : Sigs} {hs : Nat → Nat → Nat} {vc : VC} {φ : List (List V) → Option (List (List V))} (hf : P.funcs[f]? = some fn) (hname : (fn.name == "runtime.NumGoroutine") = false)
    (hc : compF P sg hs fn g = some vc) (hsim : ∀ f k g, (k, g) ∈ sg f → Sim P GW f g (Φ f k)) (hφ : ∀ xss raw, φ xss = some raw → ∃ n, vc.run Φ n (env0 g.ps xss) = some (.ret raw)) : Sim P GW f g φ := by
  obtain ⟨h1, h2, c, hb⟩ := compF_chk hc
  refine ⟨⟨fn, hf, hname, by rw [hb]; rfl⟩, fun F S w xss cs raw hFS hS hA hnd hB hgw h0n hr => ?_⟩
  obtain ⟨n, hn⟩ := hφ xss raw hr
  exact calls_of_wp hf hb (wp_mono (body_wp hG hm hb rfl rfl hc hsim hA hgw h0n (entry (P := P) (kl := keepS 0 g.ps) hFS hS hA hnd hB h1 h2) hn) fun _ _ _ h => h.1)
/-- a slot of which nothing is known may hold whatever -/
theorem Rel.putDead (R : Rel P w0 M N α ν L a w) {d : Nat} (hd : N.W d) (h : α.slot d = .one .dead) (v : Value) : Rel P w0 M N α ν L (a.put (some d) v) w := by
  have R1 := R.put hd (h := .one .dead) (xs := ν (sC d)) (v := v) trivial
  have e : ν.upd (sC d) (ν (sC d)) = ν := by
    funext c
    by_cases hc : c = sC d
    · subst hc; rw [upd_same]
    · rw [upd_ne hc]
  rw [e] at R1
  refine R1.congr (fun s => ?_) (fun u => rfl)
  rw [slot_setS]
  split
  · rename_i hs; rw [hs.1, h]
  · rfl
end
end Go.Proofs.YtogfkdpgkloljaaDoorVs
