/-
  The plain law of SumSwap: what the law's Go functions compute, as lists and numbers, answers true at every input. Condition: none beyond the numbers' kinds and the slices' bounds.
-/
import Derived.Test.YtachjpkpgbofaaaDoorPSumSwapx0
import Derived.Test.YtachjpkpgbofaaaDoorPSumSwapx1
import Derived.Test.YtachjpkpgbofaaaDoorPSumSwapx2
import Derived.Lib.Bytes
import Derived.Laws.BitsLemmas
import Derived.DataShut
namespace Go.Proofs.YtachjpkpgbofaaaDoor.Pure
open Go Go.RowKit Go.Proofs.YtachjpkpgbofaaaDoor.PSumSwap Go.Proofs.YtachjpkpgbofaaaDoorW.PrintWords Go.Proofs.YtachjpkpgbofaaaDoorW.PrintLast Go.Proofs.YtachjpkpgbofaaaDoorW.PrintMore
set_option linter.unusedVariables false
set_option linter.unusedSimpArgs false
-- plain words on Go's bit operations, lists of bytes, and texts (this repo's own)
theorem fin_u8 {P : Int → Prop} (h : ∀ y : Fin 256, P ((y.val : Nat) : Int)) (x : Int) (h0 : 0 ≤ x) (h1 : x < 256) : P x := by
  obtain ⟨a, rfl⟩ := Int.eq_ofNat_of_zero_le h0
  exact h ⟨a, by omega⟩
theorem u8_and64_zero (x : Int) (h0 : 0 ≤ x) (h1 : x < 256) : (Go.bits .and .u8 x 64 = 0) ↔ x % 128 < 64 := fin_u8 (P := fun x => (Go.bits .and .u8 x 64 = 0) ↔ x % 128 < 64) (by decide +kernel) x h0 h1
theorem u8_and128_zero (x : Int) (h0 : 0 ≤ x) (h1 : x < 256) : (Go.bits .and .u8 x 128 = 0) ↔ x < 128 := fin_u8 (P := fun x => (Go.bits .and .u8 x 128 = 0) ↔ x < 128) (by decide +kernel) x h0 h1
theorem u8_and127 (x : Int) (h0 : 0 ≤ x) (h1 : x < 256) : Go.bits .and .u8 x 127 = x % 128 := fin_u8 (P := fun x => Go.bits .and .u8 x 127 = x % 128) (by decide +kernel) x h0 h1
theorem u8_or128 (x : Int) (h0 : 0 ≤ x) (h1 : x < 128) : Go.bits .or .u8 x 128 = x + 128 := fin_u8 (P := fun x => x < 128 → Go.bits .or .u8 x 128 = x + 128) (by decide +kernel) x h0 (by omega) h1
theorem i64_and127 (x : Int) : Go.bits .and .i64 x 127 = x % 128 := by
  show IntKind.i64.wrap (((BitVec.ofInt 64 x &&& BitVec.ofInt 64 127).toNat : Nat) : Int) = x % 128
  rw [BitVec.toNat_and, BitVec.toNat_ofInt, BitVec.toNat_ofInt, show ((127 : Int) % ((2 ^ 64 : Nat) : Int)).toNat = 2 ^ 7 - 1 from by decide, Nat.and_two_pow_sub_one_eq_mod, Go.IntKind.wrap_i64]
  omega
theorem i64_or_disj (a b : Int) (s : Nat) (hs : s ≤ 63) (ha0 : 0 ≤ a) (ha : a < 2 ^ s) (hb : b % 2 ^ s = 0) : Go.bits .or .i64 a b = wrap64 (a + b) := by
  show IntKind.i64.wrap (((BitVec.ofInt 64 a ||| BitVec.ofInt 64 b).toNat : Nat) : Int) = wrap64 (a + b)
  have hp : (2 : Int) ^ s ≤ 2 ^ 63 := by exact_mod_cast Nat.pow_le_pow_right (by decide) hs
  have h63 : (2 : Int) ^ 63 = 9223372036854775808 := by decide
  have hA : (a % ((2 ^ 64 : Nat) : Int)).toNat = a.toNat := by
    rw [show ((2 ^ 64 : Nat) : Int) = 18446744073709551616 from by decide]; omega
  have hd : (2 : Int) ^ s ∣ ((2 ^ 64 : Nat) : Int) := by
    exact_mod_cast Nat.pow_dvd_pow 2 (by omega : s ≤ 64)
  have hB : (b % ((2 ^ 64 : Nat) : Int)) % 2 ^ s = 0 := by rw [Int.emod_emod_of_dvd _ hd]; exact hb
  have hB0 : 0 ≤ b % ((2 ^ 64 : Nat) : Int) := Int.emod_nonneg _ (by decide)
  obtain ⟨B, hBe⟩ := Int.eq_ofNat_of_zero_le hB0
  have hBm : B % 2 ^ s = 0 := by
    rw [hBe] at hB; exact_mod_cast hB
  have hBq : B = 2 ^ s * (B / 2 ^ s) := by have := Nat.div_add_mod B (2 ^ s); omega
  have hAl : a.toNat < 2 ^ s := by
    have h1 : ((a.toNat : Nat) : Int) = a := Int.toNat_of_nonneg ha0
    have h2 : ((a.toNat : Nat) : Int) < ((2 ^ s : Nat) : Int) := by rw [h1]; exact_mod_cast ha
    exact_mod_cast h2
  rw [BitVec.toNat_or, BitVec.toNat_ofInt, BitVec.toNat_ofInt, hA, hBe, Int.toNat_natCast, Nat.or_comm]
  rw [hBq, ← Nat.two_pow_add_eq_or_of_lt hAl, ← hBq, Go.IntKind.wrap_i64]
  unfold wrap64
  have h1 : ((a.toNat : Nat) : Int) = a := Int.toNat_of_nonneg ha0
  rw [show ((2 ^ 64 : Nat) : Int) = 18446744073709551616 from by decide] at hBe
  omega
theorem wf_u8 {x : Int} (h : (Lit.int .u8 x).wf = true) : 0 ≤ x ∧ x < 256 := by
  have := (Lit.wf_int_iff .u8 x).1 h; simp [IntKind.min, IntKind.max, IntKind.signed, IntKind.bits] at this; omega
theorem wf_i64 {x : Int} (h : (Lit.int .i64 x).wf = true) : -9223372036854775808 ≤ x ∧ x ≤ 9223372036854775807 := by
  have := (Lit.wf_int_iff .i64 x).1 h; simp [IntKind.min, IntKind.max, IntKind.signed, IntKind.bits] at this; omega
theorem strOf_toList (xs : List Int) : (strOfNums xs).toList = xs.map fun n => UInt8.ofNat n.toNat := Go.Lib.strOfNums_toList xs
theorem strOf_inj {a b : List Int} (ha : ∀ x ∈ a, 0 ≤ x ∧ x < 256) (hb : ∀ x ∈ b, 0 ≤ x ∧ x < 256) : (strOfNums a).toList = (strOfNums b).toList ↔ a = b := by
  rw [strOf_toList, strOf_toList]
  constructor
  · intro h
    induction a generalizing b with
    | nil => cases b with
      | nil => rfl
      | cons y ys => simp at h
    | cons x xs ih => cases b with
      | nil => simp at h
      | cons y ys =>
        simp only [List.map_cons, List.cons.injEq] at h
        obtain ⟨h1, h2⟩ := h
        have hx := ha x (by simp)
        have hy := hb y (by simp)
        have e : x = y := by
          have h3 := congrArg UInt8.toNat h1
          simp only [UInt8.toNat_ofNat'] at h3
          omega
        rw [e, ih (fun z hz => ha z (by simp [hz])) (fun z hz => hb z (by simp [hz])) h2]
  · intro h; rw [h]

-- the sum of bytes: what sum.Of comes to, byte by byte (this repo's own)
open Go.Proofs.YtachjpkpgbofaaaDoor.Chunk
def ad (s : Int × Int) (c : Int) : Int × Int := ((s.1 + c) % 65521, (s.2 + s.1 + c) % 65521)
def By (l : List Int) : Prop := ∀ x ∈ l, 0 ≤ x ∧ x < 256
def Red (s : Int × Int) : Prop := 0 ≤ s.1 ∧ s.1 < 65521 ∧ 0 ≤ s.2 ∧ s.2 < 65521
theorem ad_red (s : Int × Int) (c : Int) : Red (ad s c) := by unfold Red ad; simp only []; omega
theorem ads_red : ∀ (l : List Int) (s : Int × Int), Red s → Red (l.foldl ad s)
  | [], s, h => h
  | c :: l, s, _ => ads_red l (ad s c) (ad_red s c)
def tri : Nat → Nat
  | 0 => 0
  | k + 1 => tri k + (k + 1)
theorem tri_le : ∀ k, 2 * tri k = k * (k + 1)
  | 0 => rfl
  | k + 1 => by have h := tri_le k; unfold tri; rw [Nat.mul_add, h, ← Nat.add_mul]; exact Nat.mul_comm _ _
theorem tri_5000 (k : Nat) (h : k ≤ 5000) : tri k ≤ 12502500 := by
  have h1 := tri_le k
  have h2 : k * (k + 1) ≤ 5000 * 5001 := Nat.mul_le_mul h (by omega)
  omega
theorem steps_ad : ∀ (l : List Int) (k : Nat) (t r : Int × Int), By l → k + l.length ≤ 5000 → 0 ≤ t.1 → t.1 ≤ 65520 + 255 * (k : Int) → 0 ≤ t.2 → t.2 ≤ 65520 + 65520 * (k : Int) + 255 * (tri k : Int) → t.1 % 65521 = r.1 → t.2 % 65521 = r.2 →
    (l.foldl Chunk.step t).1 % 65521 = (l.foldl ad r).1 ∧ (l.foldl Chunk.step t).2 % 65521 = (l.foldl ad r).2 := by
  intro l
  induction l with
  | nil => intro k t r _ _ _ _ _ _ h1 h2; exact ⟨h1, h2⟩
  | cons c l ih =>
    intro k t r hb hk a0 a1 b0 b1 h1 h2
    obtain ⟨c0, c1⟩ := hb c (by simp)
    have hl : k + 1 + l.length ≤ 5000 := by simp only [List.length_cons] at hk; omega
    have ht := tri_5000 (k + 1) (by omega)
    have htk : tri (k + 1) = tri k + (k + 1) := rfl
    have e : Chunk.step t c = (t.1 + c, t.2 + (t.1 + c)) := by
      unfold Chunk.step
      rw [Int.emod_eq_of_lt (by omega) (by omega), Int.emod_eq_of_lt (by omega) (by omega)]
    rw [List.foldl_cons, List.foldl_cons, e]
    refine ih (k + 1) _ _ (fun x hx => hb x (by simp [hx])) hl ?_ ?_ ?_ ?_ ?_ ?_
    · simp only []; omega
    · simp only []; omega
    · simp only []; omega
    · simp only []; omega
    · show (t.1 + c) % 65521 = (r.1 + c) % 65521
      omega
    · show (t.2 + (t.1 + c)) % 65521 = (r.2 + r.1 + c) % 65521
      omega
theorem chunk_ad (s : Int × Int) (hs : Red s) (l : List Int) (hb : By l) (hl : l.length ≤ 5000) : chunkS s l = l.foldl ad s := by
  obtain ⟨s1, s2, s3, s4⟩ := hs
  have h := steps_ad l 0 s s hb (by omega) s1 (by omega) s3 (by simp [tri]; omega) (Int.emod_eq_of_lt s1 s2) (Int.emod_eq_of_lt s3 s4)
  unfold chunkS
  simp only [h.1, h.2]
theorem piece_ad (p : List Int) (hb : By p) (s : Int × Int) (hs : Red s) : ∀ k, (upto (run_ p.length) k).foldl (fun s x => chunkS s (Chunk.part p x.1)) s = (p.take (min (5000 * k) p.length)).foldl ad s := by
  intro k
  induction k with
  | zero => simp [upto]
  | succ k ih =>
    have e : p.take (min (5000 * (k + 1)) p.length) = p.take (min (5000 * k) p.length) ++ Chunk.part p (run_ p.length k).1 := by
      unfold Chunk.part run_
      simp only []
      rw [show min (5000 * (k + 1)) p.length = min (5000 * k) p.length + min 5000 (p.length - 5000 * k) by omega, List.take_add]
    have hp : By (Chunk.part p (run_ p.length k).1) := fun x hx => hb x (List.mem_of_mem_drop (List.mem_of_mem_take hx))
    have hl : (Chunk.part p (run_ p.length k).1).length ≤ 5000 := by
      unfold Chunk.part run_
      simp only [List.length_take, List.length_drop]
      omega
    rw [upto_succ, List.foldl_append, ih, e, List.foldl_append]
    exact chunk_ad _ (ads_red _ _ hs) _ hp hl
theorem pieceS_ad (p : List Int) (hb : By p) (s : Int × Int) (hs : Red s) : pieceS s p = p.foldl ad s := by
  unfold pieceS
  rw [piece_ad p hb s hs, List.take_of_length_le]
  unfold rounds_
  omega
theorem pieces_ad : ∀ (l : List (List Int)) (s : Int × Int), (∀ p ∈ l, By p) → Red s → l.foldl pieceS s = l.flatten.foldl ad s
  | [], s, _, _ => rfl
  | p :: l, s, hb, hs => by
    rw [List.foldl_cons, pieceS_ad p (hb p (by simp)) s hs, List.flatten_cons, List.foldl_append]
    exact pieces_ad l _ (fun q hq => hb q (by simp [hq])) (ads_red _ _ hs)
theorem red0 : Red (1, 0) := by unfold Red; simp
theorem u32_or (x y : Int) (x0 : 0 ≤ x) (x1 : x < 65536) (y0 : 0 ≤ y) (y1 : y < 65536) : Go.bits .or .u32 (x * 65536 % 4294967296) y = x * 65536 + y := by
  obtain ⟨a, rfl⟩ := Int.eq_ofNat_of_zero_le x0
  obtain ⟨b, rfl⟩ := Int.eq_ofNat_of_zero_le y0
  show IntKind.u32.wrap (((BitVec.ofInt 32 ((a : Int) * 65536 % 4294967296) ||| BitVec.ofInt 32 (b : Int)).toNat : Nat) : Int) = _
  have hb : b < 2 ^ 16 := by omega
  have e1 : ((a : Int) * 65536 % 4294967296 % ((2 ^ 32 : Nat) : Int)).toNat = 2 ^ 16 * a := by
    rw [show ((2 ^ 32 : Nat) : Int) = 4294967296 from by decide]; omega
  have e2 : ((b : Int) % ((2 ^ 32 : Nat) : Int)).toNat = b := by
    rw [show ((2 ^ 32 : Nat) : Int) = 4294967296 from by decide]; omega
  rw [BitVec.toNat_or, BitVec.toNat_ofInt, BitVec.toNat_ofInt, e1, e2, ← Nat.two_pow_add_eq_or_of_lt hb]
  simp only [IntKind.wrap, IntKind.bits, IntKind.signed]
  simp only [Bool.false_and, Bool.false_eq_true, if_false]
  omega
def fin_ (t : Int × Int) : Int := t.2 * 65536 + t.1
theorem ofS_ad (l : List (List Int)) (hb : ∀ p ∈ l, By p) : ofS l = fin_ (l.flatten.foldl ad (1, 0)) := by
  have h := ads_red l.flatten (1, 0) red0
  unfold Red at h
  unfold ofS
  rw [pieces_ad l (1, 0) hb red0]
  exact u32_or _ _ h.2.2.1 (by omega) h.1 (by omega)
theorem fin_inj {s t : Int × Int} (hs : Red s) (ht : Red t) : fin_ s = fin_ t ↔ s = t := by
  obtain ⟨a, b⟩ := s
  obtain ⟨c, d⟩ := t
  unfold Red at hs ht
  unfold fin_
  simp only [Prod.mk.injEq] at *
  constructor <;> intro h <;> omega
theorem of_f (l : List (List Int)) (hb : ∀ p ∈ l, By p) (hl : ∀ p ∈ l, p.length ≤ 140737488351232) : sum_Of.f l = some (fin_ (l.flatten.foldl ad (1, 0))) := by
  rw [sum_Of.f, if_pos (List.all_eq_true.2 fun p hp => decide_eq_true (hl p hp)), ofS_ad l hb]
theorem wrap_in {x : Int} (h1 : -9223372036854775808 ≤ x) (h2 : x ≤ 9223372036854775807) : wrap64 x = x := by unfold wrap64; omega
theorem wrap_nat (x : Int) (n : Nat) (h : x = (n : Int)) (hn : n ≤ 1000000000000) : wrap64 x = (n : Int) := by
  subst h
  exact wrap_in (by omega) (by omega)
theorem lift_ {α : Type} {f : Nat → Option α} {k k' : Nat} {r : α} (hm : ∀ j, LeO (f j) (f (j + 1))) (h : f k = some r) (hk : k ≤ k') : f k' = some r := by
  obtain ⟨d, rfl⟩ : ∃ d, k' = k + d := ⟨k' - k, by omega⟩
  clear hk
  induction d with
  | zero => exact h
  | succ d ih => exact hm (k + d) r ih

theorem rd_mem (l : List Int) (i : Nat) (h : i < l.length) : rd l (i : Int) ∈ l := by
  simp [rd, h]
theorem split2 (l : List Int) (i : Nat) (h : i + 1 < l.length) : l = l.take i ++ rd l (i : Int) :: rd l ((i + 1 : Nat) : Int) :: l.drop (i + 2) := by
  have e1 : rd l (i : Int) = l[i] := by simp [rd, show i < l.length by omega]
  have e2 : rd l ((i + 1 : Nat) : Int) = l[i + 1] := by unfold rd; rw [Int.toNat_natCast]; simp [h]
  rw [e1, e2, ← List.drop_eq_getElem_cons h, ← List.drop_eq_getElem_cons (show i < l.length by omega), List.take_append_drop]
theorem set2 (l : List Int) (i : Nat) (h : i + 1 < l.length) (x y : Int) : (l.set i x).set (i + 1) y = l.take i ++ x :: y :: l.drop (i + 2) := by
  have e := split2 l i h
  have hlen : (l.take i).length = i := by rw [List.length_take]; omega
  conv => lhs; rw [e]
  rw [List.set_append_right _ _ (by omega), hlen, Nat.sub_self, List.set_append_right _ _ (by omega), hlen, show i + 1 - i = 1 by omega]
  rfl
theorem ad_swap (s : Int × Int) (hs : Red s) (x y : Int) (x0 : 0 ≤ x) (x1 : x < 256) (y0 : 0 ≤ y) (y1 : y < 256) : ad (ad s x) y = ad (ad s y) x ↔ x = y := by
  obtain ⟨a, b⟩ := s
  unfold Red at hs
  unfold ad
  simp only [Prod.mk.injEq] at *
  constructor <;> intro h <;> omega
theorem ad_inj (s t : Int × Int) (hs : Red s) (ht : Red t) (c : Int) : ad s c = ad t c ↔ s = t := by
  obtain ⟨a, b⟩ := s
  obtain ⟨a', b'⟩ := t
  unfold Red at hs ht
  unfold ad
  simp only [Prod.mk.injEq] at *
  constructor <;> intro h <;> omega
theorem ads_inj : ∀ (l : List Int) (s t : Int × Int), Red s → Red t → (l.foldl ad s = l.foldl ad t ↔ s = t)
  | [], s, t, _, _ => Iff.rfl
  | c :: l, s, t, hs, ht => (ads_inj l (ad s c) (ad t c) (ad_red s c) (ad_red t c)).trans (ad_inj s t hs ht c)
theorem swap_tail (l : List Int) (hb : By l) (hn : l.length ≤ 65536) (q q1 : Int) (i : Nat) (hq : q = (i : Int)) (hq1 : q1 = ((i + 1 : Nat) : Int)) (h : i + 1 < l.length) :
    ((some (([] : List Int) : List Int)).bind fun y168 => (if y168.length + l.length < 140737488355328 then ((some (y168 ++ l : List Int)).bind fun y171 => (if 0 ≤ q1 then (if q1 < (l.length : Int) then (if 0 ≤ q then (if q < (l.length : Int) then (if q < (y171.length : Int) then (if q1 < (y171.length : Int) then ((sum_Of.f (([l] : List (List Int)))).bind fun t181 => ((sum_Of.f (([((y171.set (q : Int).toNat (rd l q1)).set (q1 : Int).toNat (rd l q))] : List (List Int)))).bind fun t185 => (if ((t181 == t185) == ((rd l q) == (rd l q1))) = true then ((colloquylaw05_sure.f).bind fun t188 => (some t188)) else (none)))) else (none)) else (none)) else (none)) else (none)) else (none)) else (none))) else (none))) = some true := by
  subst hq hq1
  rw [Option.bind_some, if_pos (show ([] : List Int).length + l.length < 140737488355328 from (by simp only [List.length_nil]; omega)), Option.bind_some, List.nil_append]
  rw [if_pos (show (0 : Int) ≤ ((i + 1 : Nat) : Int) by omega), if_pos (show ((i + 1 : Nat) : Int) < (l.length : Int) by omega), if_pos (show (0 : Int) ≤ (i : Int) by omega), if_pos (show (i : Int) < (l.length : Int) by omega), if_pos (show (i : Int) < (l.length : Int) by omega), if_pos (show ((i + 1 : Nat) : Int) < (l.length : Int) by omega)]
  obtain ⟨x0, x1⟩ := hb _ (rd_mem l i (by omega))
  obtain ⟨y0, y1⟩ := hb _ (rd_mem l (i + 1) h)
  rw [Int.toNat_natCast, Int.toNat_natCast, set2 l i h]
  obtain ⟨x, hx⟩ : ∃ x, rd l (i : Int) = x := ⟨_, rfl⟩
  obtain ⟨y, hy⟩ : ∃ y, rd l ((i + 1 : Nat) : Int) = y := ⟨_, rfl⟩
  have e := split2 l i h
  rw [hx] at x0 x1 e ⊢
  rw [hy] at y0 y1 e ⊢
  have hb2 : By (l.take i ++ y :: x :: l.drop (i + 2)) := fun z hz => by
    refine hb z ?_
    rw [e]
    simp only [List.mem_append, List.mem_cons] at hz ⊢
    rcases hz with hz | rfl | rfl | hz
    · exact Or.inl hz
    · exact Or.inr (Or.inr (Or.inl rfl))
    · exact Or.inr (Or.inl rfl)
    · exact Or.inr (Or.inr (Or.inr hz))
  have hl2 : (l.take i ++ y :: x :: l.drop (i + 2)).length = l.length := by
    simp only [List.length_append, List.length_cons, List.length_take, List.length_drop]; omega
  have one : ∀ z : List Int, By z → z.length ≤ 65536 → sum_Of.f [z] = some (fin_ (z.foldl ad (1, 0))) := fun z hz hlz => by
    rw [of_f [z] (fun p hp => by simp at hp; subst hp; exact hz) (fun p hp => by simp at hp; subst hp; omega)]
    simp
  rw [one l hb hn, Option.bind_some, one _ hb2 (by rw [hl2]; exact hn), Option.bind_some]
  have hr := ads_red (l.take i) (1, 0) red0
  have key : (fin_ (l.foldl ad (1, 0)) == fin_ ((l.take i ++ y :: x :: l.drop (i + 2)).foldl ad (1, 0))) = (x == y) := by
    rw [Bool.eq_iff_iff, beq_iff_eq, beq_iff_eq, fin_inj (ads_red _ _ red0) (ads_red _ _ red0)]
    conv => lhs; lhs; rw [e]
    rw [List.foldl_append, List.foldl_append, List.foldl_cons, List.foldl_cons, List.foldl_cons, List.foldl_cons, ads_inj _ _ _ (ad_red _ _) (ad_red _ _)]
    exact ad_swap _ hr x y x0 x1 y0 y1
  rw [key, if_pos (by simp), colloquylaw05_sure.f]
  rfl
theorem SumSwap : colloquylaw05_SumSwap.Pure := by
  intro l a hm h1 hw ha
  have hb : By l := fun x hx => wf_u8 (hw x hx)
  refine ⟨60 + 1, ?_⟩
  have hS : colloquylaw05_SumSwap.j0 (60 + 1) l a true = some true := by
    rw [colloquylaw05_SumSwap.j0, if_pos rfl, colloquylaw05_sure.f]; rfl
  rw [colloquylaw05_SumSwap.f]
  by_cases g1 : (l.length : Int) < 2
  · rw [if_pos g1]; exact hS
  · rw [if_neg g1]
    by_cases g2 : (l.length : Int) > 65536
    · rw [decide_eq_true g2]; exact hS
    · rw [decide_eq_false g2, colloquylaw05_SumSwap.j0, if_neg (by simp)]
      have w1 : wrap64 ((l.length : Int) - 1) = (l.length : Int) - 1 := wrap_in (by omega) (by omega)
      have b1 := Int.tmod_lt_of_pos a (show (0 : Int) < (l.length : Int) - 1 by omega)
      have b2 : -((l.length : Int) - 1) < Int.tmod a ((l.length : Int) - 1) := by
        have h3 := Int.tmod_lt_of_pos (-a) (show (0 : Int) < (l.length : Int) - 1 by omega)
        rw [Int.neg_tmod] at h3
        omega
      rw [w1, if_neg (by omega)]
      obtain ⟨q, hq⟩ : ∃ q, Int.tmod a ((l.length : Int) - 1) = q := ⟨_, rfl⟩
      rw [hq] at b1 b2 ⊢
      by_cases g3 : q < 0
      · rw [if_pos g3]
        have w2 : wrap64 (q + ((l.length : Int) - 1)) = q + ((l.length : Int) - 1) := wrap_in (by omega) (by omega)
        have w3 : wrap64 (q + ((l.length : Int) - 1) + 1) = q + ((l.length : Int) - 1) + 1 := wrap_in (by omega) (by omega)
        rw [w2, w3]
        exact swap_tail l hb (by omega) _ _ (q + ((l.length : Int) - 1)).toNat (by omega) (by omega) (by omega)
      · rw [if_neg g3]
        have w3 : wrap64 (q + 1) = q + 1 := wrap_in (by omega) (by omega)
        rw [w3]
        exact swap_tail l hb (by omega) _ _ q.toNat (by omega) (by omega) (by omega)

end Go.Proofs.YtachjpkpgbofaaaDoor.Pure
