/-
  The plain law of VarintList: what the law's Go functions compute, as lists and numbers, answers true at every input. Condition: none beyond the numbers' kinds and the slices' bounds.
-/
import Derived.Test.YtmbbjmjgdfibdaaDoorPVarintListx0
import Derived.Test.YtmbbjmjgdfibdaaDoorPVarintListx1
import Derived.Test.YtmbbjmjgdfibdaaDoorPVarintListx2
import Derived.Test.YtmbbjmjgdfibdaaDoorPVarintListx3
import Derived.Lib.Bytes
import Derived.Laws.BitsLemmas
import Derived.DataShut
namespace Go.Proofs.YtmbbjmjgdfibdaaDoor.Pure
open Go Go.RowKit Go.Proofs.YtmbbjmjgdfibdaaDoor.PVarintList Go.Proofs.YtmbbjmjgdfibdaaDoorW.PrintWords Go.Proofs.YtmbbjmjgdfibdaaDoorW.PrintLast Go.Proofs.YtmbbjmjgdfibdaaDoorW.PrintMore
set_option linter.unusedVariables false
set_option linter.unusedSimpArgs false
-- plain words on Go's bit operations, lists of bytes, and texts (this repo's own)
theorem fin_u8 {P : Int → Prop} (h : ∀ y : Fin 256, P ((y.val : Nat) : Int)) (x : Int) (h0 : 0 ≤ x) (h1 : x < 256) : P x := by
  obtain ⟨a, rfl⟩ := Int.eq_ofNat_of_zero_le h0
  exact h ⟨a, by omega⟩
theorem u8_and64_zero (x : Int) (h0 : 0 ≤ x) (h1 : x < 256) : (Go.bits .and .u8 x 64 = 0) ↔ x % 128 < 64 := fin_u8 (P := fun x => (Go.bits .and .u8 x 64 = 0) ↔ x % 128 < 64) (by decide +kernel) x h0 h1
theorem u8_and128_zero (x : Int) (h0 : 0 ≤ x) (h1 : x < 256) : (Go.bits .and .u8 x 128 = 0) ↔ x < 128 := fin_u8 (P := fun x => (Go.bits .and .u8 x 128 = 0) ↔ x < 128) (by decide +kernel) x h0 h1
theorem u8_and127 (x : Int) (h0 : 0 ≤ x) (h1 : x < 256) : Go.bits .and .u8 x 127 = x % 128 := fin_u8 (P := fun x => Go.bits .and .u8 x 127 = x % 128) (by decide +kernel) x h0 h1
theorem u8_or128 (x : Int) (h0 : 0 ≤ x) (h1 : x < 128) : Go.bits .or .u8 x 128 = x + 128 := fin_u8 (P := fun x => x < 128 → Go.bits .or .u8 x 128 = x + 128) (by decide +kernel) x h0 (by omega) h1
theorem i64_and127 (x : Int) : Go.bits .and .i64 x 127 = x % 128 := by
  show IntKind.i64.wrap (((BitVec.ofInt 64 x &&& BitVec.ofInt 64 127).toNat : Nat) : Int) = x % 128
  rw [BitVec.toNat_and, BitVec.toNat_ofInt, BitVec.toNat_ofInt, show ((127 : Int) % ((2 ^ 64 : Nat) : Int)).toNat = 2 ^ 7 - 1 from by decide, Nat.and_two_pow_sub_one_eq_mod, Go.IntKind.wrap_i64]
  omega
theorem i64_or_disj (a b : Int) (s : Nat) (hs : s ≤ 63) (ha0 : 0 ≤ a) (ha : a < 2 ^ s) (hb : b % 2 ^ s = 0) : Go.bits .or .i64 a b = wrap64 (a + b) := by
  show IntKind.i64.wrap (((BitVec.ofInt 64 a ||| BitVec.ofInt 64 b).toNat : Nat) : Int) = wrap64 (a + b)
  have hp : (2 : Int) ^ s ≤ 2 ^ 63 := by exact_mod_cast Nat.pow_le_pow_right (by decide) hs
  have h63 : (2 : Int) ^ 63 = 9223372036854775808 := by decide
  have hA : (a % ((2 ^ 64 : Nat) : Int)).toNat = a.toNat := by
    rw [show ((2 ^ 64 : Nat) : Int) = 18446744073709551616 from by decide]; omega
  have hd : (2 : Int) ^ s ∣ ((2 ^ 64 : Nat) : Int) := by
    exact_mod_cast Nat.pow_dvd_pow 2 (by omega : s ≤ 64)
  have hB : (b % ((2 ^ 64 : Nat) : Int)) % 2 ^ s = 0 := by rw [Int.emod_emod_of_dvd _ hd]; exact hb
  have hB0 : 0 ≤ b % ((2 ^ 64 : Nat) : Int) := Int.emod_nonneg _ (by decide)
  obtain ⟨B, hBe⟩ := Int.eq_ofNat_of_zero_le hB0
  have hBm : B % 2 ^ s = 0 := by
    rw [hBe] at hB; exact_mod_cast hB
  have hBq : B = 2 ^ s * (B / 2 ^ s) := by have := Nat.div_add_mod B (2 ^ s); omega
  have hAl : a.toNat < 2 ^ s := by
    have h1 : ((a.toNat : Nat) : Int) = a := Int.toNat_of_nonneg ha0
    have h2 : ((a.toNat : Nat) : Int) < ((2 ^ s : Nat) : Int) := by rw [h1]; exact_mod_cast ha
    exact_mod_cast h2
  rw [BitVec.toNat_or, BitVec.toNat_ofInt, BitVec.toNat_ofInt, hA, hBe, Int.toNat_natCast, Nat.or_comm]
  rw [hBq, ← Nat.two_pow_add_eq_or_of_lt hAl, ← hBq, Go.IntKind.wrap_i64]
  unfold wrap64
  have h1 : ((a.toNat : Nat) : Int) = a := Int.toNat_of_nonneg ha0
  rw [show ((2 ^ 64 : Nat) : Int) = 18446744073709551616 from by decide] at hBe
  omega
theorem wf_u8 {x : Int} (h : (Lit.int .u8 x).wf = true) : 0 ≤ x ∧ x < 256 := by
  have := (Lit.wf_int_iff .u8 x).1 h; simp [IntKind.min, IntKind.max, IntKind.signed, IntKind.bits] at this; omega
theorem wf_i64 {x : Int} (h : (Lit.int .i64 x).wf = true) : -9223372036854775808 ≤ x ∧ x ≤ 9223372036854775807 := by
  have := (Lit.wf_int_iff .i64 x).1 h; simp [IntKind.min, IntKind.max, IntKind.signed, IntKind.bits] at this; omega
theorem strOf_toList (xs : List Int) : (strOfNums xs).toList = xs.map fun n => UInt8.ofNat n.toNat := Go.Lib.strOfNums_toList xs
theorem strOf_inj {a b : List Int} (ha : ∀ x ∈ a, 0 ≤ x ∧ x < 256) (hb : ∀ x ∈ b, 0 ≤ x ∧ x < 256) : (strOfNums a).toList = (strOfNums b).toList ↔ a = b := by
  rw [strOf_toList, strOf_toList]
  constructor
  · intro h
    induction a generalizing b with
    | nil => cases b with
      | nil => rfl
      | cons y ys => simp at h
    | cons x xs ih => cases b with
      | nil => simp at h
      | cons y ys =>
        simp only [List.map_cons, List.cons.injEq] at h
        obtain ⟨h1, h2⟩ := h
        have hx := ha x (by simp)
        have hy := hb y (by simp)
        have e : x = y := by
          have h3 := congrArg UInt8.toNat h1
          simp only [UInt8.toNat_ofNat'] at h3
          omega
        rw [e, ih (fun z hz => ha z (by simp [hz])) (fun z hz => hb z (by simp [hz])) h2]
  · intro h; rw [h]

-- what varint.Put, varint.Get and slices.Equal answer (this repo's own)
def enc (n : Int) : List Int := if h : -64 ≤ n ∧ n < 64 then [n % 128] else (n % 128 + 128) :: enc (n / 128)
termination_by n.natAbs
decreasing_by omega
theorem enc_small {n : Int} (h : -64 ≤ n ∧ n < 64) : enc n = [n % 128] := by rw [enc, dif_pos h]
theorem enc_big {n : Int} (h : ¬ (-64 ≤ n ∧ n < 64)) : enc n = (n % 128 + 128) :: enc (n / 128) := by rw [enc, dif_neg h]
theorem enc_ind {P : Int → Prop} (h1 : ∀ n, -64 ≤ n ∧ n < 64 → P n) (h2 : ∀ n, ¬ (-64 ≤ n ∧ n < 64) → P (n / 128) → P n) : ∀ n, P n := by
  intro n
  induction hd : n.natAbs using Nat.strongRecOn generalizing n with
  | _ d ih =>
    by_cases h : -64 ≤ n ∧ n < 64
    · exact h1 n h
    · exact h2 n h (ih (n / 128).natAbs (by omega) _ rfl)
theorem enc_bytes : ∀ n : Int, ∀ x ∈ enc n, 0 ≤ x ∧ x < 256 := by
  refine enc_ind (fun n h x hx => ?_) (fun n h ih x hx => ?_)
  · rw [enc_small h] at hx; simp at hx; omega
  · rw [enc_big h] at hx
    rcases List.mem_cons.1 hx with e | e
    · omega
    · exact ih x e
theorem enc_pos : ∀ n : Int, 1 ≤ (enc n).length := by
  intro n
  by_cases h : -64 ≤ n ∧ n < 64
  · rw [enc_small h]; simp
  · rw [enc_big h]; simp
theorem enc_inj : ∀ n m : Int, enc n = enc m → n = m := by
  refine enc_ind (fun n h => ?_) (fun n h ih => ?_)
  · intro m hm
    by_cases h' : -64 ≤ m ∧ m < 64
    · rw [enc_small h, enc_small h'] at hm; simp at hm; omega
    · rw [enc_small h, enc_big h'] at hm; simp at hm; omega
  · intro m hm
    by_cases h' : -64 ≤ m ∧ m < 64
    · rw [enc_big h, enc_small h'] at hm; simp at hm; omega
    · rw [enc_big h, enc_big h'] at hm
      simp only [List.cons.injEq] at hm
      have := ih _ hm.2
      omega
theorem enc_len_le : ∀ (d : Nat) (n : Int), -(64 * 128 ^ d) ≤ n → n < 64 * 128 ^ d → (enc n).length ≤ d + 1 := by
  intro d
  induction d with
  | zero =>
    intro n h1 h2
    rw [enc_small (by omega)]; simp
  | succ d ih =>
    intro n h1 h2
    by_cases h : -64 ≤ n ∧ n < 64
    · rw [enc_small h]; simp
    · rw [enc_big h]
      have := ih (n / 128) (by rw [Int.pow_succ] at h1; omega) (by rw [Int.pow_succ] at h2; omega)
      simp; omega
theorem enc_len_10 (n : Int) (h1 : -9223372036854775808 ≤ n) (h2 : n ≤ 9223372036854775807) : (enc n).length ≤ 10 :=
  enc_len_le 9 n (by have : (64 : Int) * 128 ^ 9 = 590295810358705651712 := by decide
                     omega) (by have : (64 : Int) * 128 ^ 9 = 590295810358705651712 := by decide
                                omega)
theorem put_round (k : Nat) (n : Int) (acc : List Int) (hl : acc.length < 140737488355328) :
    varint_Put.l0 (k + 1) n acc = if -64 ≤ n ∧ n < 64 then some (acc ++ [n % 128]) else varint_Put.l0 k (n / 128) (acc ++ [n % 128 + 128]) := by
  have e1 : n % 128 % 256 = n % 128 := by omega
  have e2 : (n % 128) % 128 = n % 128 := by omega
  simp only [varint_Put.l0, i64_and127, e1, u8_and64_zero _ (show 0 ≤ n % 128 by omega) (by omega), u8_or128 _ (show 0 ≤ n % 128 by omega) (by omega), e2, if_pos hl]
  by_cases h1 : n / 128 = 0
  · by_cases h3 : n % 128 < 64
    · rw [if_pos h1, if_pos h3, if_pos (by omega)]
    · rw [if_pos h1, if_neg h3, if_neg (by omega), if_neg (by omega)]
  · rw [if_neg h1]
    by_cases h2 : n / 128 = -1
    · by_cases h3 : n % 128 < 64
      · rw [if_pos h2, if_pos h3, if_neg (by omega)]
      · rw [if_pos h2, if_neg h3, if_pos (by omega)]
    · rw [if_neg h2, if_neg (by omega)]
theorem put_l0 : ∀ (d : Nat) (n : Int), -(64 * 128 ^ d) ≤ n → n < 64 * 128 ^ d → ∀ (k : Nat) (acc : List Int), d < k → acc.length + d < 140737488355328 → varint_Put.l0 k n acc = some (acc ++ enc n) := by
  intro d
  induction d with
  | zero =>
    intro n h1 h2 k acc hk hl
    obtain ⟨k, rfl⟩ : ∃ m, k = m + 1 := ⟨k - 1, by omega⟩
    rw [put_round k n acc (by omega), if_pos (by omega), enc_small (by omega)]
  | succ d ih =>
    intro n h1 h2 k acc hk hl
    obtain ⟨k, rfl⟩ : ∃ m, k = m + 1 := ⟨k - 1, by omega⟩
    rw [put_round k n acc (by omega)]
    by_cases h : -64 ≤ n ∧ n < 64
    · rw [if_pos h, enc_small h]
    · rw [if_neg h, ih (n / 128) (by rw [Int.pow_succ] at h1; omega) (by rw [Int.pow_succ] at h2; omega) k _ (by omega) (by simp; omega), enc_big h]
      simp
theorem put_f (acc : List Int) (n : Int) (h1 : -9223372036854775808 ≤ n) (h2 : n ≤ 9223372036854775807) (hl : acc.length < 140737488355000) (k : Nat) (hk : 10 ≤ k) : varint_Put.f k acc n = some (acc ++ enc n) := by
  have e9 : (64 : Int) * 128 ^ 9 = 590295810358705651712 := by decide
  simp only [varint_Put.f, slices_Clone_byte_byte.f, Option.bind_some]
  rw [if_pos (by simp; omega)]
  simp only [Option.bind_some, List.nil_append]
  exact put_l0 9 n (by omega) (by omega) k acc (by omega) (by omega)
theorem equal_l0 (a b : List Int) (hab : a.length = b.length) (hl : a.length < 9223372036854775807) : ∀ (d : Nat) (i : Nat) (k : Nat), a.length - i = d → i ≤ a.length → d < k →
    slices_Equal_byte_byte.l0 k a b (a.length : Int) (i : Int) = some (decide (a.drop i = b.drop i)) := by
  intro d
  induction d with
  | zero =>
    intro i k hd hi hk
    obtain ⟨k, rfl⟩ : ∃ m, k = m + 1 := ⟨k - 1, by omega⟩
    simp only [slices_Equal_byte_byte.l0]
    rw [if_neg (by omega), List.drop_eq_nil_of_le (by omega), List.drop_eq_nil_of_le (by omega)]
    simp
  | succ d ih =>
    intro i k hd hi hk
    obtain ⟨k, rfl⟩ : ∃ m, k = m + 1 := ⟨k - 1, by omega⟩
    have h1 : i < a.length := by omega
    have h2 : i < b.length := by omega
    simp only [slices_Equal_byte_byte.l0]
    rw [if_pos (by omega), if_pos (by omega), if_pos (by omega), if_pos (by omega)]
    have w : wrap64 ((i : Int) + 1) = ((i + 1 : Nat) : Int) := by unfold wrap64; omega
    rw [w, ih (i + 1) k (by omega) (by omega) (by omega)]
    have ra : rd a (i : Int) = a[i] := by simp [rd, h1]
    have rb : rd b (i : Int) = b[i] := by simp [rd, h2]
    have da := List.drop_eq_getElem_cons h1
    have db := List.drop_eq_getElem_cons h2
    rw [ra, rb]
    by_cases e : a[i] = b[i]
    · rw [if_pos e]
      congr 1
      rw [decide_eq_decide, da, db, e]
      exact ⟨fun h => by rw [h], fun h => (List.cons.inj h).2⟩
    · rw [if_neg e]
      have : ¬ a.drop i = b.drop i := by
        rw [da, db]
        intro h
        exact e (List.cons.inj h).1
      rw [decide_eq_false this]
theorem equal_f (a b : List Int) (hl : a.length < 9223372036854775807) (k : Nat) (hk : a.length < k) : slices_Equal_byte_byte.f k a b = some (decide (a = b)) := by
  simp only [slices_Equal_byte_byte.f]
  by_cases h : a.length = b.length
  · rw [if_pos (by omega)]
    have := equal_l0 a b h hl a.length 0 k (by omega) (by omega) hk
    simpa using this
  · rw [if_neg (by omega)]
    have : ¬ a = b := fun e => h (by rw [e])
    simp [this]

-- varint.Get reads what varint.Put wrote (this repo's own)
theorem wrap_in {x : Int} (h1 : -9223372036854775808 ≤ x) (h2 : x ≤ 9223372036854775807) : wrap64 x = x := by unfold wrap64; omega
theorem wrap_succ (i : Nat) (h : i ≤ 140737488355328) : wrap64 ((i : Int) + 1) = ((i + 1 : Nat) : Int) := by unfold wrap64; omega
theorem pow_le_63 {s : Nat} (hs : s ≤ 63) : (2 : Int) ^ s ≤ 9223372036854775808 := by
  have h : (2 : Int) ^ s ≤ 2 ^ 63 := by exact_mod_cast Nat.pow_le_pow_right (by decide) hs
  have h63 : (2 : Int) ^ 63 = 9223372036854775808 := by decide
  omega
theorem pow_pos' (s : Nat) : (0 : Int) < 2 ^ s := by exact_mod_cast Nat.two_pow_pos s
theorem wrap_mod_pow (x : Int) (s : Nat) (hs : s ≤ 63) : (wrap64 (x * 2 ^ s)) % 2 ^ s = 0 := by
  have hd : (2 : Int) ^ s ∣ 18446744073709551616 := by
    have h : (2 : Int) ^ s ∣ ((2 ^ 64 : Nat) : Int) := by exact_mod_cast Nat.pow_dvd_pow 2 (by omega : s ≤ 64)
    rwa [show ((2 ^ 64 : Nat) : Int) = 18446744073709551616 from by decide] at h
  have e : wrap64 (x * 2 ^ s) = x * 2 ^ s - 18446744073709551616 * ((x * 2 ^ s + 9223372036854775808) / 18446744073709551616) := by
    unfold wrap64; omega
  rw [e]
  obtain ⟨q, hq⟩ := hd
  rw [hq, Int.mul_comm x, Int.mul_assoc, ← Int.mul_sub]
  exact Int.mul_emod_right _ _
theorem wrap_add_wrap (a b : Int) : wrap64 (a + wrap64 b) = wrap64 (a + b) := by unfold wrap64; omega
theorem shl_i64 (c : Int) (s : Nat) (hs : s ≤ 63) : shl .i64 c (s : Int) = wrap64 (c * 2 ^ s) := by
  have h : IntKind.i64.bits = 64 := rfl
  simp only [shl, h, Int.toNat_natCast, Nat.min_eq_left (show s ≤ 64 by omega)]
  rw [Go.IntKind.wrap_i64]; unfold wrap64; rfl
theorem get_or (a c : Int) (s : Nat) (hs : s ≤ 63) (h0 : 0 ≤ a) (h1 : a < 2 ^ s) : Go.bits .or .i64 a (shl .i64 c (s : Int)) = wrap64 (a + c * 2 ^ s) := by
  rw [shl_i64 c s hs, i64_or_disj a _ s hs h0 h1 (wrap_mod_pow c s hs), wrap_add_wrap]
theorem emod_step (n p : Int) (hp : 0 < p) : n % (p * 128) = n % p + (n / p % 128) * p := by
  have h1 := Int.mul_ediv_add_emod n p
  have h2 := Int.mul_ediv_add_emod (n / p) 128
  have h3 := Int.emod_nonneg n (Int.ne_of_gt hp)
  have h4 := Int.emod_lt_of_pos n hp
  have h5 := Int.emod_nonneg (n / p) (show (128 : Int) ≠ 0 by decide)
  have h6 := Int.emod_lt_of_pos (n / p) (show (0 : Int) < 128 by decide)
  have e : n = (n % p + (n / p % 128) * p) + (p * 128) * (n / p / 128) := by
    conv => lhs; rw [← h1, ← h2]
    rw [Int.mul_add, Int.mul_assoc, Int.mul_comm p (n / p % 128)]
    omega
  have h7 : (n / p % 128) * p ≤ 127 * p := Int.mul_le_mul_of_nonneg_right (by omega) (Int.le_of_lt hp)
  have h8 : 0 ≤ (n / p % 128) * p := Int.mul_nonneg h5 (Int.le_of_lt hp)
  conv => lhs; rw [e]
  rw [Int.add_mul_emod_self_left]
  exact Int.emod_eq_of_lt (by omega) (by omega)
theorem pow7 (i : Nat) : (2 : Int) ^ (7 * (i + 1)) = 2 ^ (7 * i) * 128 := by
  rw [show 7 * (i + 1) = 7 * i + 7 from by omega, Int.pow_add]; rfl
theorem get_j2 (whole : List Int) (n : Int) (h1 : -9223372036854775808 ≤ n) (h2 : n ≤ 9223372036854775807) (i k : Nat) (hk : 12 ≤ k) (hi : i < whole.length) (hl : whole.length ≤ 140737488351232)
    : varint_Get.j2 (k + 1) whole n (i : Int) = if whole.take (i + 1) = enc n then some (n, ((i + 1 : Nat) : Int), none) else some (0, 0, some 2) := by
  have hp := put_f [] n h1 h2 (by simp) k (by omega)
  have w : wrap64 ((i : Int) + 1) = ((i + 1 : Nat) : Int) := by unfold wrap64; omega
  have hlen := enc_len_10 n h1 h2
  simp only [varint_Get.j2, hp, Option.bind_some, w, List.nil_append, Int.toNat_natCast]
  rw [if_pos (by omega), if_pos (by omega), equal_f (enc n) _ (by omega) k (by omega)]
  simp only [Option.bind_some]
  by_cases e : whole.take (i + 1) = enc n
  · rw [if_pos e, e]; simp
  · rw [if_neg e]
    have e' : ¬ enc n = whole.take (i + 1) := fun x => e x.symm
    simp [e']
/-- The value that Get reads at its last byte. -/
def valOf (a c : Int) (i : Nat) : Int := if c % 128 < 64 then wrap64 (a + c * 2 ^ (7 * i)) else if i < 9 then wrap64 (a + c * 2 ^ (7 * i) - 2 ^ (7 * (i + 1))) else wrap64 (a + c * 2 ^ (7 * i))
theorem get_last (whole : List Int) (a c : Int) (i k : Nat) (hi : i < whole.length) (hi9 : i ≤ 9) (hl : whole.length ≤ 140737488351232) (hc : rd whole i = c) (h0 : 0 ≤ c) (h1 : c < 128) (ha0 : 0 ≤ a) (ha : a < 2 ^ (7 * i)) :
    varint_Get.l0 (k + 2) whole a ((7 * i : Nat) : Int) whole (whole.length : Int) (i : Int) = varint_Get.j2 k whole (valOf a c i) (i : Int) := by
  have hw : wrap64 c = c := by unfold wrap64; omega
  have hu : IntKind.u64.wrap (((7 * i : Nat) : Int) + 7) = ((7 * (i + 1) : Nat) : Int) := by
    simp [IntKind.wrap, IntKind.bits, IntKind.signed]; omega
  simp only [varint_Get.l0, hc, u8_and127 c h0 (by omega), Int.emod_eq_of_lt h0 h1, hw]
  rw [if_pos (by omega), if_pos (by omega), if_pos (by omega), if_neg (by omega), if_pos (by omega), if_pos ((u8_and128_zero c h0 (by omega)).2 h1)]
  rw [get_or a c (7 * i) (by omega) ha0 ha, hu]
  unfold valOf
  by_cases hs : c % 128 < 64
  · rw [if_pos ((u8_and64_zero c h0 (by omega)).2 hs), if_pos hs]
    simp [varint_Get.j1]
  · rw [if_neg (fun e => hs ((u8_and64_zero c h0 (by omega)).1 e)), if_neg hs]
    by_cases h9 : i < 9
    · have hd : decide (((7 * (i + 1) : Nat) : Int) < 64) = true := decide_eq_true (by omega)
      rw [hd, if_pos h9]
      have hp := pow_le_63 (s := 7 * (i + 1)) (by omega)
      have hpp := pow_pos' (7 * i)
      have e7 := pow7 i
      have hcm : c * 2 ^ (7 * i) ≤ 127 * 2 ^ (7 * i) := Int.mul_le_mul_of_nonneg_right (by omega) (Int.le_of_lt hpp)
      have hc0 : 0 ≤ c * 2 ^ (7 * i) := Int.mul_nonneg h0 (Int.le_of_lt hpp)
      have hin : wrap64 (a + c * 2 ^ (7 * i)) = a + c * 2 ^ (7 * i) := by unfold wrap64; omega
      simp only [varint_Get.j1, if_true, hin]
      rw [if_pos (by omega), get_or _ (-1) (7 * (i + 1)) (by omega) (by omega) (by omega)]
      congr 1
      rw [show ∀ x y : Int, x + -1 * y = x - y from fun x y => by omega]
    · have hd : decide (((7 * (i + 1) : Nat) : Int) < 64) = false := decide_eq_false (by omega)
      rw [hd, if_neg h9]
      simp [varint_Get.j1]
theorem get_more (whole : List Int) (a c : Int) (i k : Nat) (hi : i < whole.length) (hi9 : i ≤ 9) (hl : whole.length ≤ 140737488351232) (hc : rd whole i = c) (h0 : 128 ≤ c) (h1 : c < 256) (ha0 : 0 ≤ a) (ha : a < 2 ^ (7 * i)) :
    varint_Get.l0 (k + 1) whole a ((7 * i : Nat) : Int) whole (whole.length : Int) (i : Int) = varint_Get.l0 k whole (wrap64 (a + (c % 128) * 2 ^ (7 * i))) ((7 * (i + 1) : Nat) : Int) whole (whole.length : Int) ((i + 1 : Nat) : Int) := by
  have hw : wrap64 (c % 128) = c % 128 := by unfold wrap64; omega
  have hu : IntKind.u64.wrap (((7 * i : Nat) : Int) + 7) = ((7 * (i + 1) : Nat) : Int) := by
    simp [IntKind.wrap, IntKind.bits, IntKind.signed]; omega
  have w : wrap64 ((i : Int) + 1) = ((i + 1 : Nat) : Int) := by unfold wrap64; omega
  simp only [varint_Get.l0, hc, u8_and127 c (by omega) h1, hw]
  rw [if_pos (by omega), if_pos (by omega), if_pos (by omega), if_neg (by omega), if_pos (by omega), if_neg (fun e => by have := (u8_and128_zero c (by omega) h1).1 e; omega)]
  rw [get_or a (c % 128) (7 * i) (by omega) ha0 ha, hu, w]
theorem rd_drop {l r : List Int} {x : Int} {i : Nat} (h : l.drop i = x :: r) : i < l.length ∧ rd l (i : Int) = x ∧ l.drop (i + 1) = r := by
  have hi : i < l.length := by
    rcases Nat.lt_or_ge i l.length with h' | h'
    · exact h'
    · rw [List.drop_eq_nil_of_le h'] at h; cases h
  rw [List.drop_eq_getElem_cons hi] at h
  injection h with h1 h2
  exact ⟨hi, by simp [rd, hi, h1], h2⟩
theorem get_enc (n : Int) (hn1 : -9223372036854775808 ≤ n) (hn2 : n ≤ 9223372036854775807) (behind whole : List Int) (hw : whole = enc n ++ behind) (hl : whole.length ≤ 140737488351232) :
    ∀ (d i : Nat) (m : Int), m = n / 2 ^ (7 * i) → -(64 * 128 ^ d) ≤ m → m < 64 * 128 ^ d → i + d ≤ 9 → whole.drop i = enc m ++ behind → (enc n).length = i + (enc m).length → ∀ k, d + 16 < k →
      varint_Get.l0 k whole (n % 2 ^ (7 * i)) ((7 * i : Nat) : Int) whole (whole.length : Int) (i : Int) = some (n, ((enc n).length : Int), none) := by
  intro d
  induction d with
  | zero =>
    intro i m hm hm1 hm2 hi hdrop hlen k hk
    obtain ⟨k, rfl⟩ : ∃ q, k = q + 3 := ⟨k - 3, by omega⟩
    have hsm : -64 ≤ m ∧ m < 64 := by omega
    rw [enc_small hsm] at hdrop hlen
    obtain ⟨hil, hrd, _⟩ := rd_drop hdrop
    have hpp := pow_pos' (7 * i)
    have ha0 := Int.emod_nonneg n (Int.ne_of_gt hpp)
    have ha := Int.emod_lt_of_pos n hpp
    have hdm := Int.mul_ediv_add_emod n (2 ^ (7 * i))
    rw [show k + 3 = (k + 1) + 2 from rfl, get_last whole _ (m % 128) i (k + 1) hil (by omega) hl hrd (by omega) (by omega) ha0 ha]
    have hv : valOf (n % 2 ^ (7 * i)) (m % 128) i = n := by
      unfold valOf
      have e : m * 2 ^ (7 * i) + n % 2 ^ (7 * i) = n := by rw [hm, Int.mul_comm]; exact hdm
      rcases Int.lt_or_le m 0 with hneg | hpos
      · have e2 : m % 128 = m + 128 := by omega
        rw [e2, if_neg (by omega), Int.add_mul]
        by_cases h9 : i < 9
        · rw [if_pos h9, pow7 i, show n % 2 ^ (7 * i) + (m * 2 ^ (7 * i) + 128 * 2 ^ (7 * i)) - 2 ^ (7 * i) * 128 = n from by omega]
          exact wrap_in hn1 hn2
        · rw [if_neg h9]
          obtain rfl : i = 9 := by omega
          have e3 : (128 : Int) * 2 ^ (7 * 9) = 1180591620717411303424 := by decide
          rw [e3]
          unfold wrap64; omega
      · have e2 : m % 128 = m := by omega
        rw [e2, if_pos (by omega), show n % 2 ^ (7 * i) + m * 2 ^ (7 * i) = n from by omega]
        exact wrap_in hn1 hn2
    rw [hv, get_j2 whole n hn1 hn2 i k (by omega) hil hl]
    have hlen' : (enc n).length = i + 1 := by simpa using hlen
    rw [if_pos (by rw [hw, ← hlen']; simp), hlen']
  | succ d ih =>
    intro i m hm hm1 hm2 hi hdrop hlen k hk
    by_cases hsm : -64 ≤ m ∧ m < 64
    · have h128 : (0 : Int) < 128 ^ d := Int.pow_pos (by decide)
      exact ih i m hm (by omega) (by omega) (by omega) hdrop hlen k (by omega)
    · obtain ⟨k, rfl⟩ : ∃ q, k = q + 1 := ⟨k - 1, by omega⟩
      rw [enc_big hsm] at hdrop hlen
      obtain ⟨hil, hrd, hnext⟩ := rd_drop hdrop
      have hpp := pow_pos' (7 * i)
      have ha0 := Int.emod_nonneg n (Int.ne_of_gt hpp)
      have ha := Int.emod_lt_of_pos n hpp
      rw [get_more whole _ (m % 128 + 128) i k hil (by omega) hl hrd (by omega) (by omega) ha0 ha]
      have e1 : (m % 128 + 128) % 128 = n / 2 ^ (7 * i) % 128 := by rw [← hm]; omega
      have e2 := emod_step n (2 ^ (7 * i)) hpp
      rw [← pow7 i] at e2
      have hp := pow_le_63 (s := 7 * (i + 1)) (by omega)
      have hb0 := Int.emod_nonneg n (Int.ne_of_gt (pow_pos' (7 * (i + 1))))
      have hb1 := Int.emod_lt_of_pos n (pow_pos' (7 * (i + 1)))
      rw [e1, ← e2, wrap_in (by omega) (by omega)]
      refine ih (i + 1) (m / 128) ?_ (by rw [Int.pow_succ] at hm1; omega) (by rw [Int.pow_succ] at hm2; omega) (by omega) hnext (by simp at hlen; omega) k (by omega)
      rw [hm, pow7 i, Int.ediv_ediv_of_nonneg (Int.le_of_lt hpp)]
theorem get_put (n : Int) (hn1 : -9223372036854775808 ≤ n) (hn2 : n ≤ 9223372036854775807) (behind : List Int) (hl : (enc n ++ behind).length ≤ 140737488351232) (k : Nat) (hk : 26 ≤ k) :
    varint_Get.f k (enc n ++ behind) = some (n, ((enc n).length : Int), none) := by
  have e9 : (64 : Int) * 128 ^ 9 = 590295810358705651712 := by decide
  have h := get_enc n hn1 hn2 behind (enc n ++ behind) rfl hl 9 0 n (by simp) (by omega) (by omega) (by omega) (by simp) (by simp) k (by omega)
  simp only [varint_Get.f]
  simpa using h
/-- Bytes that all say that more is behind are no number. -/
theorem get_high (l : List Int) (hl : l.length ≤ 140737488351232) (hb : ∀ x ∈ l, 128 ≤ x ∧ x < 256) : ∀ (d i : Nat) (a : Int), l.length - i = d → i ≤ l.length → i ≤ 10 → (i ≤ 9 → 0 ≤ a ∧ a < 2 ^ (7 * i)) → ∀ k, d < k →
    varint_Get.l0 k l a ((7 * i : Nat) : Int) l (l.length : Int) (i : Int) = some (0, 0, some 2) := by
  intro d
  induction d with
  | zero =>
    intro i a hd hi hi10 ha k hk
    obtain ⟨k, rfl⟩ : ∃ q, k = q + 1 := ⟨k - 1, by omega⟩
    simp only [varint_Get.l0]
    rw [if_neg (by omega)]
  | succ d ih =>
    intro i a hd hi hi10 ha k hk
    obtain ⟨k, rfl⟩ : ∃ q, k = q + 1 := ⟨k - 1, by omega⟩
    have hil : i < l.length := by omega
    by_cases h9 : i ≤ 9
    · obtain ⟨ha0, ha1⟩ := ha h9
      have hrd : rd l (i : Int) = l[i] := by simp [rd, hil]
      have hx := hb l[i] (List.getElem_mem hil)
      rw [get_more l a l[i] i k hil h9 hl hrd hx.1 hx.2 ha0 ha1]
      refine ih (i + 1) _ (by omega) (by omega) (by omega) (fun h => ?_) k (by omega)
      have hp := pow_le_63 (s := 7 * (i + 1)) (by omega)
      have hpp := pow_pos' (7 * i)
      have e7 := pow7 i
      have h5 : (l[i] % 128) * 2 ^ (7 * i) ≤ 127 * 2 ^ (7 * i) := Int.mul_le_mul_of_nonneg_right (by omega) (Int.le_of_lt hpp)
      have h6 : 0 ≤ (l[i] % 128) * 2 ^ (7 * i) := Int.mul_nonneg (by omega) (Int.le_of_lt hpp)
      rw [wrap_in (by omega) (by omega)]
      omega
    · simp only [varint_Get.l0]
      rw [if_pos (by omega), if_pos (by omega), if_pos (by omega), if_pos (by omega)]
theorem get_high_f (l : List Int) (hl : l.length ≤ 140737488351232) (hb : ∀ x ∈ l, 128 ≤ x ∧ x < 256) (k : Nat) (hk : l.length < k) : varint_Get.f k l = some (0, 0, some 2) := by
  simp only [varint_Get.f]
  have := get_high l hl hb l.length 0 0 (by omega) (by omega) (by omega) (fun _ => by simp) k (by omega)
  simpa using this
theorem enc_cut : ∀ n : Int, ∀ x ∈ (enc n).take ((enc n).length - 1), 128 ≤ x ∧ x < 256 := by
  refine enc_ind (fun n h x hx => ?_) (fun n h ih x hx => ?_)
  · rw [enc_small h] at hx; simp at hx
  · rw [enc_big h] at hx
    have hp := enc_pos (n / 128)
    obtain ⟨q, hq⟩ : ∃ q, (enc (n / 128)).length = q + 1 := ⟨(enc (n / 128)).length - 1, by omega⟩
    simp only [List.length_cons, hq, Nat.add_sub_cancel, List.take_succ_cons, List.mem_cons] at hx
    rcases hx with e | e
    · omega
    · rw [hq] at ih; exact ih x (by simpa using e)
theorem sure_f (k : Nat) (hk : 60 ≤ k) : colloquylaw04_sure.f k = some true := by
  have g1 : varint_Get.f k [192, 0, 7] = some (64, 2, none) := at_rounds (varint_Get.mono _) hk (by decide +kernel)
  have g2 : varint_Get.f k [128, 0] = some (0, 0, some 2) := at_rounds (varint_Get.mono _) hk (by decide +kernel)
  have g3 : varint_Get.f k [127] = some (-1, 1, none) := at_rounds (varint_Get.mono _) hk (by decide +kernel)
  have g4 : varint_Put.f k [1] (-64) = some [1, 64] := at_rounds (varint_Put.mono _ _) hk (by decide +kernel)
  have g5 : varint_Put.f k [] (-9223372036854775808) = some [128, 128, 128, 128, 128, 128, 128, 128, 128, 127] := at_rounds (varint_Put.mono _ _) hk (by decide +kernel)
  simp only [colloquylaw04_sure.f, g1, g2, g3, g4, g5, Option.bind_some, colloquylaw04_num.f, strOf_toList]
  decide +kernel

def encs : List Int → List Int
  | [] => []
  | n :: r => enc n ++ encs r
theorem encs_append (a b : List Int) : encs (a ++ b) = encs a ++ encs b := by
  induction a with
  | nil => rfl
  | cons x xs ih => simp [encs, ih]
theorem encs_len : ∀ (l : List Int), (∀ x ∈ l, -9223372036854775808 ≤ x ∧ x ≤ 9223372036854775807) → (encs l).length ≤ 10 * l.length := by
  intro l
  induction l with
  | nil => intro _; simp [encs]
  | cons x xs ih =>
    intro h
    have h1 := enc_len_10 x (h x (by simp)).1 (h x (by simp)).2
    have h2 := ih (fun y hy => h y (by simp [hy]))
    simp [encs]; omega
theorem list_get (l : List Int) (hl : l.length ≤ 140737488351232) (h : ∀ x ∈ l, -9223372036854775808 ≤ x ∧ x ≤ 9223372036854775807) : ∀ (d i : Nat), min l.length 200 - i = d → i ≤ min l.length 200 → ∀ k, 2 * d + 70 < k →
    colloquylaw04_VarintList.l1 k l (encs ((l.take 200).drop i)) (i : Int) = some true := by
  intro d
  induction d with
  | zero =>
    intro i hd hi k hk
    obtain ⟨k, rfl⟩ : ∃ q, k = q + 2 := ⟨k - 2, by omega⟩
    have e : (l.take 200).drop i = [] := List.drop_eq_nil_of_le (by simp; omega)
    rw [e]
    simp only [colloquylaw04_VarintList.l1]
    by_cases h1 : (i : Int) < (l.length : Int)
    · rw [if_pos h1, show decide ((i : Int) < 200) = false from decide_eq_false (by omega)]
      simp only [colloquylaw04_VarintList.j3]
      rw [if_neg (by decide), if_pos (show ((encs [] : List Int).length : Int) = 0 from rfl), sure_f k (by omega)]; rfl
    · rw [if_neg h1]
      simp only [colloquylaw04_VarintList.j3]
      rw [if_neg (by decide), if_pos (show ((encs [] : List Int).length : Int) = 0 from rfl), sure_f k (by omega)]; rfl
  | succ d ih =>
    intro i hd hi k hk
    obtain ⟨k, rfl⟩ : ∃ q, k = q + 2 := ⟨k - 2, by omega⟩
    have hil : i < l.length := by omega
    have hit : i < (l.take 200).length := by simp; omega
    have e : (l.take 200).drop i = l[i] :: (l.take 200).drop (i + 1) := by
      rw [List.drop_eq_getElem_cons hit]; simp
    have hx := h l[i] (List.getElem_mem hil)
    have hrest : (encs ((l.take 200).drop (i + 1))).length ≤ 2000 := by
      have := encs_len ((l.take 200).drop (i + 1)) (fun x hx => h x (List.mem_of_mem_take (List.mem_of_mem_drop hx)))
      simp at this; omega
    have he := enc_len_10 l[i] hx.1 hx.2
    have hep := enc_pos l[i]
    rw [e]
    simp only [colloquylaw04_VarintList.l1, encs]
    rw [if_pos (by omega), show decide ((i : Int) < 200) = true from decide_eq_true (by omega)]
    simp only [colloquylaw04_VarintList.j3, if_true]
    have hg := get_put l[i] hx.1 hx.2 (encs ((l.take 200).drop (i + 1))) (by rw [List.length_append]; omega) k (by omega)
    rw [hg]
    have hrd : rd l (i : Int) = l[i] := by simp [rd, hil]
    simp only [Option.bind_some, Option.isNone_none, if_true, hrd, wrap_succ i (show i ≤ 140737488355328 by omega), Int.toNat_natCast]
    rw [if_pos (by omega), if_pos (by omega), if_neg (by omega), if_neg (by rw [List.length_append]; omega), if_pos (by omega), if_pos (by rw [List.length_append]; omega)]
    rw [List.drop_left]
    exact ih (i + 1) (by omega) (by omega) k (by omega)
theorem list_put (l : List Int) (hl : l.length ≤ 140737488351232) (h : ∀ x ∈ l, -9223372036854775808 ≤ x ∧ x ≤ 9223372036854775807) : ∀ (d i : Nat), min l.length 200 - i = d → i ≤ min l.length 200 → ∀ k, d + 500 < k →
    colloquylaw04_VarintList.l0 k l (encs ((l.take 200).take i)) (i : Int) = some true := by
  intro d
  induction d with
  | zero =>
    intro i hd hi k hk
    obtain ⟨k, rfl⟩ : ∃ q, k = q + 1 := ⟨k - 1, by omega⟩
    have e : (l.take 200).take i = (l.take 200).drop 0 := by rw [List.take_of_length_le (by simp; omega)]; rfl
    have hend : colloquylaw04_VarintList.j1 k l (encs ((l.take 200).take i)) = some true := by
      obtain ⟨q, rfl⟩ : ∃ q, k = q + 1 := ⟨k - 1, by omega⟩
      simp only [colloquylaw04_VarintList.j1]
      rw [e]
      exact list_get l hl h (min l.length 200) 0 (by omega) (by omega) q (by omega)
    simp only [colloquylaw04_VarintList.l0]
    by_cases h1 : (i : Int) < (l.length : Int)
    · rw [if_pos h1, if_neg (by omega)]; exact hend
    · rw [if_neg h1]; exact hend
  | succ d ih =>
    intro i hd hi k hk
    obtain ⟨k, rfl⟩ : ∃ q, k = q + 1 := ⟨k - 1, by omega⟩
    have hil : i < l.length := by omega
    have hit : i < (l.take 200).length := by simp; omega
    have hx := h l[i] (List.getElem_mem hil)
    have hrd : rd l (i : Int) = l[i] := by simp [rd, hil]
    have hlen : (encs ((l.take 200).take i)).length ≤ 2000 := by
      have := encs_len ((l.take 200).take i) (fun x hx => h x (List.mem_of_mem_take (List.mem_of_mem_take hx)))
      simp at this; omega
    have e : encs ((l.take 200).take i) ++ enc l[i] = encs ((l.take 200).take (i + 1)) := by
      rw [List.take_succ_eq_append_getElem hit, encs_append]
      simp [encs]
    simp only [colloquylaw04_VarintList.l0, hrd, wrap_succ i (show i ≤ 140737488355328 by omega)]
    rw [if_pos (by omega), if_pos (by omega), if_pos (by omega), put_f _ l[i] hx.1 hx.2 (by omega) k (by omega)]
    simp only [Option.bind_some]
    rw [e]
    exact ih (i + 1) (by omega) (by omega) k (by omega)
theorem VarintList : colloquylaw04_VarintList.Pure := by
  intro l _ hl h
  refine ⟨1000, ?_⟩
  have := list_put l (by omega) (fun x hx => wf_i64 (h x hx)) (min l.length 200) 0 (by omega) (by omega) 1000 (by omega)
  rw [show encs ((l.take 200).take 0) = [] from by rw [List.take_zero]; rfl, show ((0 : Nat) : Int) = 0 from rfl] at this
  simp only [colloquylaw04_VarintList.f]
  exact this

end Go.Proofs.YtmbbjmjgdfibdaaDoor.Pure
