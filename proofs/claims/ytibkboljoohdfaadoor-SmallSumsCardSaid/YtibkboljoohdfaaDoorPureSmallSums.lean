/-
  The plain law of SmallSums: what the law's Go functions compute, as lists and numbers, answers true at every input. Condition: none beyond the numbers' kinds and the slices' bounds.
-/
import Derived.Test.YtibkboljoohdfaaDoorPSmallSumsx0
import Derived.Test.YtibkboljoohdfaaDoorPSmallSumsx1
import Derived.Test.YtibkboljoohdfaaDoorPSmallSumsx2
import Derived.Lib.Bytes
import Derived.Laws.BitsLemmas
import Derived.DataShut
namespace Go.Proofs.YtibkboljoohdfaaDoor.Pure
open Go Go.RowKit Go.Proofs.YtibkboljoohdfaaDoor.PSmallSums Go.Proofs.YtibkboljoohdfaaDoorW.PrintWords Go.Proofs.YtibkboljoohdfaaDoorW.PrintLast Go.Proofs.YtibkboljoohdfaaDoorW.PrintMore
set_option linter.unusedVariables false
set_option linter.unusedSimpArgs false
-- what package small computes (this repo's own)
def fits (x : Int) : Bool := decide (-2305843009213693952 ≤ x ∧ x ≤ 2305843009213693951)
theorem fits_iff (x : Int) : fits x = true ↔ -2305843009213693952 ≤ x ∧ x ≤ 2305843009213693951 := by unfold fits; exact decide_eq_true_iff
theorem fits_not (x : Int) : fits x = false ↔ ¬ (-2305843009213693952 ≤ x ∧ x ≤ 2305843009213693951) := by unfold fits; exact decide_eq_false_iff_not
theorem u64_wrap (x : Int) : IntKind.u64.wrap x = x % 18446744073709551616 := by simp [IntKind.wrap, IntKind.bits, IntKind.signed]
theorem wf_i64 {x : Int} (h : (Lit.int .i64 x).wf = true) : -9223372036854775808 ≤ x ∧ x ≤ 9223372036854775807 := by
  have := (Lit.wf_int_iff .i64 x).1 h; simp [IntKind.min, IntKind.max, IntKind.signed, IntKind.bits] at this; omega
theorem wf_u64 {x : Int} (h : (Lit.int .u64 x).wf = true) : 0 ≤ x ∧ x ≤ 18446744073709551615 := by
  have := (Lit.wf_int_iff .u64 x).1 h; simp [IntKind.min, IntKind.max, IntKind.signed, IntKind.bits] at this; omega
theorem wrap_in {x : Int} (h1 : -9223372036854775808 ≤ x) (h2 : x ≤ 9223372036854775807) : wrap64 x = x := by unfold wrap64; omega
theorem fits_f (x : Int) : small_Fits.f x = some (fits x) := by
  unfold small_Fits.f fits
  by_cases h : x ≥ -2305843009213693952
  · rw [if_pos h]; congr 1; rw [decide_eq_decide]; omega
  · rw [if_neg h]; congr 1; rw [eq_comm, decide_eq_false_iff_not]; omega
theorem both_f (a b : Int) : small_both.f a b = some (fits a && fits b) := by
  unfold small_both.f
  rw [fits_f, fits_f]
  cases fits a <;> simp
theorem fitting_f (x : Int) : small_fitting.f x = some (if fits x = true then (x, true) else (0, false)) := by
  unfold small_fitting.f
  rw [fits_f]
  cases h : fits x <;> simp
def addS (a b : Int) : Int × Bool := if (fits a && fits b && fits (a + b)) = true then (a + b, true) else (0, false)
def subS (a b : Int) : Int × Bool := if (fits a && fits b && fits (a - b)) = true then (a - b, true) else (0, false)
def mulS (a b : Int) : Int × Bool := if (fits a && fits b && fits (a * b)) = true then (a * b, true) else (0, false)
theorem u64_and32 (x : Int) : Go.bits .and .u64 x 4294967295 = x % 4294967296 := by
  show IntKind.u64.wrap (((BitVec.ofInt 64 x &&& BitVec.ofInt 64 4294967295).toNat : Nat) : Int) = x % 4294967296
  rw [BitVec.toNat_and, BitVec.toNat_ofInt, BitVec.toNat_ofInt, show ((4294967295 : Int) % ((2 ^ 64 : Nat) : Int)).toNat = 2 ^ 32 - 1 from by decide, Nat.and_two_pow_sub_one_eq_mod, u64_wrap]
  omega
theorem mul_le (x y : Int) (hx0 : 0 ≤ x) (hx : x ≤ 4294967295) (hy0 : 0 ≤ y) (hy : y ≤ 4294967295) : 0 ≤ x * y ∧ x * y ≤ 18446744065119617025 :=
  ⟨Int.mul_nonneg hx0 hy0, Int.le_trans (Int.mul_le_mul hx hy hy0 (by decide)) (by decide)⟩
theorem mul64_f (a b : Int) (ha0 : 0 ≤ a) (ha : a < 18446744073709551616) (hb0 : 0 ≤ b) (hb : b < 18446744073709551616) : bits_Mul64.f a b = some (a * b / 18446744073709551616, a * b % 18446744073709551616) := by
  obtain ⟨ah, hah⟩ : ∃ z, z = a / 4294967296 := ⟨_, rfl⟩
  obtain ⟨al, hal⟩ : ∃ z, z = a % 4294967296 := ⟨_, rfl⟩
  obtain ⟨bh, hbh⟩ : ∃ z, z = b / 4294967296 := ⟨_, rfl⟩
  obtain ⟨bl, hbl⟩ : ∃ z, z = b % 4294967296 := ⟨_, rfl⟩
  obtain ⟨p0, p1⟩ := mul_le al bl (by omega) (by omega) (by omega) (by omega)
  obtain ⟨q0, q1⟩ := mul_le ah bl (by omega) (by omega) (by omega) (by omega)
  obtain ⟨r0, r1⟩ := mul_le al bh (by omega) (by omega) (by omega) (by omega)
  obtain ⟨s0, s1⟩ := mul_le ah bh (by omega) (by omega) (by omega) (by omega)
  have e : a * b = 18446744073709551616 * (ah * bh) + 4294967296 * (ah * bl) + 4294967296 * (al * bh) + al * bl := by
    have e1 : a = 4294967296 * ah + al := by omega
    have e2 : b = 4294967296 * bh + bl := by omega
    rw [e1, e2, Int.add_mul, Int.mul_add, Int.mul_add]
    have f1 : 4294967296 * ah * (4294967296 * bh) = 18446744073709551616 * (ah * bh) := by
      rw [Int.mul_assoc, Int.mul_left_comm ah, ← Int.mul_assoc]; rfl
    have f2 : 4294967296 * ah * bl = 4294967296 * (ah * bl) := Int.mul_assoc _ _ _
    have f3 : al * (4294967296 * bh) = 4294967296 * (al * bh) := Int.mul_left_comm _ _ _
    omega
  unfold bits_Mul64.f
  simp only [u64_and32, u64_wrap, ← hah, ← hal, ← hbh, ← hbl]
  rw [e]
  generalize ah * bh = s at *
  generalize ah * bl = q at *
  generalize al * bh = r at *
  generalize al * bl = p at *
  clear e hah hal hbh hbl ha0 ha hb0 hb
  have w0 : p % 18446744073709551616 = p := by omega
  have w1 : q % 18446744073709551616 = q := by omega
  have w2 : r % 18446744073709551616 = r := by omega
  have w3 : s % 18446744073709551616 = s := by omega
  simp only [w0, w1, w2, w3]
  have w4 : (q + p / 4294967296) % 18446744073709551616 = q + p / 4294967296 := by omega
  simp only [w4]
  have w5 : ((q + p / 4294967296) % 4294967296 + r) % 18446744073709551616 = (q + p / 4294967296) % 4294967296 + r := by omega
  simp only [w5]
  congr 2
  omega
theorem size_f (a : Int) (h1 : -2305843009213693952 ≤ a) (h2 : a ≤ 2305843009213693951) : small_size.f a = some (if a < 0 then -a else a) := by
  unfold small_size.f
  by_cases h : a < 0
  · rw [if_pos h, if_pos h, wrap_in (by omega) (by omega), u64_wrap]; congr 1; omega
  · rw [if_neg h, if_neg h, u64_wrap]; congr 1; omega
theorem add_f (a b : Int) : small_Add.f a b = some (addS a b) := by
  unfold small_Add.f addS
  rw [both_f]
  cases ha : fits a <;> cases hb : fits b <;> simp
  rw [fits_iff] at ha hb
  rw [wrap_in (by omega) (by omega), fitting_f]
  cases h : fits (a + b) <;> simp
theorem mul_f (a b : Int) (k : Nat) (hk : 1 ≤ k) : small_Mul.f k a b = some (mulS a b) := by
  obtain ⟨k, rfl⟩ : ∃ m, k = m + 1 := ⟨k - 1, by omega⟩
  unfold small_Mul.f mulS
  rw [both_f]
  cases ha : fits a <;> cases hb : fits b <;> simp
  rw [fits_iff] at ha hb
  rw [size_f a ha.1 ha.2, size_f b hb.1 hb.2]
  simp only [Option.bind_some]
  rw [mul64_f _ _ (by split <;> omega) (by split <;> omega) (by split <;> omega) (by split <;> omega)]
  simp only [Option.bind_some]
  have key : ∀ x y : Int, 0 ≤ x → x ≤ 2305843009213693952 → 0 ≤ y → y ≤ 2305843009213693952 → ∀ neg : Bool, ((decide (a < 0)) != (decide (b < 0))) = neg →
      (if x * y / 18446744073709551616 = 0 then small_Mul.j0 (k + 1) a b (x * y % 18446744073709551616) (decide (x * y % 18446744073709551616 > 2305843009213693952)) else small_Mul.j0 (k + 1) a b (x * y % 18446744073709551616) true)
        = some (if neg = true then (if x * y ≤ 2305843009213693952 then (-(x * y), true) else (0, false)) else (if x * y ≤ 2305843009213693951 then (x * y, true) else (0, false))) := by
    intro x y hx0 hx hy0 hy neg hneg
    have hp := Int.mul_nonneg hx0 hy0
    generalize x * y = p at *
    by_cases h1 : p / 18446744073709551616 = 0
    · have e : p % 18446744073709551616 = p := by omega
      rw [if_pos h1, e]
      by_cases h2 : p > 2305843009213693952
      · simp only [small_Mul.j0, decide_eq_true h2, if_true]
        cases neg
        · simp only [Bool.false_eq_true, if_false]; rw [if_neg (by omega)]
        · simp only [if_true]; rw [if_neg (by omega)]
      · simp only [small_Mul.j0, decide_eq_false h2, hneg]
        rw [wrap_in (by omega : -9223372036854775808 ≤ p) (by omega), wrap_in (by omega) (by omega), fitting_f, fitting_f]
        cases neg
        · simp only [Bool.false_eq_true, if_false, Option.bind_some]
          by_cases h3 : p ≤ 2305843009213693951
          · rw [if_pos ((fits_iff p).2 ⟨by omega, h3⟩), if_pos h3]
          · rw [if_neg (fun h => h3 ((fits_iff p).1 h).2), if_neg h3]
        · simp only [Bool.false_eq_true, if_false, if_true, Option.bind_some]
          rw [if_pos ((fits_iff (-p)).2 ⟨by omega, by omega⟩), if_pos (by omega)]
    · rw [if_neg h1]
      simp only [small_Mul.j0, if_true]
      cases neg
      · simp only [Bool.false_eq_true, if_false]; rw [if_neg (by omega)]
      · simp only [if_true]; rw [if_neg (by omega)]
  by_cases h1 : a < 0
  · by_cases h2 : b < 0
    · simp only [if_pos h1, if_pos h2]
      rw [key (-a) (-b) (by omega) (by omega) (by omega) (by omega) false (by simp [h1, h2]), Int.neg_mul_neg]
      have hp : 0 ≤ a * b := by have := Int.mul_nonneg (show 0 ≤ -a by omega) (show 0 ≤ -b by omega); rwa [Int.neg_mul_neg] at this
      simp only [Bool.false_eq_true, if_false]
      by_cases h3 : a * b ≤ 2305843009213693951
      · rw [if_pos h3, if_pos ((fits_iff _).2 ⟨by omega, h3⟩)]
      · rw [if_neg h3, if_neg (fun h => h3 ((fits_iff _).1 h).2)]
    · simp only [if_pos h1, if_neg h2]
      rw [key (-a) b (by omega) (by omega) (by omega) (by omega) true (by simp [h1, h2]), Int.neg_mul]
      have hp : a * b ≤ 0 := by have := Int.mul_nonneg (show 0 ≤ -a by omega) (show 0 ≤ b by omega); rw [Int.neg_mul] at this; omega
      simp only [if_true, Int.neg_neg]
      by_cases h3 : -(a * b) ≤ 2305843009213693952
      · rw [if_pos h3, if_pos ((fits_iff _).2 ⟨by omega, by omega⟩)]
      · rw [if_neg h3, if_neg (fun h => h3 (by have := ((fits_iff _).1 h).1; omega))]
  · by_cases h2 : b < 0
    · simp only [if_neg h1, if_pos h2]
      rw [key a (-b) (by omega) (by omega) (by omega) (by omega) true (by simp [h1, h2]), Int.mul_neg]
      have hp : a * b ≤ 0 := by have := Int.mul_nonneg (show 0 ≤ a by omega) (show 0 ≤ -b by omega); rw [Int.mul_neg] at this; omega
      simp only [if_true, Int.neg_neg]
      by_cases h3 : -(a * b) ≤ 2305843009213693952
      · rw [if_pos h3, if_pos ((fits_iff _).2 ⟨by omega, by omega⟩)]
      · rw [if_neg h3, if_neg (fun h => h3 (by have := ((fits_iff _).1 h).1; omega))]
    · simp only [if_neg h1, if_neg h2]
      rw [key a b (by omega) (by omega) (by omega) (by omega) false (by simp [h1, h2])]
      have hp : 0 ≤ a * b := Int.mul_nonneg (by omega) (by omega)
      simp only [Bool.false_eq_true, if_false]
      by_cases h3 : a * b ≤ 2305843009213693951
      · rw [if_pos h3, if_pos ((fits_iff _).2 ⟨by omega, h3⟩)]
      · rw [if_neg h3, if_neg (fun h => h3 ((fits_iff _).1 h).2)]
theorem u64_and3 (x : Int) : Go.bits .and .u64 x 3 = x % 4 := by
  show IntKind.u64.wrap (((BitVec.ofInt 64 x &&& BitVec.ofInt 64 3).toNat : Nat) : Int) = x % 4
  rw [BitVec.toNat_and, BitVec.toNat_ofInt, BitVec.toNat_ofInt, show ((3 : Int) % ((2 ^ 64 : Nat) : Int)).toNat = 2 ^ 2 - 1 from by decide, Nat.and_two_pow_sub_one_eq_mod, u64_wrap]
  omega
theorem u64_or1 (x : Int) (h0 : 0 ≤ x) (h1 : x < 18446744073709551616) (h2 : x % 4 = 0) : Go.bits .or .u64 x 1 = x + 1 := by
  show IntKind.u64.wrap (((BitVec.ofInt 64 x ||| BitVec.ofInt 64 1).toNat : Nat) : Int) = x + 1
  obtain ⟨n, rfl⟩ := Int.eq_ofNat_of_zero_le h0
  have hn : n % 4 = 0 := by omega
  have e : n = 2 ^ 2 * (n / 4) := by omega
  rw [BitVec.toNat_or, BitVec.toNat_ofInt, BitVec.toNat_ofInt, show ((1 : Int) % ((2 ^ 64 : Nat) : Int)).toNat = 1 from by decide, show (((n : Nat) : Int) % ((2 ^ 64 : Nat) : Int)).toNat = n from by omega]
  rw [e, ← Nat.two_pow_add_eq_or_of_lt (by decide : 1 < 2 ^ 2), ← e, u64_wrap]
  omega
theorem tag_f (a : Int) : small_Tag.f a = some (if fits a = true then ((4 * a + 1) % 18446744073709551616, none) else (0, some 3)) := by
  unfold small_Tag.f
  rw [fits_f]
  cases h : fits a
  · simp
  · rw [fits_iff] at h
    simp only [Option.bind_some, if_true, u64_wrap]
    rw [u64_or1 _ (by omega) (by omega) (by omega)]
    congr 2
    omega
theorem of_f (w : Int) : small_Of.f w = some (if w % 4 = 1 then (wrap64 w / 4, none) else (0, some 2)) := by
  unfold small_Of.f
  rw [u64_and3]
  split <;> rfl
-- quotients downward
def fd (a b : Int) : Int := if 0 < b then a / b else (-a) / (-b)
def fm (a b : Int) : Int := if 0 < b then a % b else -((-a) % (-b))
theorem t_pos (a b : Int) (hb : 0 < b) : (Int.tmod a b = a % b ∧ Int.tdiv a b = a / b) ∨ (a % b ≠ 0 ∧ Int.tmod a b = a % b - b ∧ Int.tdiv a b = a / b + 1) := by
  have h1 := @Int.tmod_eq_emod a b
  have h2 := @Int.tdiv_eq_ediv a b
  by_cases hc : 0 ≤ a ∨ b ∣ a
  · left; rw [if_pos hc] at h1 h2; exact ⟨by simpa using h1, by simpa using h2⟩
  · right
    rw [if_neg hc] at h1 h2
    refine ⟨fun h => hc (.inr (Int.dvd_of_emod_eq_zero h)), ?_, ?_⟩
    · rw [h1]; omega
    · rw [h2, Int.sign_eq_one_of_pos hb]
theorem t_neg (a b : Int) : Int.tmod a b = -(Int.tmod (-a) (-b)) ∧ Int.tdiv a b = Int.tdiv (-a) (-b) := by
  constructor
  · rw [Int.tmod_neg, Int.neg_tmod, Int.neg_neg]
  · rw [Int.neg_tdiv_neg]
theorem fm_lt (a b : Int) (hb : b ≠ 0) : (0 < b → 0 ≤ fm a b ∧ fm a b < b) ∧ (b < 0 → b < fm a b ∧ fm a b ≤ 0) := by
  unfold fm
  constructor
  · intro h; rw [if_pos h]; exact ⟨Int.emod_nonneg _ hb, Int.emod_lt_of_pos _ h⟩
  · intro h
    rw [if_neg (by omega)]
    have h1 := Int.emod_nonneg (-a) (show -b ≠ 0 by omega)
    have h2 := Int.emod_lt_of_pos (-a) (show 0 < -b by omega)
    omega
theorem fd_fm (a b : Int) : fd a b * b + fm a b = a := by
  unfold fd fm
  by_cases h : 0 < b
  · rw [if_pos h, if_pos h]; exact Int.ediv_mul_add_emod a b
  · rw [if_neg h, if_neg h]
    have := Int.ediv_mul_add_emod (-a) (-b)
    rw [Int.mul_neg] at this
    omega
theorem fd_uniq (a b q r : Int) (h : q * b + r = a) (h1 : 0 < b → 0 ≤ r ∧ r < b) (h2 : b < 0 → b < r ∧ r ≤ 0) (hb : b ≠ 0) : fd a b = q ∧ fm a b = r := by
  unfold fd fm
  by_cases h0 : 0 < b
  · rw [if_pos h0, if_pos h0]
    obtain ⟨g1, g2⟩ := h1 h0
    have e : a = r + b * q := by rw [← h, Int.mul_comm]; omega
    constructor
    · rw [e, Int.add_mul_ediv_left _ _ hb, Int.ediv_eq_zero_of_lt g1 g2]; omega
    · rw [e, Int.add_mul_emod_self_left, Int.emod_eq_of_lt g1 g2]
  · rw [if_neg h0, if_neg h0]
    obtain ⟨g1, g2⟩ := h2 (by omega)
    have e : -a = -r + (-b) * q := by rw [← h, Int.neg_mul, Int.mul_comm]; omega
    constructor
    · rw [e, Int.add_mul_ediv_left _ _ (by omega), Int.ediv_eq_zero_of_lt (by omega) (by omega)]; omega
    · rw [e, Int.add_mul_emod_self_left, Int.emod_eq_of_lt (by omega) (by omega)]; omega
theorem ediv_rng (a b : Int) (hb : 0 < b) (B : Int) (hB : 0 ≤ B) (h1 : -B ≤ a) (h2 : a ≤ B) : -B ≤ a / b ∧ a / b ≤ B := by
  constructor
  · refine Int.le_ediv_of_mul_le hb ?_
    have : B * 1 ≤ B * b := Int.mul_le_mul_of_nonneg_left (by omega) hB
    rw [Int.neg_mul]; omega
  · rcases Int.le_total 0 a with h | h
    · exact Int.le_trans (Int.ediv_le_self b h) h2
    · have h3 : a / b ≤ 0 := by
        have h4 := Int.ediv_le_ediv hb h
        simpa using h4
      omega
theorem fd_rng (a b : Int) (hb : b ≠ 0) (h1 : -2305843009213693952 ≤ a) (h2 : a ≤ 2305843009213693952) : -2305843009213693952 ≤ fd a b ∧ fd a b ≤ 2305843009213693952 := by
  unfold fd
  by_cases h : 0 < b
  · rw [if_pos h]; exact ediv_rng a b h _ (by decide) h1 h2
  · rw [if_neg h]; exact ediv_rng (-a) (-b) (by omega) _ (by decide) (by omega) (by omega)
def divS (a b : Int) : Int × Int × Option Int := if (fits a && fits b) = true then (if b = 0 then (0, 0, some 10) else if fits (fd a b) = true then (fd a b, fm a b, none) else (0, 0, some 3)) else (0, 0, some 3)
theorem div_j0 (k : Nat) (a b : Int) (hb : b ≠ 0) (hb1 : -2305843009213693952 ≤ b) (hb2 : b ≤ 2305843009213693951) (h1 : -2305843009213693952 ≤ a) (h2 : a ≤ 2305843009213693951) :
    (if (Int.tmod a b) = 0 then (small_Div.j0 (k + 1) b (wrap64 (Int.tdiv a b)) (Int.tmod a b) false) else (small_Div.j0 (k + 1) b (wrap64 (Int.tdiv a b)) (Int.tmod a b) ((decide ((Int.tmod a b) < 0)) != (decide (b < 0)))))
      = some (if fits (fd a b) = true then (fd a b, fm a b, none) else (0, 0, some 3)) := by
  have hr := fd_rng a b hb h1 (by omega)
  have hm := fm_lt a b hb
  have no : ∀ t : Int, t = fd a b → small_Div.j0 (k + 1) b (wrap64 t) (fm a b) false = some (if fits (fd a b) = true then (fd a b, fm a b, none) else (0, 0, some 3)) := by
    intro t ht
    subst ht
    rw [wrap_in (by omega) (by omega)]
    simp only [small_Div.j0, Bool.false_eq_true, if_false, fits_f, Option.bind_some]
    split <;> rfl
  have yes : ∀ t r : Int, t = fd a b + 1 → r = fm a b - b → small_Div.j0 (k + 1) b (wrap64 t) r true = some (if fits (fd a b) = true then (fd a b, fm a b, none) else (0, 0, some 3)) := by
    intro t r ht hr'
    subst ht; subst hr'
    rw [wrap_in (by omega : -9223372036854775808 ≤ fd a b + 1) (by omega)]
    simp only [small_Div.j0, if_true]
    rw [show fd a b + 1 - 1 = fd a b from by omega, show fm a b - b + b = fm a b from by omega, wrap_in (by omega) (by omega), wrap_in (x := fm a b) (by omega) (by omega), fits_f]
    simp only [Option.bind_some]
    split <;> rfl
  by_cases h0 : 0 < b
  · have e1 : fd a b = a / b := by unfold fd; rw [if_pos h0]
    have e2 : fm a b = a % b := by unfold fm; rw [if_pos h0]
    rcases t_pos a b h0 with ⟨g1, g2⟩ | ⟨g0, g1, g2⟩
    · rw [g1, g2]
      by_cases hz : a % b = 0
      · rw [if_pos hz, ← e2]; exact no _ e1.symm
      · have := Int.emod_nonneg a hb
        rw [if_neg hz, show ((decide (a % b < 0)) != (decide (b < 0))) = false from by rw [decide_eq_false (by omega), decide_eq_false (by omega)]; rfl, ← e2]; exact no _ e1.symm
    · have := Int.emod_lt_of_pos a h0
      rw [g1, g2, if_neg (by omega), show ((decide (a % b - b < 0)) != (decide (b < 0))) = true from by rw [decide_eq_true (by omega), decide_eq_false (by omega)]; rfl]
      exact yes _ _ (by omega) (by omega)
  · have e1 : fd a b = (-a) / (-b) := by unfold fd; rw [if_neg h0]
    have e2 : fm a b = -((-a) % (-b)) := by unfold fm; rw [if_neg h0]
    obtain ⟨n1, n2⟩ := t_neg a b
    rw [n1, n2]
    rcases t_pos (-a) (-b) (by omega) with ⟨g1, g2⟩ | ⟨g0, g1, g2⟩
    · rw [g1, g2]
      by_cases hz : -(-a % -b) = 0
      · rw [if_pos hz, ← e2]; exact no _ e1.symm
      · have := Int.emod_nonneg (-a) (show -b ≠ 0 by omega)
        rw [if_neg hz, show ((decide (-(-a % -b) < 0)) != (decide (b < 0))) = false from by rw [decide_eq_true (by omega), decide_eq_true (by omega)]; rfl, ← e2]; exact no _ e1.symm
    · have := Int.emod_lt_of_pos (-a) (show 0 < -b by omega)
      rw [g1, g2, if_neg (by omega), show ((decide (-(-a % -b - -b) < 0)) != (decide (b < 0))) = true from by rw [decide_eq_false (by omega), decide_eq_true (by omega)]; rfl]
      exact yes _ _ (by omega) (by omega)
theorem div_f (a b : Int) (k : Nat) (hk : 1 ≤ k) : small_Div.f k a b = some (divS a b) := by
  obtain ⟨k, rfl⟩ : ∃ m, k = m + 1 := ⟨k - 1, by omega⟩
  unfold small_Div.f divS
  rw [both_f]
  cases ha : fits a <;> cases hb : fits b <;> simp
  rw [fits_iff] at ha hb
  by_cases h0 : b = 0
  · rw [if_pos h0, if_pos h0]
  · rw [if_neg h0, if_neg h0]
    exact div_j0 k a b h0 hb.1 hb.2 ha.1 ha.2
theorem sure_f (k : Nat) (hk : 1 ≤ k) : colloquylaw02_sure.f k = some true := by
  unfold colloquylaw02_sure.f
  rw [div_f _ _ k hk, div_f _ _ k hk, add_f, mul_f _ _ k hk, tag_f]
  simp only [Option.bind_some, of_f, colloquylaw02_num.f, fits_f]
  decide +kernel

-- small.Sub (this repo's own)
theorem sub_f (a b : Int) : small_Sub.f a b = some (subS a b) := by
  unfold small_Sub.f subS
  rw [both_f]
  cases ha : fits a <;> cases hb : fits b <;> simp
  rw [fits_iff] at ha hb
  rw [wrap_in (by omega) (by omega), fitting_f]
  cases h : fits (a - b) <;> simp

theorem addS_comm (a b : Int) : addS b a = addS a b := by
  unfold addS; rw [Int.add_comm b a, Bool.and_comm (fits b)]
theorem addS_fst {a b : Int} (h : (addS a b).2 = true) : (addS a b).1 = a + b ∧ fits a = true ∧ fits b = true ∧ fits (a + b) = true := by
  unfold addS at *
  split at h
  · rename_i hc
    simp only [Bool.and_eq_true] at hc
    simp [hc]
  · cases h
theorem addS_zero {a : Int} (h : fits a = true) : addS a 0 = (a, true) := by
  unfold addS; simp [h, show fits 0 = true from by decide]
theorem subS_self {a : Int} (h : fits a = true) : subS a a = (0, true) := by
  unfold subS; simp [h, show fits 0 = true from by decide]
theorem sums_j2 (k : Nat) (a c s u : Int) (fl : Bool) (hk : 2 ≤ k) (h : fl = false → addS s c = addS a u) : colloquylaw02_SmallSums.j2 k a c s u fl = some true := by
  obtain ⟨k, rfl⟩ : ∃ m, k = m + 1 := ⟨k - 1, by omega⟩
  have s1 := sure_f k (by omega)
  cases fl
  · simp [colloquylaw02_SmallSums.j2, add_f, h rfl, s1]
  · simp [colloquylaw02_SmallSums.j2, s1]
theorem sums_j1 (k : Nat) (a b c : Int) (hk : 3 ≤ k) : colloquylaw02_SmallSums.j1 k a b c (addS a b).1 (addS a b).2 = some true := by
  obtain ⟨k, rfl⟩ : ∃ m, k = m + 1 := ⟨k - 1, by omega⟩
  simp only [colloquylaw02_SmallSums.j1, add_f, Option.bind_some]
  cases hs : (addS a b).2
  · simp only [Bool.false_eq_true, if_false]
    exact sums_j2 k _ _ _ _ _ (by omega) (fun h => by cases h)
  · simp only [if_true]
    refine sums_j2 k _ _ _ _ _ (by omega) (fun h => ?_)
    have hu : (addS b c).2 = true := by simpa using h
    obtain ⟨e1, fa, fb, fab⟩ := addS_fst hs
    obtain ⟨e2, _, fc, fbc⟩ := addS_fst hu
    rw [e1, e2]
    unfold addS
    rw [fab, fc, fa, fbc, Int.add_assoc]
theorem SmallSums : colloquylaw02_SmallSums.Pure := by
  intro a b c _ _ _
  refine ⟨5, ?_⟩
  have j := sums_j1 4 a b c (by omega)
  simp only [colloquylaw02_SmallSums.f, add_f, Option.bind_some, addS_comm a b, if_true, bne_self_eq_false]
  simp only [colloquylaw02_SmallSums.j0, add_f, sub_f, fits_f, Option.bind_some, Bool.false_eq_true, if_false]
  cases h : fits a
  · simp only [Bool.false_eq_true, if_false]; exact j
  · simp only [addS_zero h, subS_self h, if_true]; exact j

end Go.Proofs.YtibkboljoohdfaaDoor.Pure
