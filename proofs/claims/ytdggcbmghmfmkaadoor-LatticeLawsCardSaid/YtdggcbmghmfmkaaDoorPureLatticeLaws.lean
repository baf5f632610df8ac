/-
  The plain law of LatticeLaws: what the law's Go functions compute, as lists and numbers, answers true at every input. Condition: none beyond the numbers' kinds and the slices' bounds.
-/
import Derived.Test.YtdggcbmghmfmkaaDoorPLatticeLawsx0
import Derived.Test.YtdggcbmghmfmkaaDoorPLatticeLawsx1
import Derived.Test.YtdggcbmghmfmkaaDoorPLatticeLawsx2
import Derived.Test.YtdggcbmghmfmkaaDoorPLatticeLawsx3
import Derived.Test.YtdggcbmghmfmkaaDoorPLatticeLawsx4
import Derived.Test.YtdggcbmghmfmkaaDoorPLatticeLawsx5
import Derived.Test.YtdggcbmghmfmkaaDoorPLatticeLawsx6
import Derived.Lib.Bytes
import Derived.Laws.BitsLemmas
import Derived.DataShut
namespace Go.Proofs.YtdggcbmghmfmkaaDoor.Pure
open Go Go.RowKit Go.Proofs.YtdggcbmghmfmkaaDoor.PLatticeLaws Go.Proofs.YtdggcbmghmfmkaaDoorW.PrintWords Go.Proofs.YtdggcbmghmfmkaaDoorW.PrintLast Go.Proofs.YtdggcbmghmfmkaaDoorW.PrintMore
set_option linter.unusedVariables false
set_option linter.unusedSimpArgs false
-- plain words on Go's bit operations, lists of bytes, and texts (this repo's own)
theorem fin_u8 {P : Int → Prop} (h : ∀ y : Fin 256, P ((y.val : Nat) : Int)) (x : Int) (h0 : 0 ≤ x) (h1 : x < 256) : P x := by
  obtain ⟨a, rfl⟩ := Int.eq_ofNat_of_zero_le h0
  exact h ⟨a, by omega⟩
theorem u8_and64_zero (x : Int) (h0 : 0 ≤ x) (h1 : x < 256) : (Go.bits .and .u8 x 64 = 0) ↔ x % 128 < 64 := fin_u8 (P := fun x => (Go.bits .and .u8 x 64 = 0) ↔ x % 128 < 64) (by decide +kernel) x h0 h1
theorem u8_and128_zero (x : Int) (h0 : 0 ≤ x) (h1 : x < 256) : (Go.bits .and .u8 x 128 = 0) ↔ x < 128 := fin_u8 (P := fun x => (Go.bits .and .u8 x 128 = 0) ↔ x < 128) (by decide +kernel) x h0 h1
theorem u8_and127 (x : Int) (h0 : 0 ≤ x) (h1 : x < 256) : Go.bits .and .u8 x 127 = x % 128 := fin_u8 (P := fun x => Go.bits .and .u8 x 127 = x % 128) (by decide +kernel) x h0 h1
theorem u8_or128 (x : Int) (h0 : 0 ≤ x) (h1 : x < 128) : Go.bits .or .u8 x 128 = x + 128 := fin_u8 (P := fun x => x < 128 → Go.bits .or .u8 x 128 = x + 128) (by decide +kernel) x h0 (by omega) h1
theorem i64_and127 (x : Int) : Go.bits .and .i64 x 127 = x % 128 := by
  show IntKind.i64.wrap (((BitVec.ofInt 64 x &&& BitVec.ofInt 64 127).toNat : Nat) : Int) = x % 128
  rw [BitVec.toNat_and, BitVec.toNat_ofInt, BitVec.toNat_ofInt, show ((127 : Int) % ((2 ^ 64 : Nat) : Int)).toNat = 2 ^ 7 - 1 from by decide, Nat.and_two_pow_sub_one_eq_mod, Go.IntKind.wrap_i64]
  omega
theorem i64_or_disj (a b : Int) (s : Nat) (hs : s ≤ 63) (ha0 : 0 ≤ a) (ha : a < 2 ^ s) (hb : b % 2 ^ s = 0) : Go.bits .or .i64 a b = wrap64 (a + b) := by
  show IntKind.i64.wrap (((BitVec.ofInt 64 a ||| BitVec.ofInt 64 b).toNat : Nat) : Int) = wrap64 (a + b)
  have hp : (2 : Int) ^ s ≤ 2 ^ 63 := by exact_mod_cast Nat.pow_le_pow_right (by decide) hs
  have h63 : (2 : Int) ^ 63 = 9223372036854775808 := by decide
  have hA : (a % ((2 ^ 64 : Nat) : Int)).toNat = a.toNat := by
    rw [show ((2 ^ 64 : Nat) : Int) = 18446744073709551616 from by decide]; omega
  have hd : (2 : Int) ^ s ∣ ((2 ^ 64 : Nat) : Int) := by
    exact_mod_cast Nat.pow_dvd_pow 2 (by omega : s ≤ 64)
  have hB : (b % ((2 ^ 64 : Nat) : Int)) % 2 ^ s = 0 := by rw [Int.emod_emod_of_dvd _ hd]; exact hb
  have hB0 : 0 ≤ b % ((2 ^ 64 : Nat) : Int) := Int.emod_nonneg _ (by decide)
  obtain ⟨B, hBe⟩ := Int.eq_ofNat_of_zero_le hB0
  have hBm : B % 2 ^ s = 0 := by
    rw [hBe] at hB; exact_mod_cast hB
  have hBq : B = 2 ^ s * (B / 2 ^ s) := by have := Nat.div_add_mod B (2 ^ s); omega
  have hAl : a.toNat < 2 ^ s := by
    have h1 : ((a.toNat : Nat) : Int) = a := Int.toNat_of_nonneg ha0
    have h2 : ((a.toNat : Nat) : Int) < ((2 ^ s : Nat) : Int) := by rw [h1]; exact_mod_cast ha
    exact_mod_cast h2
  rw [BitVec.toNat_or, BitVec.toNat_ofInt, BitVec.toNat_ofInt, hA, hBe, Int.toNat_natCast, Nat.or_comm]
  rw [hBq, ← Nat.two_pow_add_eq_or_of_lt hAl, ← hBq, Go.IntKind.wrap_i64]
  unfold wrap64
  have h1 : ((a.toNat : Nat) : Int) = a := Int.toNat_of_nonneg ha0
  rw [show ((2 ^ 64 : Nat) : Int) = 18446744073709551616 from by decide] at hBe
  omega
theorem wf_u8 {x : Int} (h : (Lit.int .u8 x).wf = true) : 0 ≤ x ∧ x < 256 := by
  have := (Lit.wf_int_iff .u8 x).1 h; simp [IntKind.min, IntKind.max, IntKind.signed, IntKind.bits] at this; omega
theorem wf_i64 {x : Int} (h : (Lit.int .i64 x).wf = true) : -9223372036854775808 ≤ x ∧ x ≤ 9223372036854775807 := by
  have := (Lit.wf_int_iff .i64 x).1 h; simp [IntKind.min, IntKind.max, IntKind.signed, IntKind.bits] at this; omega
theorem strOf_toList (xs : List Int) : (strOfNums xs).toList = xs.map fun n => UInt8.ofNat n.toNat := Go.Lib.strOfNums_toList xs
theorem strOf_inj {a b : List Int} (ha : ∀ x ∈ a, 0 ≤ x ∧ x < 256) (hb : ∀ x ∈ b, 0 ≤ x ∧ x < 256) : (strOfNums a).toList = (strOfNums b).toList ↔ a = b := by
  rw [strOf_toList, strOf_toList]
  constructor
  · intro h
    induction a generalizing b with
    | nil => cases b with
      | nil => rfl
      | cons y ys => simp at h
    | cons x xs ih => cases b with
      | nil => simp at h
      | cons y ys =>
        simp only [List.map_cons, List.cons.injEq] at h
        obtain ⟨h1, h2⟩ := h
        have hx := ha x (by simp)
        have hy := hb y (by simp)
        have e : x = y := by
          have h3 := congrArg UInt8.toNat h1
          simp only [UInt8.toNat_ofNat'] at h3
          omega
        rw [e, ih (fun z hz => ha z (by simp [hz])) (fun z hz => hb z (by simp [hz])) h2]
  · intro h; rw [h]

-- bytes as eight bits (this repo's own)
def V (x : Int) : BitVec 8 := BitVec.ofInt 8 x
theorem V_nat (v : BitVec 8) : V (v.toNat : Int) = v := by
  unfold V
  apply BitVec.eq_of_toNat_eq
  have := v.isLt
  simp only [BitVec.toNat_ofInt]
  omega
theorem wrap_bv (v : BitVec 8) : IntKind.u8.wrap (v.toNat : Int) = (v.toNat : Int) := by
  have := v.isLt
  simp only [IntKind.wrap, IntKind.bits, IntKind.signed]
  simp; omega
theorem and_V (a b : Int) : Go.bits .and .u8 a b = (((V a &&& V b).toNat : Nat) : Int) := wrap_bv _
theorem or_V (a b : Int) : Go.bits .or .u8 a b = (((V a ||| V b).toNat : Nat) : Int) := wrap_bv _
theorem andNot_V (a b : Int) : Go.bits .andNot .u8 a b = (((V a &&& ~~~ V b).toNat : Nat) : Int) := wrap_bv _
def tb (x : Int) (j : Nat) : Bool := (V x).getLsbD j
theorem tb_and (a b : Int) (j : Nat) : tb (Go.bits .and .u8 a b) j = (tb a j && tb b j) := by
  rw [and_V]; unfold tb; rw [V_nat, BitVec.getLsbD_and]
theorem tb_or (a b : Int) (j : Nat) : tb (Go.bits .or .u8 a b) j = (tb a j || tb b j) := by
  rw [or_V]; unfold tb; rw [V_nat, BitVec.getLsbD_or]
theorem andNot_zero (a b : Int) : Go.bits .andNot .u8 a b = 0 ↔ ∀ j, tb a j = true → tb b j = true := by
  rw [andNot_V]
  constructor
  · intro h j hj
    have h2 : V a &&& ~~~ V b = 0#8 := by
      apply BitVec.eq_of_toNat_eq
      rw [show (0#8 : BitVec 8).toNat = 0 from rfl]
      exact_mod_cast h
    have h3 : (V a &&& ~~~ V b).getLsbD j = false := by rw [h2]; simp
    unfold tb at *
    have hlt : j < 8 := by
      rcases Nat.lt_or_ge j 8 with h4 | h4
      · exact h4
      · rw [BitVec.getLsbD_of_ge _ _ h4] at hj; simp at hj
    rw [BitVec.getLsbD_and, BitVec.getLsbD_not, hj] at h3
    simpa [hlt] using h3
  · intro h
    have h2 : V a &&& ~~~ V b = 0#8 := by
      apply BitVec.eq_of_getLsbD_eq
      intro i hi
      rw [BitVec.getLsbD_and, BitVec.getLsbD_not]
      have := h i
      unfold tb at this
      cases h3 : (V a).getLsbD i with
      | false => simp
      | true => simp [this h3, hi]
    rw [h2]; rfl
theorem tb_ge (x : Int) (j : Nat) (h : 8 ≤ j) : tb x j = false := BitVec.getLsbD_of_ge _ _ h
theorem leqbit : ∀ y : Fin 256, ∀ j : Fin 9, (Go.bits .and .u8 (shr .u8 ((y.val : Nat) : Int) ((j.val : Nat) : Int)) 1 == 1) = tb ((y.val : Nat) : Int) j.val := by decide +kernel

-- what package lattice computes, by bits (this repo's own)
def Lv (up : List Int) (a b : Nat) : Bool := tb (rd up (a : Int)) b
theorem wrap_in {x : Int} (h1 : -9223372036854775808 ≤ x) (h2 : x ≤ 9223372036854775807) : wrap64 x = x := by unfold wrap64; omega
theorem wrap_nat (x : Int) (n : Nat) (h : x = (n : Int)) (hn : n ≤ 100000) : wrap64 x = (n : Int) := by
  subst h
  exact wrap_in (by omega) (by omega)
theorem u64_nat (n : Nat) (hn : n ≤ 100000) : IntKind.u64.wrap (n : Int) = (n : Int) := by
  simp only [IntKind.wrap, IntKind.bits, IntKind.signed]
  simp; omega
theorem lift_ {α : Type} {f : Nat → Option α} {k k' : Nat} {r : α} (hm : ∀ j, LeO (f j) (f (j + 1))) (h : f k = some r) (hk : k ≤ k') : f k' = some r := by
  obtain ⟨d, rfl⟩ : ∃ d, k' = k + d := ⟨k' - k, by omega⟩
  clear hk
  induction d with
  | zero => exact h
  | succ d ih => exact hm (k + d) r ih
theorem shr_and1 (x : Int) (h0 : 0 ≤ x) (h1 : x < 256) (j : Nat) : (Go.bits .and .u8 (shr .u8 x (j : Int)) 1 == 1) = tb x j := by
  rcases Nat.lt_or_ge j 9 with h | h
  · have := leqbit ⟨x.toNat, by omega⟩ ⟨j, h⟩
    rwa [show (((⟨x.toNat, by omega⟩ : Fin 256).val : Nat) : Int) = x by simp; omega] at this
  · have e : shr .u8 x (j : Int) = shr .u8 x ((8 : Nat) : Int) := by
      have hb : IntKind.u8.bits = 8 := rfl
      simp only [shr, hb, Int.toNat_natCast, Nat.min_eq_right (show 8 ≤ j by omega), Nat.min_self]
    have := leqbit ⟨x.toNat, by omega⟩ ⟨8, by omega⟩
    rw [show (((⟨x.toNat, by omega⟩ : Fin 256).val : Nat) : Int) = x by simp; omega] at this
    rw [e, this, tb_ge x j (by omega), tb_ge x _ (by simp)]
theorem rd_mem (l : List Int) (i : Nat) (h : i < l.length) : rd l (i : Int) ∈ l := by
  simp [rd, h]
theorem leq_f (up : List Int) (hb : ∀ x ∈ up, 0 ≤ x ∧ x < 256) (a b : Nat) (ha : a < up.length) (hb2 : b ≤ 100000) : lattice_Lat_leq.f up (a : Int) (b : Int) = some (Lv up a b) := by
  obtain ⟨h0, h1⟩ := hb _ (rd_mem up a ha)
  have e1 : (0 : Int) ≤ (a : Int) := by omega
  have e2 : (a : Int) < (up.length : Int) := by omega
  have e3 : (0 : Int) ≤ (b : Int) := by omega
  rw [lattice_Lat_leq.f, if_pos e1, if_pos e2, u64_nat b hb2, if_pos e3, shr_and1 _ h0 h1]
  rfl

theorem shl_bit : ∀ i : Fin 8, ∀ j : Fin 9, tb (shl .u8 1 ((i.val : Nat) : Int)) j.val = (i.val == j.val) ∧ 0 ≤ shl .u8 1 ((i.val : Nat) : Int) ∧ shl .u8 1 ((i.val : Nat) : Int) < 256 := by decide +kernel
theorem shl_tb (i j : Nat) (hi : i < 8) : tb (shl .u8 1 (i : Int)) j = (i == j) := by
  rcases Nat.lt_or_ge j 9 with h | h
  · exact (shl_bit ⟨i, hi⟩ ⟨j, h⟩).1
  · rw [tb_ge _ _ (by omega)]
    have : i ≠ j := by omega
    simp [this]
theorem and_range (a b : Int) : 0 ≤ Go.bits .and .u8 a b ∧ Go.bits .and .u8 a b < 256 := by
  rw [and_V]; have := (V a &&& V b).isLt; omega
theorem or_range (a b : Int) : 0 ≤ Go.bits .or .u8 a b ∧ Go.bits .or .u8 a b < 256 := by
  rw [or_V]; have := (V a ||| V b).isLt; omega
theorem down_l0 (up : List Int) (hb : ∀ x ∈ up, 0 ≤ x ∧ x < 256) (hn : up.length ≤ 8) (a : Nat) (ha : a ≤ 1000) : ∀ (m i : Nat) (acc : Int), i + m = up.length → 0 ≤ acc → acc < 256 → (∀ j, tb acc j = (decide (j < i) && Lv up j a)) →
    ∃ d, lattice_Lat_down.l0 (m + 1) (a : Int) acc (up.length : Int) (i : Int) up = some d ∧ 0 ≤ d ∧ d < 256 ∧ ∀ j, tb d j = (decide (j < up.length) && Lv up j a) := by
  intro m
  induction m with
  | zero =>
    intro i acc hi h0 h1 hacc
    have e1 : ¬ (i : Int) < (up.length : Int) := by omega
    have e2 : i = up.length := by omega
    subst e2
    exact ⟨acc, by rw [lattice_Lat_down.l0, if_neg e1], h0, h1, hacc⟩
  | succ m ih =>
    intro i acc hi h0 h1 hacc
    have e1 : (i : Int) < (up.length : Int) := by omega
    have e3 : (0 : Int) ≤ (i : Int) := by omega
    rw [lattice_Lat_down.l0, if_pos e1, leq_f up hb i a (by omega) (by omega), Option.bind_some, u64_nat i (by omega), wrap_nat ((i : Int) + 1) (i + 1) (by omega) (by omega)]
    cases hL : Lv up i a with
    | true =>
      rw [if_pos rfl, if_pos e3]
      refine ih (i + 1) _ (by omega) (or_range _ _).1 (or_range _ _).2 (fun j => ?_)
      rw [tb_or, hacc, shl_tb i j (by omega)]
      by_cases hj : j = i
      · subst hj; simp [hL]
      · have h2 : (i == j) = false := by simp; omega
        have h3 : decide (j < i + 1) = decide (j < i) := decide_eq_decide.2 (by omega)
        rw [h2, h3, Bool.or_false]
    | false =>
      rw [if_neg (by simp)]
      refine ih (i + 1) _ (by omega) h0 h1 (fun j => ?_)
      rw [hacc]
      by_cases hj : j = i
      · subst hj; simp [hL]
      · have h3 : decide (j < i + 1) = decide (j < i) := decide_eq_decide.2 (by omega)
        rw [h3]
theorem tb_zero (j : Nat) : tb 0 j = false := by unfold tb V; simp
theorem down_f (k : Nat) (hk : 20 ≤ k) (up : List Int) (hb : ∀ x ∈ up, 0 ≤ x ∧ x < 256) (hn : up.length ≤ 8) (a : Nat) (ha : a ≤ 1000) :
    ∃ d, lattice_Lat_down.f k up (a : Int) = some d ∧ 0 ≤ d ∧ d < 256 ∧ ∀ j, tb d j = (decide (j < up.length) && Lv up j a) := by
  obtain ⟨d, h, h2⟩ := down_l0 up hb hn a ha up.length 0 0 (by omega) (by omega) (by omega) (fun j => by rw [tb_zero]; simp)
  refine ⟨d, lift_ (fun j => lattice_Lat_down.mono up (a : Int) j) (k := up.length + 1) ?_ (by omega), h2⟩
  rw [lattice_Lat_down.f]
  exact h
def LeastP (up : List Int) (S : Int) (a : Nat) : Prop := tb S a = true ∧ ∀ j, tb S j = true → Lv up a j = true
def First (n : Nat) (P : Nat → Prop) (r : Int) : Prop := (∃ a, a < n ∧ r = (a : Int) ∧ P a ∧ ∀ b, b < a → ¬ P b) ∨ (r = -1 ∧ ∀ b, b < n → ¬ P b)
theorem least_l0 (up : List Int) (hb : ∀ x ∈ up, 0 ≤ x ∧ x < 256) (hn : up.length ≤ 8) (S : Int) (s0 : 0 ≤ S) (s1 : S < 256) : ∀ (m i : Nat), i + m = up.length → (∀ b, b < i → ¬ LeastP up S b) →
    ∃ r, lattice_Lat_least.l0 (m + 1) S (up.length : Int) (i : Int) up = some r ∧ First up.length (LeastP up S) r := by
  intro m
  induction m with
  | zero =>
    intro i hi hP
    have e1 : ¬ (i : Int) < (up.length : Int) := by omega
    exact ⟨-1, by rw [lattice_Lat_least.l0, if_neg e1], Or.inr ⟨rfl, fun b hb => hP b (by omega)⟩⟩
  | succ m ih =>
    intro i hi hP
    have e1 : (i : Int) < (up.length : Int) := by omega
    have e3 : (0 : Int) ≤ (i : Int) := by omega
    have e4 : (Go.bits .and .u8 (shr .u8 S (i : Int)) 1 = 1) ↔ tb S i = true := by rw [← shr_and1 S s0 s1 i, beq_iff_eq]
    have e5 := andNot_zero S (rd up (i : Int))
    have go : ¬ LeastP up S i → ∃ r, lattice_Lat_least.l0 (m + 1) S (up.length : Int) ((i + 1 : Nat) : Int) up = some r ∧ First up.length (LeastP up S) r := fun hnp => ih (i + 1) (by omega) (fun b hb2 => by
      by_cases h : b = i
      · subst h; exact hnp
      · exact hP b (by omega))
    rw [lattice_Lat_least.l0, if_pos e1, u64_nat i (by omega), if_pos e3, wrap_nat ((i : Int) + 1) (i + 1) (by omega) (by omega)]
    by_cases h1 : tb S i = true
    · rw [if_pos (e4.2 h1), if_pos e3, if_pos e1]
      by_cases h2 : Go.bits .andNot .u8 S (rd up (i : Int)) = 0
      · rw [if_pos h2]
        exact ⟨_, rfl, Or.inl ⟨i, by omega, rfl, ⟨h1, e5.1 h2⟩, hP⟩⟩
      · rw [if_neg h2]
        exact go (fun hp => h2 (e5.2 hp.2))
    · rw [if_neg (fun h => h1 (e4.1 h))]
      exact go (fun hp => h1 hp.1)
theorem least_f (k : Nat) (hk : 20 ≤ k) (up : List Int) (hb : ∀ x ∈ up, 0 ≤ x ∧ x < 256) (hn : up.length ≤ 8) (S : Int) (s0 : 0 ≤ S) (s1 : S < 256) : ∃ r, lattice_Lat_least.f k up S = some r ∧ First up.length (LeastP up S) r := by
  obtain ⟨r, h, h2⟩ := least_l0 up hb hn S s0 s1 up.length 0 (by omega) (fun b hb => by omega)
  refine ⟨r, lift_ (fun j => lattice_Lat_least.mono up S j) (k := up.length + 1) ?_ (by omega), h2⟩
  rw [lattice_Lat_least.f]
  exact h
def GreatP (up : List Int) (S : Int) (a : Nat) : Prop := tb S a = true ∧ ∀ j, tb S j = true → j < up.length ∧ Lv up j a = true
theorem great_l0 (up : List Int) (hb : ∀ x ∈ up, 0 ≤ x ∧ x < 256) (hn : up.length ≤ 8) (S : Int) (s0 : 0 ≤ S) (s1 : S < 256) (K : Nat) (hK : 20 ≤ K) : ∀ (m i : Nat), i + m = up.length → (∀ b, b < i → ¬ GreatP up S b) →
    ∃ r, lattice_Lat_greatest.l0 (m + K + 1) S (up.length : Int) (i : Int) up = some r ∧ First up.length (GreatP up S) r := by
  intro m
  induction m with
  | zero =>
    intro i hi hP
    have e1 : ¬ (i : Int) < (up.length : Int) := by omega
    exact ⟨-1, by rw [lattice_Lat_greatest.l0, if_neg e1], Or.inr ⟨rfl, fun b hb => hP b (by omega)⟩⟩
  | succ m ih =>
    intro i hi hP
    have e1 : (i : Int) < (up.length : Int) := by omega
    have e3 : (0 : Int) ≤ (i : Int) := by omega
    have e4 : (Go.bits .and .u8 (shr .u8 S (i : Int)) 1 = 1) ↔ tb S i = true := by rw [← shr_and1 S s0 s1 i, beq_iff_eq]
    obtain ⟨d, hd, d0, d1, hd2⟩ := down_f (m + K + 1) (by omega) up hb hn i (by omega)
    have e5 := andNot_zero S d
    have e6 : (∀ j, tb S j = true → tb d j = true) ↔ ∀ j, tb S j = true → j < up.length ∧ Lv up j i = true := by
      constructor
      · intro h j hj
        have := h j hj
        rw [hd2] at this
        simpa using this
      · intro h j hj
        rw [hd2]
        simpa using h j hj
    have go : ¬ GreatP up S i → ∃ r, lattice_Lat_greatest.l0 (m + K + 1) S (up.length : Int) ((i + 1 : Nat) : Int) up = some r ∧ First up.length (GreatP up S) r := fun hnp => ih (i + 1) (by omega) (fun b hb2 => by
      by_cases h : b = i
      · subst h; exact hnp
      · exact hP b (by omega))
    rw [show m + 1 + K + 1 = m + K + 1 + 1 by omega, lattice_Lat_greatest.l0, if_pos e1, u64_nat i (by omega), if_pos e3, wrap_nat ((i : Int) + 1) (i + 1) (by omega) (by omega)]
    by_cases h1 : tb S i = true
    · rw [if_pos (e4.2 h1), hd, Option.bind_some]
      by_cases h2 : Go.bits .andNot .u8 S d = 0
      · rw [if_pos h2]
        exact ⟨_, rfl, Or.inl ⟨i, by omega, rfl, ⟨h1, e6.1 (e5.1 h2)⟩, hP⟩⟩
      · rw [if_neg h2]
        exact go (fun hp => h2 (e5.2 (e6.2 hp.2)))
    · rw [if_neg (fun h => h1 (e4.1 h))]
      exact go (fun hp => h1 hp.1)
theorem great_f (k : Nat) (hk : 40 ≤ k) (up : List Int) (hb : ∀ x ∈ up, 0 ≤ x ∧ x < 256) (hn : up.length ≤ 8) (S : Int) (s0 : 0 ≤ S) (s1 : S < 256) : ∃ r, lattice_Lat_greatest.f k up S = some r ∧ First up.length (GreatP up S) r := by
  obtain ⟨r, h, h2⟩ := great_l0 up hb hn S s0 s1 20 (by omega) up.length 0 (by omega) (fun b hb => by omega)
  refine ⟨r, lift_ (fun j => lattice_Lat_greatest.mono up S j) (k := up.length + 20 + 1) ?_ (by omega), h2⟩
  rw [lattice_Lat_greatest.f]
  exact h

theorem all_bit : ∀ n : Fin 9, ∀ j : Fin 9, tb ((shl .u8 1 ((n.val : Nat) : Int) - 1) % 256) j.val = decide (j.val < n.val) := by decide +kernel
theorem all_tb (n j : Nat) (hn : n ≤ 8) : tb ((shl .u8 1 (n : Int) - 1) % 256) j = decide (j < n) := by
  rcases Nat.lt_or_ge j 9 with h | h
  · exact all_bit ⟨n, by omega⟩ ⟨j, h⟩
  · rw [tb_ge _ _ (by omega)]
    exact (decide_eq_false (by omega)).symm
def Ok (up : List Int) (a c : Nat) : Prop := c ≠ a → Lv up a c = true → ¬ (Lv up c a = true) ∧ ∀ j, Lv up c j = true → Lv up a j = true
def Good (up : List Int) (a : Nat) : Prop := (∀ j, Lv up a j = true → j < up.length) ∧ Lv up a a = true ∧ ∀ c, c < up.length → Ok up a c
theorem ord_l1 (up : List Int) (hb : ∀ x ∈ up, 0 ≤ x ∧ x < 256) (hn : up.length ≤ 8) (al : Int) (i : Nat) (hi : i < up.length) (K : Nat) (o : Bool) (ho : lattice_Lat_ordered.l0 K al up (up.length : Int) ((i + 1 : Nat) : Int) up = some o) :
    ∀ (m b : Nat), b + m = up.length → ∃ q, lattice_Lat_ordered.l1 (m + K + 1) al (i : Int) (rd up (i : Int)) up (up.length : Int) (i : Int) (up.length : Int) (b : Int) up = some q ∧ (q = true ↔ (∀ c, b ≤ c → c < up.length → Ok up i c) ∧ o = true) := by
  intro m
  induction m with
  | zero =>
    intro b hbm
    have e1 : ¬ (b : Int) < (up.length : Int) := by omega
    have hK : lattice_Lat_ordered.l0 (0 + K) al up (up.length : Int) (wrap64 ((i : Int) + 1)) up = some o := by
      rw [Nat.zero_add, wrap_nat ((i : Int) + 1) (i + 1) (by omega) (by omega)]; exact ho
    refine ⟨o, by rw [lattice_Lat_ordered.l1, if_neg e1]; exact hK, ?_⟩
    constructor
    · intro h; exact ⟨fun c h1 h2 => by omega, h⟩
    · intro h; exact h.2
  | succ m ih =>
    intro b hbm
    have e1 : (b : Int) < (up.length : Int) := by omega
    have e3 : (0 : Int) ≤ (b : Int) := by omega
    obtain ⟨q, hq, hq2⟩ := ih (b + 1) (by omega)
    have split_ : Ok up i b → ((q = true) ↔ (∀ c, b ≤ c → c < up.length → Ok up i c) ∧ o = true) := fun hok => by
      rw [hq2]
      constructor
      · rintro ⟨h1, h2⟩
        refine ⟨fun c hc hc2 => ?_, h2⟩
        by_cases h : c = b
        · subst h; exact hok
        · exact h1 c (by omega) hc2
      · rintro ⟨h1, h2⟩
        exact ⟨fun c hc hc2 => h1 c (by omega) hc2, h2⟩
    have no_ : ¬ Ok up i b → ((false = true) ↔ (∀ c, b ≤ c → c < up.length → Ok up i c) ∧ o = true) := fun hok => by
      constructor
      · intro h; cases h
      · rintro ⟨h1, _⟩
        exact absurd (h1 b (Nat.le_refl _) (by omega)) hok
    have e5 := andNot_zero (rd up (b : Int)) (rd up (i : Int))
    rw [show m + 1 + K + 1 = m + K + 1 + 1 by omega, lattice_Lat_ordered.l1, if_pos e1, wrap_nat ((b : Int) + 1) (b + 1) (by omega) (by omega), leq_f up hb i b hi (by omega), leq_f up hb b i (by omega) (by omega)]
    by_cases h1 : i = b
    · subst h1
      rw [if_pos rfl]
      exact ⟨q, hq, split_ (fun h => absurd rfl h)⟩
    · rw [if_neg (by omega), Option.bind_some]
      cases h2 : Lv up i b with
      | false =>
        rw [if_neg (by simp)]
        exact ⟨q, hq, split_ (fun _ h => by rw [h2] at h; cases h)⟩
      | true =>
        rw [if_pos rfl, Option.bind_some]
        cases h3 : Lv up b i with
        | true =>
          rw [if_pos rfl]
          exact ⟨false, rfl, no_ (fun hok => (hok (fun h => h1 h.symm) h2).1 h3)⟩
        | false =>
          rw [if_neg (by simp), if_pos e3, if_pos e1]
          by_cases h4 : Go.bits .andNot .u8 (rd up (b : Int)) (rd up (i : Int)) = 0
          · rw [if_pos h4]
            exact ⟨q, hq, split_ (fun _ _ => ⟨by rw [h3]; simp, e5.1 h4⟩)⟩
          · rw [if_neg h4]
            exact ⟨false, rfl, no_ (fun hok => h4 (e5.2 (hok (fun h => h1 h.symm) h2).2))⟩
theorem ord_l0 (up : List Int) (hb : ∀ x ∈ up, 0 ≤ x ∧ x < 256) (hn : up.length ≤ 8) (al : Int) (hal : ∀ j, tb al j = decide (j < up.length)) : ∀ (r i : Nat), i + r = up.length →
    ∃ o, lattice_Lat_ordered.l0 (r * (up.length + 3) + 1) al up (up.length : Int) (i : Int) up = some o ∧ (o = true ↔ ∀ a, i ≤ a → a < up.length → Good up a) := by
  intro r
  induction r with
  | zero =>
    intro i hi
    have e1 : ¬ (i : Int) < (up.length : Int) := by omega
    refine ⟨true, by rw [lattice_Lat_ordered.l0, if_neg e1], ?_⟩
    constructor
    · intro _ a h1 h2; omega
    · intro _; rfl
  | succ r ih =>
    intro i hi
    have e1 : (i : Int) < (up.length : Int) := by omega
    have e3 : (0 : Int) ≤ (i : Int) := by omega
    obtain ⟨o, ho, ho2⟩ := ih (i + 1) (by omega)
    obtain ⟨q, hq, hq2⟩ := ord_l1 up hb hn al i (by omega) _ o ho up.length 0 (by omega)
    have e5 := andNot_zero (rd up (i : Int)) al
    have e6 : (∀ j, tb (rd up (i : Int)) j = true → tb al j = true) ↔ ∀ j, Lv up i j = true → j < up.length := by
      constructor
      · intro h j hj
        have := h j hj
        rw [hal] at this
        simpa using this
      · intro h j hj
        rw [hal]
        simpa using h j hj
    have no_ : ¬ Good up i → ((false = true) ↔ ∀ a, i ≤ a → a < up.length → Good up a) := fun hg => by
      constructor
      · intro h; cases h
      · intro h; exact absurd (h i (Nat.le_refl _) (by omega)) hg
    have hf : (r + 1) * (up.length + 3) + 1 = (up.length + (r * (up.length + 3) + 1) + 1) + 1 + 1 := by rw [Nat.succ_mul]; omega
    rw [hf, lattice_Lat_ordered.l0, if_pos e1, if_pos e3, if_pos e1, leq_f up hb i i (by omega) (by omega), Option.bind_some]
    by_cases h1 : Go.bits .andNot .u8 (rd up (i : Int)) al = 0
    · rw [if_pos h1, lattice_Lat_ordered.j1]
      cases h2 : Lv up i i with
      | false =>
        rw [if_pos (by simp)]
        exact ⟨false, rfl, no_ (fun hg => by have := hg.2.1; rw [h2] at this; cases this)⟩
      | true =>
        rw [if_neg (by simp)]
        refine ⟨q, hq, ?_⟩
        rw [hq2, ho2]
        constructor
        · rintro ⟨h3, h4⟩ a ha ha2
          by_cases h : a = i
          · subst h
            exact ⟨e6.1 (e5.1 h1), h2, fun c hc => h3 c (by omega) hc⟩
          · exact h4 a (by omega) ha2
        · intro h
          exact ⟨fun c _ hc => (h i (Nat.le_refl _) (by omega)).2.2 c hc, fun a ha ha2 => h a (by omega) ha2⟩
    · rw [if_neg h1, lattice_Lat_ordered.j1, if_pos rfl]
      exact ⟨false, rfl, no_ (fun hg => h1 (e5.2 (e6.2 hg.1)))⟩
theorem ordered_f (k : Nat) (hk : 100 ≤ k) (up : List Int) (hb : ∀ x ∈ up, 0 ≤ x ∧ x < 256) (hn : up.length ≤ 8) : ∃ o, lattice_Lat_ordered.f k up = some o ∧ (o = true ↔ ∀ a, a < up.length → Good up a) := by
  obtain ⟨o, h, h2⟩ := ord_l0 up hb hn _ (fun j => all_tb up.length j hn) up.length 0 (by omega)
  have hle : up.length * (up.length + 3) + 1 ≤ 100 := by
    have : up.length * (up.length + 3) ≤ 8 * 11 := Nat.mul_le_mul hn (by omega)
    omega
  refine ⟨o, lift_ (fun j => lattice_Lat_ordered.mono up j) (k := up.length * (up.length + 3) + 1) ?_ (by omega), ?_⟩
  · have e3 : (0 : Int) ≤ (up.length : Int) := by omega
    rw [lattice_Lat_ordered.f, u64_nat up.length (by omega), if_pos e3]
    exact h
  · rw [h2]
    exact ⟨fun h a ha => h a (by omega) ha, fun h a _ ha => h a ha⟩

def JoinP (up : List Int) (a b c : Nat) : Prop := Lv up a c = true ∧ Lv up b c = true ∧ ∀ j, Lv up a j = true → Lv up b j = true → Lv up c j = true
def MeetP (up : List Int) (a b c : Nat) : Prop := Lv up c a = true ∧ Lv up c b = true ∧ ∀ j, j < up.length → Lv up j a = true → Lv up j b = true → Lv up j c = true
theorem First.congr {n : Nat} {P Q : Nat → Prop} {r : Int} (h : First n P r) (hpq : ∀ a, a < n → (P a ↔ Q a)) : First n Q r := by
  rcases h with ⟨a, h1, h2, h3, h4⟩ | ⟨h1, h2⟩
  · exact Or.inl ⟨a, h1, h2, (hpq a h1).1 h3, fun b hb hq => h4 b hb ((hpq b (by omega)).2 hq)⟩
  · exact Or.inr ⟨h1, fun b hb hq => h2 b hb ((hpq b hb).2 hq)⟩
theorem First.neg {n : Nat} {P : Nat → Prop} {r : Int} (h : First n P r) : r < 0 ↔ ¬ ∃ a, a < n ∧ P a := by
  rcases h with ⟨a, h1, h2, h3, h4⟩ | ⟨h1, h2⟩
  · constructor
    · intro h; omega
    · intro h; exact absurd ⟨a, h1, h3⟩ h
  · constructor
    · rintro _ ⟨a, ha, hp⟩; exact h2 a ha hp
    · intro _; omega
theorem join_f (k : Nat) (hk : 20 ≤ k) (up : List Int) (hb : ∀ x ∈ up, 0 ≤ x ∧ x < 256) (hn : up.length ≤ 8) (a b : Nat) : ∃ r, lattice_Lat_least.f k up (Go.bits .and .u8 (rd up (a : Int)) (rd up (b : Int))) = some r ∧ First up.length (JoinP up a b) r := by
  obtain ⟨r, h1, h2⟩ := least_f k hk up hb hn _ (and_range (rd up (a : Int)) (rd up (b : Int))).1 (and_range _ _).2
  refine ⟨r, h1, h2.congr (fun c _ => ?_)⟩
  unfold LeastP JoinP
  simp only [tb_and, Bool.and_eq_true, and_assoc]
  exact ⟨fun h => ⟨h.1, h.2.1, fun j h3 h4 => h.2.2 j ⟨h3, h4⟩⟩, fun h => ⟨h.1, h.2.1, fun j h3 => h.2.2 j h3.1 h3.2⟩⟩
theorem meet_f (k : Nat) (hk : 40 ≤ k) (up : List Int) (hb : ∀ x ∈ up, 0 ≤ x ∧ x < 256) (hn : up.length ≤ 8) (a b : Nat) (ha : a ≤ 1000) (hb2 : b ≤ 1000) : ∃ d1 d2 r, lattice_Lat_down.f k up (a : Int) = some d1 ∧ lattice_Lat_down.f k up (b : Int) = some d2 ∧ lattice_Lat_greatest.f k up (Go.bits .and .u8 d1 d2) = some r ∧ First up.length (MeetP up a b) r := by
  obtain ⟨d1, e1, _, _, e2⟩ := down_f k (by omega) up hb hn a ha
  obtain ⟨d2, e3, _, _, e4⟩ := down_f k (by omega) up hb hn b hb2
  obtain ⟨r, h1, h2⟩ := great_f k hk up hb hn _ (and_range d1 d2).1 (and_range d1 d2).2
  refine ⟨d1, d2, r, e1, e3, h1, h2.congr (fun c hc => ?_)⟩
  unfold GreatP MeetP
  simp only [tb_and, e2, e4, Bool.and_eq_true, decide_eq_true_eq]
  constructor
  · rintro ⟨⟨⟨_, h3⟩, _, h4⟩, h5⟩
    exact ⟨h3, h4, fun j hj h6 h7 => (h5 j ⟨⟨hj, h6⟩, hj, h7⟩).2⟩
  · rintro ⟨h3, h4, h5⟩
    exact ⟨⟨⟨hc, h3⟩, hc, h4⟩, fun j hj => ⟨hj.1.1, h5 j hj.1.1 hj.1.2 hj.2.2⟩⟩
def JM (up : List Int) (a b : Nat) : Prop := (∃ c, c < up.length ∧ JoinP up a b c) ∧ ∃ c, c < up.length ∧ MeetP up a b c
theorem check_l1 (up : List Int) (hb : ∀ x ∈ up, 0 ≤ x ∧ x < 256) (hn : up.length ≤ 8) (a : Nat) (ha : a < up.length) (K : Nat) (hK : 50 ≤ K) (o : Option Int) (ho : lattice_Check.l0 K (up.length : Int) ((a + 1 : Nat) : Int) up = some o) (ho7 : o = none ∨ o = some 7) :
    ∀ (m b : Nat), b + m = a → ∃ q, lattice_Check.l1 (m + K + 1) (a : Int) (up.length : Int) (a : Int) (a : Int) (b : Int) up = some q ∧ (q = none ∨ q = some 7) ∧ (q = none ↔ (∀ c, b ≤ c → c < a → JM up a c) ∧ o = none) := by
  intro m
  induction m with
  | zero =>
    intro b hbm
    have e1 : ¬ (b : Int) < (a : Int) := by omega
    refine ⟨o, ?_, ho7, ?_⟩
    · rw [lattice_Check.l1, if_neg e1, Nat.zero_add, wrap_nat ((a : Int) + 1) (a + 1) (by omega) (by omega)]; exact ho
    · exact ⟨fun h => ⟨fun c h1 h2 => by omega, h⟩, fun h => h.2⟩
  | succ m ih =>
    intro b hbm
    have e1 : (b : Int) < (a : Int) := by omega
    have e2 : (0 : Int) ≤ (a : Int) := by omega
    have e3 : (a : Int) < (up.length : Int) := by omega
    have e4 : (0 : Int) ≤ (b : Int) := by omega
    have e5 : (b : Int) < (up.length : Int) := by omega
    obtain ⟨q, hq, hq7, hq2⟩ := ih (b + 1) (by omega)
    obtain ⟨r1, j1, j2⟩ := join_f (m + K + 1) (by omega) up hb hn a b
    obtain ⟨d1, d2, r2, m1, m2, m3, m4⟩ := meet_f (m + K + 1) (by omega) up hb hn a b (by omega) (by omega)
    have no_ : ¬ JM up a b → ((some 7 : Option Int) = none ↔ (∀ c, b ≤ c → c < a → JM up a c) ∧ o = none) := fun h => by
      constructor
      · intro h2; cases h2
      · rintro ⟨h2, _⟩; exact absurd (h2 b (Nat.le_refl _) (by omega)) h
    rw [show m + 1 + K + 1 = m + K + 1 + 1 by omega, lattice_Check.l1, if_pos e1, if_pos e2, if_pos e3, if_pos e4, if_pos e5, j1, Option.bind_some, wrap_nat ((b : Int) + 1) (b + 1) (by omega) (by omega)]
    by_cases h1 : r1 < 0
    · rw [if_pos h1]
      exact ⟨_, rfl, Or.inr rfl, no_ (fun h => (j2.neg.1 h1) h.1)⟩
    · rw [if_neg h1, m1, Option.bind_some, m2, Option.bind_some, m3, Option.bind_some]
      by_cases h2 : r2 < 0
      · rw [if_pos h2]
        exact ⟨_, rfl, Or.inr rfl, no_ (fun h => (m4.neg.1 h2) h.2)⟩
      · rw [if_neg h2]
        refine ⟨q, hq, hq7, ?_⟩
        have hjm : JM up a b := ⟨Classical.not_not.1 (fun h => h1 (j2.neg.2 h)), Classical.not_not.1 (fun h => h2 (m4.neg.2 h))⟩
        rw [hq2]
        constructor
        · rintro ⟨h3, h4⟩
          refine ⟨fun c hc hc2 => ?_, h4⟩
          by_cases h : c = b
          · subst h; exact hjm
          · exact h3 c (by omega) hc2
        · rintro ⟨h3, h4⟩
          exact ⟨fun c hc hc2 => h3 c (by omega) hc2, h4⟩
theorem check_l0 (up : List Int) (hb : ∀ x ∈ up, 0 ≤ x ∧ x < 256) (hn : up.length ≤ 8) : ∀ (r i : Nat), i + r = up.length →
    ∃ o, lattice_Check.l0 (10 * r + 50) (up.length : Int) (i : Int) up = some o ∧ (o = none ∨ o = some 7) ∧ (o = none ↔ ∀ a, i ≤ a → a < up.length → ∀ c, c < a → JM up a c) := by
  intro r
  induction r with
  | zero =>
    intro i hi
    have e1 : ¬ (i : Int) < (up.length : Int) := by omega
    exact ⟨none, by rw [show 10 * 0 + 50 = 49 + 1 by omega, lattice_Check.l0, if_neg e1], Or.inl rfl, ⟨fun _ a h1 h2 => by omega, fun _ => rfl⟩⟩
  | succ r ih =>
    intro i hi
    have e1 : (i : Int) < (up.length : Int) := by omega
    obtain ⟨o, ho, ho7, ho2⟩ := ih (i + 1) (by omega)
    have ho3 := lift_ (f := fun j => lattice_Check.l0 j (up.length : Int) ((i + 1 : Nat) : Int) up) (k' := 10 * r + 58 - i) (fun j => (lattice_Check.mono_l j).2.1 _ _ _) ho (by omega)
    obtain ⟨q, hq, hq7, hq2⟩ := check_l1 up hb hn i (by omega) (10 * r + 58 - i) (by omega) o ho3 ho7 i 0 (by omega)
    have hf : i + (10 * r + 58 - i) + 1 = 10 * r + 59 := by omega
    rw [hf] at hq
    refine ⟨q, by rw [show 10 * (r + 1) + 50 = 10 * r + 59 + 1 by omega, lattice_Check.l0, if_pos e1]; exact hq, hq7, ?_⟩
    rw [hq2, ho2]
    constructor
    · rintro ⟨h1, h2⟩ a ha ha2 c hc
      by_cases h : a = i
      · subst h; exact h1 c (by omega) hc
      · exact h2 a (by omega) ha2 c hc
    · intro h
      exact ⟨fun c _ hc => h i (Nat.le_refl _) (by omega) c hc, fun a ha ha2 c hc => h a (by omega) ha2 c hc⟩
structure LatP (up : List Int) : Prop where
  n1 : 1 ≤ up.length
  n8 : up.length ≤ 8
  good : ∀ a, a < up.length → Good up a
  jm : ∀ a, a < up.length → ∀ c, c < a → JM up a c
theorem check_f (k : Nat) (hk : 300 ≤ k) (up : List Int) (hb : ∀ x ∈ up, 0 ≤ x ∧ x < 256) : ∃ o, lattice_Check.f k up = some o ∧ (o = none ∨ o = some 7) ∧ (o = none ↔ LatP up) := by
  obtain ⟨K, rfl⟩ : ∃ K, k = K + 1 := ⟨k - 1, by omega⟩
  rw [lattice_Check.f]
  by_cases h1 : up.length < 1
  · rw [if_pos (by omega), lattice_Check.j0, if_pos rfl]
    exact ⟨_, rfl, Or.inr rfl, ⟨fun h => (by cases h), fun h => by have := h.n1; omega⟩⟩
  · rw [if_neg (by omega)]
    by_cases h2 : up.length > 8
    · rw [if_pos (by omega), lattice_Check.j0, if_pos rfl]
      exact ⟨_, rfl, Or.inr rfl, ⟨fun h => (by cases h), fun h => by have := h.n8; omega⟩⟩
    · rw [if_neg (by omega)]
      obtain ⟨o, ho, ho2⟩ := ordered_f (K + 1) (by omega) up hb (by omega)
      rw [ho, Option.bind_some, lattice_Check.j0]
      cases o with
      | false =>
        rw [if_pos (by simp)]
        exact ⟨_, rfl, Or.inr rfl, ⟨fun h => (by cases h), fun h => by have := ho2.2 h.good; cases this⟩⟩
      | true =>
        rw [if_neg (by simp)]
        obtain ⟨q, hq, hq7, hq2⟩ := check_l0 up hb (by omega) up.length 0 (by omega)
        have hq3 := lift_ (f := fun j => lattice_Check.l0 j (up.length : Int) ((0 : Nat) : Int) up) (k' := K) (fun j => (lattice_Check.mono_l j).2.1 _ _ _) hq (by omega)
        refine ⟨q, hq3, hq7, ?_⟩
        rw [hq2]
        exact ⟨fun h => ⟨by omega, by omega, ho2.1 rfl, fun a ha => h a (by omega) ha⟩, fun h a _ ha => h.jm a ha⟩

theorem sure_0 : colloquylaw01_sure.f 300 = some true := by decide +kernel
theorem sure_g (k : Nat) (hk : 300 ≤ k) : colloquylaw01_sure.f k = some true := lift_ (fun j => colloquylaw01_sure.mono j) sure_0 hk
theorem has_f (up : List Int) (a : Int) : lattice_Lat_has.f up a = some (decide (0 ≤ a ∧ a < (up.length : Int))) := by
  rw [lattice_Lat_has.f]
  by_cases h : a ≥ 0
  · rw [if_pos h]
    congr 1
    exact decide_eq_decide.2 (by omega)
  · rw [if_neg h, decide_eq_false (by omega)]
theorem may_in (k : Nat) (hk : 300 ≤ k) (up : List Int) (hb : ∀ x ∈ up, 0 ≤ x ∧ x < 256) (hL : LatP up) (a b : Nat) (ha : a < up.length) (hb2 : b < up.length) : lattice_Lat_may.f k up (a : Int) (b : Int) = some true := by
  obtain ⟨o, ho, _, h2⟩ := check_f k hk up hb
  rw [h2.2 hL] at ho
  rw [lattice_Lat_may.f, has_f, decide_eq_true (by omega), Option.bind_some, if_pos rfl, has_f, decide_eq_true (by omega), Option.bind_some, if_pos rfl, ho]
  rfl
theorem may_out (k : Nat) (up : List Int) (a b : Int) (h : ¬ (0 ≤ a ∧ a < (up.length : Int)) ∨ ¬ (0 ≤ b ∧ b < (up.length : Int))) : lattice_Lat_may.f k up a b = some false := by
  rw [lattice_Lat_may.f, has_f, Option.bind_some]
  by_cases h1 : 0 ≤ a ∧ a < (up.length : Int)
  · rw [decide_eq_true h1, if_pos rfl, has_f, decide_eq_false (h.resolve_left (fun h2 => h2 h1)), Option.bind_some, if_neg (by simp)]
  · rw [decide_eq_false h1, if_neg (by simp)]
theorem Leq_in (k : Nat) (hk : 300 ≤ k) (up : List Int) (hb : ∀ x ∈ up, 0 ≤ x ∧ x < 256) (hL : LatP up) (a b : Nat) (ha : a < up.length) (hb2 : b < up.length) : lattice_Lat_Leq.f k up (a : Int) (b : Int) = some (Lv up a b) := by
  have h8 := hL.n8
  rw [lattice_Lat_Leq.f, may_in k hk up hb hL a b ha hb2, Option.bind_some, if_pos rfl, leq_f up hb a b ha (by omega)]
  rfl
theorem Leq_out (k : Nat) (up : List Int) (a b : Int) (h : ¬ (0 ≤ a ∧ a < (up.length : Int)) ∨ ¬ (0 ≤ b ∧ b < (up.length : Int))) : lattice_Lat_Leq.f k up a b = some false := by
  rw [lattice_Lat_Leq.f, may_out k up a b h, Option.bind_some, if_neg (by simp)]
theorem Lv_self {up : List Int} (hL : LatP up) {a : Nat} (ha : a < up.length) : Lv up a a = true := (hL.good a ha).2.1
theorem Lv_rng {up : List Int} (hL : LatP up) {a j : Nat} (ha : a < up.length) (h : Lv up a j = true) : j < up.length := (hL.good a ha).1 j h
theorem Lv_anti {up : List Int} (hL : LatP up) {a b : Nat} (ha : a < up.length) (hb : b < up.length) (h1 : Lv up a b = true) (h2 : Lv up b a = true) : a = b := by
  by_cases h : b = a
  · exact h.symm
  · exact absurd h2 ((hL.good a ha).2.2 b hb h h1).1
theorem Lv_trans {up : List Int} (hL : LatP up) {a b c : Nat} (ha : a < up.length) (h1 : Lv up a b = true) (h2 : Lv up b c = true) : Lv up a c = true := by
  by_cases h : b = a
  · subst h; exact h2
  · exact ((hL.good a ha).2.2 b (Lv_rng hL ha h1) h h1).2 c h2
theorem jm_all {up : List Int} (hL : LatP up) {a b : Nat} (ha : a < up.length) (hb : b < up.length) : JM up a b := by
  rcases Nat.lt_trichotomy a b with h | h | h
  · obtain ⟨⟨c, h1, h2, h3, h4⟩, d, h5, h6, h7, h8⟩ := hL.jm b hb a h
    exact ⟨⟨c, h1, h3, h2, fun j hj hj2 => h4 j hj2 hj⟩, d, h5, h7, h6, fun j hj hj2 hj3 => h8 j hj hj3 hj2⟩
  · subst h
    exact ⟨⟨a, ha, Lv_self hL ha, Lv_self hL ha, fun j hj _ => hj⟩, a, ha, Lv_self hL ha, Lv_self hL ha, fun j _ hj _ => hj⟩
  · exact hL.jm a ha b h
theorem Join_f (k : Nat) (hk : 300 ≤ k) (up : List Int) (hb : ∀ x ∈ up, 0 ≤ x ∧ x < 256) (hL : LatP up) (a b : Nat) (ha : a < up.length) (hb2 : b < up.length) : ∃ c : Nat, lattice_Lat_Join.f k up (a : Int) (b : Int) = some (c : Int) ∧ c < up.length ∧ JoinP up a b c := by
  obtain ⟨r, h1, h2⟩ := join_f k (by omega) up hb hL.n8 a b
  have e1 : (0 : Int) ≤ (a : Int) := by omega
  have e2 : (a : Int) < (up.length : Int) := by omega
  have e3 : (0 : Int) ≤ (b : Int) := by omega
  have e4 : (b : Int) < (up.length : Int) := by omega
  rcases h2 with ⟨c, h3, rfl, h4, _⟩ | ⟨_, h3⟩
  · refine ⟨c, ?_, h3, h4⟩
    rw [lattice_Lat_Join.f, may_in k hk up hb hL a b ha hb2, Option.bind_some, if_pos rfl, if_pos e1, if_pos e2, if_pos e3, if_pos e4, h1]
    rfl
  · obtain ⟨c, hc, hp⟩ := (jm_all hL ha hb2).1
    exact absurd hp (h3 c hc)
theorem Meet_f (k : Nat) (hk : 300 ≤ k) (up : List Int) (hb : ∀ x ∈ up, 0 ≤ x ∧ x < 256) (hL : LatP up) (a b : Nat) (ha : a < up.length) (hb2 : b < up.length) : ∃ c : Nat, lattice_Lat_Meet.f k up (a : Int) (b : Int) = some (c : Int) ∧ c < up.length ∧ MeetP up a b c := by
  have h8 := hL.n8
  obtain ⟨d1, d2, r, m1, m2, h1, h2⟩ := meet_f k (by omega) up hb hL.n8 a b (by omega) (by omega)
  rcases h2 with ⟨c, h3, rfl, h4, _⟩ | ⟨_, h3⟩
  · refine ⟨c, ?_, h3, h4⟩
    rw [lattice_Lat_Meet.f, may_in k hk up hb hL a b ha hb2, Option.bind_some, if_pos rfl, m1, Option.bind_some, m2, Option.bind_some, h1]
    rfl
  · obtain ⟨c, hc, hp⟩ := (jm_all hL ha hb2).2
    exact absurd hp (h3 c hc)

theorem idx_of (x : Int) (h0 : 0 ≤ x) (h1 : x < 256) (n : Nat) (hn : 1 ≤ n) : ∃ a : Nat, Int.tmod (wrap64 x) (n : Int) = (a : Int) ∧ a < n := by
  rw [wrap_in (by omega) (by omega), Int.tmod_eq_emod_of_nonneg h0]
  have h2 := Int.emod_nonneg x (show (n : Int) ≠ 0 by omega)
  have h3 := Int.emod_lt_of_pos x (show (0 : Int) < (n : Int) by omega)
  exact ⟨(x % (n : Int)).toNat, by omega, by omega⟩

theorem ones_all : ∀ x : Fin 256, ∀ n : Fin 9, (∀ j : Fin 8, tb (x.val : Int) j.val = true → j.val < n.val) → (Lib.onesCount x.val = n.val ↔ ∀ j : Fin 8, j.val < n.val → tb (x.val : Int) j.val = true) := by decide +kernel
theorem ones_one : ∀ x : Fin 256, ∀ a : Fin 8, tb (x.val : Int) a.val = true → (Lib.onesCount x.val = 1 ↔ ∀ j : Fin 8, tb (x.val : Int) j.val = true → j = a) := by decide +kernel
theorem lidx_f (p : Int → Bool) : ∀ (l : List Int) (i : Nat), (∃ a, a < l.length ∧ p (rd l (a : Int)) = true) → ∃ a, a < l.length ∧ Go.Proofs.YtdggcbmghmfmkaaDoor.Idx.lidx p l i = ((i + a : Nat) : Int) ∧ p (rd l (a : Int)) = true := by
  intro l
  induction l with
  | nil => rintro i ⟨a, h, _⟩; simp at h
  | cons y r ih =>
    rintro i ⟨a, h, hp⟩
    by_cases hy : p y = true
    · refine ⟨0, by simp, ?_, ?_⟩
      · rw [Go.Proofs.YtdggcbmghmfmkaaDoor.Idx.lidx, if_pos hy]; simp
      · simpa [rd] using hy
    · have ha : a ≠ 0 := fun e => by subst e; exact hy (by simpa [rd] using hp)
      obtain ⟨b, rfl⟩ : ∃ b, a = b + 1 := ⟨a - 1, by omega⟩
      have e1 : ∀ q : Nat, rd (y :: r) ((q + 1 : Nat) : Int) = rd r (q : Int) := fun q => by simp [rd]
      rw [e1] at hp
      obtain ⟨c, h1, h2, h3⟩ := ih (i + 1) ⟨b, by simpa using h, hp⟩
      refine ⟨c + 1, by simp; omega, ?_, by rw [e1]; exact h3⟩
      rw [Go.Proofs.YtdggcbmghmfmkaaDoor.Idx.lidx, if_neg hy, h2]
      congr 1; omega
theorem ex_bottom {up : List Int} (hL : LatP up) : ∀ m, m ≤ up.length → ∃ c, c < up.length ∧ ∀ a, a < m → Lv up c a = true := by
  intro m
  induction m with
  | zero => intro _; exact ⟨0, hL.n1, fun a h => absurd h (by omega)⟩
  | succ m ih =>
    intro hm
    obtain ⟨c, hc, h⟩ := ih (by omega)
    obtain ⟨d, hd, p1, p2, _⟩ := (jm_all hL hc (show m < up.length by omega)).2
    refine ⟨d, hd, fun a ha => ?_⟩
    by_cases e : a = m
    · subst e; exact p2
    · exact Lv_trans hL hd p1 (h a (by omega))
theorem ex_top {up : List Int} (hL : LatP up) : ∀ m, m ≤ up.length → ∃ c, c < up.length ∧ ∀ a, a < m → Lv up a c = true := by
  intro m
  induction m with
  | zero => intro _; exact ⟨0, hL.n1, fun a h => absurd h (by omega)⟩
  | succ m ih =>
    intro hm
    obtain ⟨c, hc, h⟩ := ih (by omega)
    obtain ⟨d, hd, p1, p2, _⟩ := (jm_all hL hc (show m < up.length by omega)).1
    refine ⟨d, hd, fun a ha => ?_⟩
    by_cases e : a = m
    · subst e; exact p2
    · exact Lv_trans hL (by omega) (h a (by omega)) p1
theorem all_byte {up : List Int} (hb : ∀ x ∈ up, 0 ≤ x ∧ x < 256) : (up.all fun y => decide (0 ≤ y) && decide (y < 256)) = true := by
  refine List.all_eq_true.2 fun x hx => ?_
  have := hb x hx
  simp [this.1, this.2]
theorem Bottom_f (k : Nat) (hk : 300 ≤ k) (up : List Int) (hb : ∀ x ∈ up, 0 ≤ x ∧ x < 256) (hL : LatP up) : ∃ c : Nat, lattice_Lat_Bottom.f k up = some (c : Int) ∧ c < up.length ∧ ∀ a, a < up.length → Lv up c a = true := by
  obtain ⟨o, ho, _, h2⟩ := check_f k hk up hb
  rw [h2.2 hL] at ho
  have h8 := hL.n8
  have key : ∀ a, a < up.length → (Lib.onesCount (rd up (a : Int)).toNat = up.length ↔ ∀ j, j < up.length → Lv up a j = true) := fun a ha => by
    obtain ⟨x0, x1⟩ := hb _ (rd_mem up a ha)
    have h := ones_all ⟨(rd up (a : Int)).toNat, by omega⟩ ⟨up.length, by omega⟩
    have e : (((rd up (a : Int)).toNat : Nat) : Int) = rd up (a : Int) := by omega
    simp only [e] at h
    rw [h (fun j hj => Lv_rng hL ha hj)]
    exact ⟨fun g j hj => g ⟨j, by omega⟩ hj, fun g j hj => g j.val hj⟩
  obtain ⟨c, hc, hall⟩ := ex_bottom hL up.length (Nat.le_refl _)
  obtain ⟨d, hd, e1, e2⟩ := lidx_f (fun y => decide (((Lib.onesCount y.toNat : Nat) : Int) = (up.length : Int))) up 0 ⟨c, hc, decide_eq_true (by rw [(key c hc).2 hall])⟩
  refine ⟨d, ?_, hd, (key d hd).1 (by have := of_decide_eq_true e2; omega)⟩
  rw [lattice_Lat_Bottom.f, ho, Option.bind_some, if_neg (by simp), if_pos (all_byte hb), e1, Nat.zero_add]
theorem Top_f (k : Nat) (hk : 300 ≤ k) (up : List Int) (hb : ∀ x ∈ up, 0 ≤ x ∧ x < 256) (hL : LatP up) : ∃ c : Nat, lattice_Lat_Top.f k up = some (c : Int) ∧ c < up.length ∧ ∀ a, a < up.length → Lv up a c = true := by
  obtain ⟨o, ho, _, h2⟩ := check_f k hk up hb
  rw [h2.2 hL] at ho
  have h8 := hL.n8
  have key : ∀ a, a < up.length → (Lib.onesCount (rd up (a : Int)).toNat = 1 ↔ ∀ j, Lv up a j = true → j = a) := fun a ha => by
    obtain ⟨x0, x1⟩ := hb _ (rd_mem up a ha)
    have h := ones_one ⟨(rd up (a : Int)).toNat, by omega⟩ ⟨a, by omega⟩
    have e : (((rd up (a : Int)).toNat : Nat) : Int) = rd up (a : Int) := by omega
    simp only [e] at h
    rw [h (Lv_self hL ha)]
    exact ⟨fun g j hj => congrArg Fin.val (g ⟨j, by have := Lv_rng hL ha hj; omega⟩ hj), fun g j hj => Fin.ext (g j.val hj)⟩
  obtain ⟨c, hc, hall⟩ := ex_top hL up.length (Nat.le_refl _)
  obtain ⟨d, hd, e1, e2⟩ := lidx_f (fun y => decide (((Lib.onesCount y.toNat : Nat) : Int) = 1)) up 0 ⟨c, hc, decide_eq_true (by rw [(key c hc).2 (fun j hj => Lv_anti hL (Lv_rng hL hc hj) hc (hall j (Lv_rng hL hc hj)) hj)]; rfl)⟩
  have e3 := (key d hd).1 (by have := of_decide_eq_true e2; omega)
  have e4 : c = d := e3 c (hall d hd)
  refine ⟨d, ?_, hd, by rw [← e4]; exact hall⟩
  rw [lattice_Lat_Top.f, ho, Option.bind_some, if_neg (by simp), if_pos (all_byte hb), e1, Nat.zero_add]
theorem JoinP.uniq {up : List Int} (hL : LatP up) {a b c d : Nat} (hc : c < up.length) (hd : d < up.length) (h1 : JoinP up a b c) (h2 : JoinP up a b d) : c = d :=
  Lv_anti hL hc hd (h1.2.2 d h2.1 h2.2.1) (h2.2.2 c h1.1 h1.2.1)
theorem MeetP.uniq {up : List Int} (hL : LatP up) {a b c d : Nat} (hc : c < up.length) (hd : d < up.length) (h1 : MeetP up a b c) (h2 : MeetP up a b d) : c = d :=
  Lv_anti hL hc hd (h2.2.2 c hc h1.1 h1.2.1) (h1.2.2 d hd h2.1 h2.2.1)
theorem JoinP.swap {up : List Int} {a b c : Nat} (h : JoinP up a b c) : JoinP up b a c := ⟨h.2.1, h.1, fun j h1 h2 => h.2.2 j h2 h1⟩
theorem MeetP.swap {up : List Int} {a b c : Nat} (h : MeetP up a b c) : MeetP up b a c := ⟨h.2.1, h.1, fun j hj h1 h2 => h.2.2 j hj h2 h1⟩
theorem natb (x y : Nat) : ((x : Int) == (y : Int)) = decide (x = y) := by
  rw [Bool.eq_iff_iff, beq_iff_eq, decide_eq_true_iff]
  exact ⟨fun h => by omega, fun h => by rw [h]⟩
theorem laws_j0 (k : Nat) (hk : 300 ≤ k) (up : List Int) (hb : ∀ x ∈ up, 0 ≤ x ∧ x < 256) (hL : LatP up) (x y z : Int) (hx0 : 0 ≤ x) (hx1 : x < 256) (hy0 : 0 ≤ y) (hy1 : y < 256) (hz0 : 0 ≤ z) (hz1 : z < 256) : colloquylaw01_LatticeLaws.j0 (k + 1) up false x y z up = some true := by
  have hn := hL.n1
  obtain ⟨a, ea, ha⟩ := idx_of x hx0 hx1 up.length hn
  obtain ⟨b, eb, hbb⟩ := idx_of y hy0 hy1 up.length hn
  obtain ⟨c, ec, hc⟩ := idx_of z hz0 hz1 up.length hn
  have T := @Lv_trans up hL
  have J := Join_f k hk up hb hL
  have M := Meet_f k hk up hb hL
  have L := Leq_in k hk up hb hL
  rw [colloquylaw01_LatticeLaws.j0, if_neg (by simp), if_neg (by omega), ea, eb, ec]
  obtain ⟨j, ej, hj, pj⟩ := J a b ha hbb
  obtain ⟨m, em, hm, pm⟩ := M a b ha hbb
  obtain ⟨j2, ej2, hj2, pj2⟩ := J b a hbb ha
  obtain ⟨m2, em2, hm2, pm2⟩ := M b a hbb ha
  obtain rfl := JoinP.uniq hL hj hj2 pj pj2.swap
  obtain rfl := MeetP.uniq hL hm hm2 pm pm2.swap
  rw [ej, Option.bind_some, em, Option.bind_some, ej2, Option.bind_some, if_pos rfl, em2, Option.bind_some, if_pos rfl]
  obtain ⟨p, ep, hp, pp⟩ := J j c hj hc
  obtain ⟨q, eq, hq, pq⟩ := J b c hbb hc
  obtain ⟨r, er, hr, pr⟩ := J a q ha hq
  obtain rfl : p = r := by
    refine Lv_anti hL hp hr (pp.2.2 r (pj.2.2 r pr.1 (T hbb pq.1 pr.2.1)) (T hc pq.2.1 pr.2.1)) (pr.2.2 p (T ha pj.1 pp.1) (pq.2.2 p (T hbb pj.2.1 pp.1) pp.2.1))
  rw [ep, Option.bind_some, eq, Option.bind_some, er, Option.bind_some, if_pos rfl]
  obtain ⟨p2, ep2, hp2, pp2⟩ := M m c hm hc
  obtain ⟨q2, eq2, hq2, pq2⟩ := M b c hbb hc
  obtain ⟨r2, er2, hr2, pr2⟩ := M a q2 ha hq2
  obtain rfl : p2 = r2 := by
    refine Lv_anti hL hp2 hr2 (pr2.2.2 p2 hp2 (T hp2 pp2.1 pm.1) (pq2.2.2 p2 hp2 (T hp2 pp2.1 pm.2.1) pp2.2.1)) (pp2.2.2 r2 hr2 (pm.2.2 r2 hr2 pr2.1 (T hr2 pr2.2.1 pq2.1)) (T hr2 pr2.2.1 pq2.2.1))
  rw [ep2, Option.bind_some, eq2, Option.bind_some, er2, Option.bind_some, if_pos rfl]
  have haa := Lv_self hL ha
  obtain ⟨s, es, hs, ps⟩ := J a a ha ha
  obtain rfl : s = a := Lv_anti hL hs ha (ps.2.2 a haa haa) ps.1
  obtain ⟨s2, es2, hs2, ps2⟩ := M s s ha ha
  obtain rfl : s2 = s := Lv_anti hL hs2 ha ps2.1 (ps2.2.2 s ha haa haa)
  rw [es, Option.bind_some, if_pos rfl, es2, Option.bind_some, if_pos rfl]
  obtain ⟨t, et, ht, pt⟩ := J s2 m ha hm
  obtain rfl : t = s2 := Lv_anti hL ht ha (pt.2.2 s2 haa pm.1) pt.1
  obtain ⟨t2, et2, ht2, pt2⟩ := M t j ha hj
  obtain rfl : t2 = t := Lv_anti hL ht2 ha pt2.1 (pt2.2.2 t ha haa pj.1)
  rw [et, Option.bind_some, if_pos rfl, et2, Option.bind_some, if_pos rfl]
  have hbs := Lv_self hL hbb
  have k1 : Lv up t2 b = decide (j = b) := by
    rw [Bool.eq_iff_iff, decide_eq_true_iff]
    exact ⟨fun h => Lv_anti hL hj hbb (pj.2.2 b h hbs) pj.2.1, fun h => h ▸ pj.1⟩
  have k2 : Lv up t2 b = decide (m = t2) := by
    rw [Bool.eq_iff_iff, decide_eq_true_iff]
    exact ⟨fun h => Lv_anti hL hm ha pm.1 (pm.2.2 t2 ha haa h), fun h => by have h3 := pm.2.1; rw [h] at h3; exact h3⟩
  rw [L t2 b ha hbb, Option.bind_some, natb, ← k1, if_pos (by simp), Option.bind_some, natb, ← k2, if_pos (by simp)]
  obtain ⟨u, eu, hu, pu⟩ := Bottom_f k hk up hb hL
  obtain ⟨v, ev, hv, pv⟩ := Top_f k hk up hb hL
  rw [eu, Option.bind_some, L u t2 hu ha, Option.bind_some, pu t2 ha, if_pos rfl, ev, Option.bind_some, L t2 v ha hv, Option.bind_some, pv t2 ha, if_pos rfl, L t2 j ha hj, Option.bind_some, pj.1, if_pos rfl, L m b hm hbb, Option.bind_some, pm.2.1, if_pos rfl, sure_g k hk]
  rfl
theorem LatticeLaws : colloquylaw01_LatticeLaws.Pure := by
  intro l x y z h1 h2 hw hx hy hz
  have hb : ∀ x ∈ l, 0 ≤ x ∧ x < 256 := fun x hx => wf_u8 (hw x hx)
  obtain ⟨x0, x1⟩ := wf_u8 hx
  obtain ⟨y0, y1⟩ := wf_u8 hy
  obtain ⟨z0, z1⟩ := wf_u8 hz
  refine ⟨1002, ?_⟩
  have hS : colloquylaw01_LatticeLaws.j0 (1001 + 1) l true x y z l = some true := by
    rw [colloquylaw01_LatticeLaws.j0, if_pos rfl, sure_g 1001 (by omega)]; rfl
  obtain ⟨o1, c1, _, d1⟩ := check_f 1002 (by omega) l hb
  rw [colloquylaw01_LatticeLaws.f, Option.bind_some, if_pos (show ([] : List Int).length + l.length < 140737488355328 from (by simp only [List.length_nil]; omega)), Option.bind_some, List.nil_append]
  by_cases g1 : l.length > 20
  · rw [if_pos (by omega)]; exact hS
  · rw [if_neg (by omega), c1, Option.bind_some]
    cases o1 with
    | some _ => rw [if_neg (by simp)]; exact hS
    | none =>
      rw [if_pos (show (none : Option Int).isNone = true from rfl)]
      exact laws_j0 1001 (by omega) l hb (d1.1 rfl) x y z x0 x1 y0 y1 z0 z1

end Go.Proofs.YtdggcbmghmfmkaaDoor.Pure
