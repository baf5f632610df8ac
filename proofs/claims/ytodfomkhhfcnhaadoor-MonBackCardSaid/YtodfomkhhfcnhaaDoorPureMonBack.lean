/-
  The plain law of MonBack: what the law's Go functions compute, as lists and numbers, answers true at every input. Condition: none beyond the numbers' kinds and the slices' bounds.
-/
import Derived.Test.YtodfomkhhfcnhaaDoorPMonBackx0
import Derived.Test.YtodfomkhhfcnhaaDoorPMonBackx1
import Derived.Test.YtodfomkhhfcnhaaDoorPMonBackx2
import Derived.Test.YtodfomkhhfcnhaaDoorPMonBackx3
import Derived.Test.YtodfomkhhfcnhaaDoorPMonBackx4
import Derived.Test.YtodfomkhhfcnhaaDoorPMonBackx5
import Derived.Test.YtodfomkhhfcnhaaDoorPMonBackx6
import Derived.Test.YtodfomkhhfcnhaaDoorPMonBackx7
import Derived.Test.YtodfomkhhfcnhaaDoorPMonBackx8
import Derived.Test.YtodfomkhhfcnhaaDoorPMonBackx9
import Derived.Lib.Bytes
import Derived.Laws.BitsLemmas
import Derived.DataShut
namespace Go.Proofs.YtodfomkhhfcnhaaDoor.Pure
open Go Go.RowKit Go.Proofs.YtodfomkhhfcnhaaDoor.PMonBack Go.Proofs.YtodfomkhhfcnhaaDoorW.PrintWords Go.Proofs.YtodfomkhhfcnhaaDoorW.PrintLast Go.Proofs.YtodfomkhhfcnhaaDoorW.PrintMore
set_option linter.unusedVariables false
set_option linter.unusedSimpArgs false
-- plain words on Go's bit operations, lists of bytes, and texts (this repo's own)
theorem fin_u8 {P : Int → Prop} (h : ∀ y : Fin 256, P ((y.val : Nat) : Int)) (x : Int) (h0 : 0 ≤ x) (h1 : x < 256) : P x := by
  obtain ⟨a, rfl⟩ := Int.eq_ofNat_of_zero_le h0
  exact h ⟨a, by omega⟩
theorem u8_and64_zero (x : Int) (h0 : 0 ≤ x) (h1 : x < 256) : (Go.bits .and .u8 x 64 = 0) ↔ x % 128 < 64 := fin_u8 (P := fun x => (Go.bits .and .u8 x 64 = 0) ↔ x % 128 < 64) (by decide +kernel) x h0 h1
theorem u8_and128_zero (x : Int) (h0 : 0 ≤ x) (h1 : x < 256) : (Go.bits .and .u8 x 128 = 0) ↔ x < 128 := fin_u8 (P := fun x => (Go.bits .and .u8 x 128 = 0) ↔ x < 128) (by decide +kernel) x h0 h1
theorem u8_and127 (x : Int) (h0 : 0 ≤ x) (h1 : x < 256) : Go.bits .and .u8 x 127 = x % 128 := fin_u8 (P := fun x => Go.bits .and .u8 x 127 = x % 128) (by decide +kernel) x h0 h1
theorem u8_or128 (x : Int) (h0 : 0 ≤ x) (h1 : x < 128) : Go.bits .or .u8 x 128 = x + 128 := fin_u8 (P := fun x => x < 128 → Go.bits .or .u8 x 128 = x + 128) (by decide +kernel) x h0 (by omega) h1
theorem i64_and127 (x : Int) : Go.bits .and .i64 x 127 = x % 128 := by
  show IntKind.i64.wrap (((BitVec.ofInt 64 x &&& BitVec.ofInt 64 127).toNat : Nat) : Int) = x % 128
  rw [BitVec.toNat_and, BitVec.toNat_ofInt, BitVec.toNat_ofInt, show ((127 : Int) % ((2 ^ 64 : Nat) : Int)).toNat = 2 ^ 7 - 1 from by decide, Nat.and_two_pow_sub_one_eq_mod, Go.IntKind.wrap_i64]
  omega
theorem i64_or_disj (a b : Int) (s : Nat) (hs : s ≤ 63) (ha0 : 0 ≤ a) (ha : a < 2 ^ s) (hb : b % 2 ^ s = 0) : Go.bits .or .i64 a b = wrap64 (a + b) := by
  show IntKind.i64.wrap (((BitVec.ofInt 64 a ||| BitVec.ofInt 64 b).toNat : Nat) : Int) = wrap64 (a + b)
  have hp : (2 : Int) ^ s ≤ 2 ^ 63 := by exact_mod_cast Nat.pow_le_pow_right (by decide) hs
  have h63 : (2 : Int) ^ 63 = 9223372036854775808 := by decide
  have hA : (a % ((2 ^ 64 : Nat) : Int)).toNat = a.toNat := by
    rw [show ((2 ^ 64 : Nat) : Int) = 18446744073709551616 from by decide]; omega
  have hd : (2 : Int) ^ s ∣ ((2 ^ 64 : Nat) : Int) := by
    exact_mod_cast Nat.pow_dvd_pow 2 (by omega : s ≤ 64)
  have hB : (b % ((2 ^ 64 : Nat) : Int)) % 2 ^ s = 0 := by rw [Int.emod_emod_of_dvd _ hd]; exact hb
  have hB0 : 0 ≤ b % ((2 ^ 64 : Nat) : Int) := Int.emod_nonneg _ (by decide)
  obtain ⟨B, hBe⟩ := Int.eq_ofNat_of_zero_le hB0
  have hBm : B % 2 ^ s = 0 := by
    rw [hBe] at hB; exact_mod_cast hB
  have hBq : B = 2 ^ s * (B / 2 ^ s) := by have := Nat.div_add_mod B (2 ^ s); omega
  have hAl : a.toNat < 2 ^ s := by
    have h1 : ((a.toNat : Nat) : Int) = a := Int.toNat_of_nonneg ha0
    have h2 : ((a.toNat : Nat) : Int) < ((2 ^ s : Nat) : Int) := by rw [h1]; exact_mod_cast ha
    exact_mod_cast h2
  rw [BitVec.toNat_or, BitVec.toNat_ofInt, BitVec.toNat_ofInt, hA, hBe, Int.toNat_natCast, Nat.or_comm]
  rw [hBq, ← Nat.two_pow_add_eq_or_of_lt hAl, ← hBq, Go.IntKind.wrap_i64]
  unfold wrap64
  have h1 : ((a.toNat : Nat) : Int) = a := Int.toNat_of_nonneg ha0
  rw [show ((2 ^ 64 : Nat) : Int) = 18446744073709551616 from by decide] at hBe
  omega
theorem wf_u8 {x : Int} (h : (Lit.int .u8 x).wf = true) : 0 ≤ x ∧ x < 256 := by
  have := (Lit.wf_int_iff .u8 x).1 h; simp [IntKind.min, IntKind.max, IntKind.signed, IntKind.bits] at this; omega
theorem wf_i64 {x : Int} (h : (Lit.int .i64 x).wf = true) : -9223372036854775808 ≤ x ∧ x ≤ 9223372036854775807 := by
  have := (Lit.wf_int_iff .i64 x).1 h; simp [IntKind.min, IntKind.max, IntKind.signed, IntKind.bits] at this; omega
theorem strOf_toList (xs : List Int) : (strOfNums xs).toList = xs.map fun n => UInt8.ofNat n.toNat := Go.Lib.strOfNums_toList xs
theorem strOf_inj {a b : List Int} (ha : ∀ x ∈ a, 0 ≤ x ∧ x < 256) (hb : ∀ x ∈ b, 0 ≤ x ∧ x < 256) : (strOfNums a).toList = (strOfNums b).toList ↔ a = b := by
  rw [strOf_toList, strOf_toList]
  constructor
  · intro h
    induction a generalizing b with
    | nil => cases b with
      | nil => rfl
      | cons y ys => simp at h
    | cons x xs ih => cases b with
      | nil => simp at h
      | cons y ys =>
        simp only [List.map_cons, List.cons.injEq] at h
        obtain ⟨h1, h2⟩ := h
        have hx := ha x (by simp)
        have hy := hb y (by simp)
        have e : x = y := by
          have h3 := congrArg UInt8.toNat h1
          simp only [UInt8.toNat_ofNat'] at h3
          omega
        rw [e, ih (fun z hz => ha z (by simp [hz])) (fun z hz => hb z (by simp [hz])) h2]
  · intro h; rw [h]

-- bytes as eight bits (this repo's own)
def V (x : Int) : BitVec 8 := BitVec.ofInt 8 x
theorem V_nat (v : BitVec 8) : V (v.toNat : Int) = v := by
  unfold V
  apply BitVec.eq_of_toNat_eq
  have := v.isLt
  simp only [BitVec.toNat_ofInt]
  omega
theorem wrap_bv (v : BitVec 8) : IntKind.u8.wrap (v.toNat : Int) = (v.toNat : Int) := by
  have := v.isLt
  simp only [IntKind.wrap, IntKind.bits, IntKind.signed]
  simp; omega
theorem and_V (a b : Int) : Go.bits .and .u8 a b = (((V a &&& V b).toNat : Nat) : Int) := wrap_bv _
theorem or_V (a b : Int) : Go.bits .or .u8 a b = (((V a ||| V b).toNat : Nat) : Int) := wrap_bv _
theorem andNot_V (a b : Int) : Go.bits .andNot .u8 a b = (((V a &&& ~~~ V b).toNat : Nat) : Int) := wrap_bv _
def tb (x : Int) (j : Nat) : Bool := (V x).getLsbD j
theorem tb_and (a b : Int) (j : Nat) : tb (Go.bits .and .u8 a b) j = (tb a j && tb b j) := by
  rw [and_V]; unfold tb; rw [V_nat, BitVec.getLsbD_and]
theorem tb_or (a b : Int) (j : Nat) : tb (Go.bits .or .u8 a b) j = (tb a j || tb b j) := by
  rw [or_V]; unfold tb; rw [V_nat, BitVec.getLsbD_or]
theorem andNot_zero (a b : Int) : Go.bits .andNot .u8 a b = 0 ↔ ∀ j, tb a j = true → tb b j = true := by
  rw [andNot_V]
  constructor
  · intro h j hj
    have h2 : V a &&& ~~~ V b = 0#8 := by
      apply BitVec.eq_of_toNat_eq
      rw [show (0#8 : BitVec 8).toNat = 0 from rfl]
      exact_mod_cast h
    have h3 : (V a &&& ~~~ V b).getLsbD j = false := by rw [h2]; simp
    unfold tb at *
    have hlt : j < 8 := by
      rcases Nat.lt_or_ge j 8 with h4 | h4
      · exact h4
      · rw [BitVec.getLsbD_of_ge _ _ h4] at hj; simp at hj
    rw [BitVec.getLsbD_and, BitVec.getLsbD_not, hj] at h3
    simpa [hlt] using h3
  · intro h
    have h2 : V a &&& ~~~ V b = 0#8 := by
      apply BitVec.eq_of_getLsbD_eq
      intro i hi
      rw [BitVec.getLsbD_and, BitVec.getLsbD_not]
      have := h i
      unfold tb at this
      cases h3 : (V a).getLsbD i with
      | false => simp
      | true => simp [this h3, hi]
    rw [h2]; rfl
theorem tb_ge (x : Int) (j : Nat) (h : 8 ≤ j) : tb x j = false := BitVec.getLsbD_of_ge _ _ h
theorem leqbit : ∀ y : Fin 256, ∀ j : Fin 9, (Go.bits .and .u8 (shr .u8 ((y.val : Nat) : Int) ((j.val : Nat) : Int)) 1 == 1) = tb ((y.val : Nat) : Int) j.val := by decide +kernel

-- what package lattice computes, by bits (this repo's own)
def Lv (up : List Int) (a b : Nat) : Bool := tb (rd up (a : Int)) b
theorem wrap_in {x : Int} (h1 : -9223372036854775808 ≤ x) (h2 : x ≤ 9223372036854775807) : wrap64 x = x := by unfold wrap64; omega
theorem wrap_nat (x : Int) (n : Nat) (h : x = (n : Int)) (hn : n ≤ 100000) : wrap64 x = (n : Int) := by
  subst h
  exact wrap_in (by omega) (by omega)
theorem u64_nat (n : Nat) (hn : n ≤ 100000) : IntKind.u64.wrap (n : Int) = (n : Int) := by
  simp only [IntKind.wrap, IntKind.bits, IntKind.signed]
  simp; omega
theorem lift_ {α : Type} {f : Nat → Option α} {k k' : Nat} {r : α} (hm : ∀ j, LeO (f j) (f (j + 1))) (h : f k = some r) (hk : k ≤ k') : f k' = some r := by
  obtain ⟨d, rfl⟩ : ∃ d, k' = k + d := ⟨k' - k, by omega⟩
  clear hk
  induction d with
  | zero => exact h
  | succ d ih => exact hm (k + d) r ih
theorem shr_and1 (x : Int) (h0 : 0 ≤ x) (h1 : x < 256) (j : Nat) : (Go.bits .and .u8 (shr .u8 x (j : Int)) 1 == 1) = tb x j := by
  rcases Nat.lt_or_ge j 9 with h | h
  · have := leqbit ⟨x.toNat, by omega⟩ ⟨j, h⟩
    rwa [show (((⟨x.toNat, by omega⟩ : Fin 256).val : Nat) : Int) = x by simp; omega] at this
  · have e : shr .u8 x (j : Int) = shr .u8 x ((8 : Nat) : Int) := by
      have hb : IntKind.u8.bits = 8 := rfl
      simp only [shr, hb, Int.toNat_natCast, Nat.min_eq_right (show 8 ≤ j by omega), Nat.min_self]
    have := leqbit ⟨x.toNat, by omega⟩ ⟨8, by omega⟩
    rw [show (((⟨x.toNat, by omega⟩ : Fin 256).val : Nat) : Int) = x by simp; omega] at this
    rw [e, this, tb_ge x j (by omega), tb_ge x _ (by simp)]
theorem rd_mem (l : List Int) (i : Nat) (h : i < l.length) : rd l (i : Int) ∈ l := by
  simp [rd, h]
theorem leq_f (up : List Int) (hb : ∀ x ∈ up, 0 ≤ x ∧ x < 256) (a b : Nat) (ha : a < up.length) (hb2 : b ≤ 100000) : lattice_Lat_leq.f up (a : Int) (b : Int) = some (Lv up a b) := by
  obtain ⟨h0, h1⟩ := hb _ (rd_mem up a ha)
  have e1 : (0 : Int) ≤ (a : Int) := by omega
  have e2 : (a : Int) < (up.length : Int) := by omega
  have e3 : (0 : Int) ≤ (b : Int) := by omega
  rw [lattice_Lat_leq.f, if_pos e1, if_pos e2, u64_nat b hb2, if_pos e3, shr_and1 _ h0 h1]
  rfl

theorem shl_bit : ∀ i : Fin 8, ∀ j : Fin 9, tb (shl .u8 1 ((i.val : Nat) : Int)) j.val = (i.val == j.val) ∧ 0 ≤ shl .u8 1 ((i.val : Nat) : Int) ∧ shl .u8 1 ((i.val : Nat) : Int) < 256 := by decide +kernel
theorem shl_tb (i j : Nat) (hi : i < 8) : tb (shl .u8 1 (i : Int)) j = (i == j) := by
  rcases Nat.lt_or_ge j 9 with h | h
  · exact (shl_bit ⟨i, hi⟩ ⟨j, h⟩).1
  · rw [tb_ge _ _ (by omega)]
    have : i ≠ j := by omega
    simp [this]
theorem and_range (a b : Int) : 0 ≤ Go.bits .and .u8 a b ∧ Go.bits .and .u8 a b < 256 := by
  rw [and_V]; have := (V a &&& V b).isLt; omega
theorem or_range (a b : Int) : 0 ≤ Go.bits .or .u8 a b ∧ Go.bits .or .u8 a b < 256 := by
  rw [or_V]; have := (V a ||| V b).isLt; omega
theorem down_l0 (up : List Int) (hb : ∀ x ∈ up, 0 ≤ x ∧ x < 256) (hn : up.length ≤ 8) (a : Nat) (ha : a ≤ 1000) : ∀ (m i : Nat) (acc : Int), i + m = up.length → 0 ≤ acc → acc < 256 → (∀ j, tb acc j = (decide (j < i) && Lv up j a)) →
    ∃ d, lattice_Lat_down.l0 (m + 1) (a : Int) acc (up.length : Int) (i : Int) up = some d ∧ 0 ≤ d ∧ d < 256 ∧ ∀ j, tb d j = (decide (j < up.length) && Lv up j a) := by
  intro m
  induction m with
  | zero =>
    intro i acc hi h0 h1 hacc
    have e1 : ¬ (i : Int) < (up.length : Int) := by omega
    have e2 : i = up.length := by omega
    subst e2
    exact ⟨acc, by rw [lattice_Lat_down.l0, if_neg e1], h0, h1, hacc⟩
  | succ m ih =>
    intro i acc hi h0 h1 hacc
    have e1 : (i : Int) < (up.length : Int) := by omega
    have e3 : (0 : Int) ≤ (i : Int) := by omega
    rw [lattice_Lat_down.l0, if_pos e1, leq_f up hb i a (by omega) (by omega), Option.bind_some, u64_nat i (by omega), wrap_nat ((i : Int) + 1) (i + 1) (by omega) (by omega)]
    cases hL : Lv up i a with
    | true =>
      rw [if_pos rfl, if_pos e3]
      refine ih (i + 1) _ (by omega) (or_range _ _).1 (or_range _ _).2 (fun j => ?_)
      rw [tb_or, hacc, shl_tb i j (by omega)]
      by_cases hj : j = i
      · subst hj; simp [hL]
      · have h2 : (i == j) = false := by simp; omega
        have h3 : decide (j < i + 1) = decide (j < i) := decide_eq_decide.2 (by omega)
        rw [h2, h3, Bool.or_false]
    | false =>
      rw [if_neg (by simp)]
      refine ih (i + 1) _ (by omega) h0 h1 (fun j => ?_)
      rw [hacc]
      by_cases hj : j = i
      · subst hj; simp [hL]
      · have h3 : decide (j < i + 1) = decide (j < i) := decide_eq_decide.2 (by omega)
        rw [h3]
theorem tb_zero (j : Nat) : tb 0 j = false := by unfold tb V; simp
theorem down_f (k : Nat) (hk : 20 ≤ k) (up : List Int) (hb : ∀ x ∈ up, 0 ≤ x ∧ x < 256) (hn : up.length ≤ 8) (a : Nat) (ha : a ≤ 1000) :
    ∃ d, lattice_Lat_down.f k up (a : Int) = some d ∧ 0 ≤ d ∧ d < 256 ∧ ∀ j, tb d j = (decide (j < up.length) && Lv up j a) := by
  obtain ⟨d, h, h2⟩ := down_l0 up hb hn a ha up.length 0 0 (by omega) (by omega) (by omega) (fun j => by rw [tb_zero]; simp)
  refine ⟨d, lift_ (fun j => lattice_Lat_down.mono up (a : Int) j) (k := up.length + 1) ?_ (by omega), h2⟩
  rw [lattice_Lat_down.f]
  exact h
def LeastP (up : List Int) (S : Int) (a : Nat) : Prop := tb S a = true ∧ ∀ j, tb S j = true → Lv up a j = true
def First (n : Nat) (P : Nat → Prop) (r : Int) : Prop := (∃ a, a < n ∧ r = (a : Int) ∧ P a ∧ ∀ b, b < a → ¬ P b) ∨ (r = -1 ∧ ∀ b, b < n → ¬ P b)
theorem least_l0 (up : List Int) (hb : ∀ x ∈ up, 0 ≤ x ∧ x < 256) (hn : up.length ≤ 8) (S : Int) (s0 : 0 ≤ S) (s1 : S < 256) : ∀ (m i : Nat), i + m = up.length → (∀ b, b < i → ¬ LeastP up S b) →
    ∃ r, lattice_Lat_least.l0 (m + 1) S (up.length : Int) (i : Int) up = some r ∧ First up.length (LeastP up S) r := by
  intro m
  induction m with
  | zero =>
    intro i hi hP
    have e1 : ¬ (i : Int) < (up.length : Int) := by omega
    exact ⟨-1, by rw [lattice_Lat_least.l0, if_neg e1], Or.inr ⟨rfl, fun b hb => hP b (by omega)⟩⟩
  | succ m ih =>
    intro i hi hP
    have e1 : (i : Int) < (up.length : Int) := by omega
    have e3 : (0 : Int) ≤ (i : Int) := by omega
    have e4 : (Go.bits .and .u8 (shr .u8 S (i : Int)) 1 = 1) ↔ tb S i = true := by rw [← shr_and1 S s0 s1 i, beq_iff_eq]
    have e5 := andNot_zero S (rd up (i : Int))
    have go : ¬ LeastP up S i → ∃ r, lattice_Lat_least.l0 (m + 1) S (up.length : Int) ((i + 1 : Nat) : Int) up = some r ∧ First up.length (LeastP up S) r := fun hnp => ih (i + 1) (by omega) (fun b hb2 => by
      by_cases h : b = i
      · subst h; exact hnp
      · exact hP b (by omega))
    rw [lattice_Lat_least.l0, if_pos e1, u64_nat i (by omega), if_pos e3, wrap_nat ((i : Int) + 1) (i + 1) (by omega) (by omega)]
    by_cases h1 : tb S i = true
    · rw [if_pos (e4.2 h1), if_pos e3, if_pos e1]
      by_cases h2 : Go.bits .andNot .u8 S (rd up (i : Int)) = 0
      · rw [if_pos h2]
        exact ⟨_, rfl, Or.inl ⟨i, by omega, rfl, ⟨h1, e5.1 h2⟩, hP⟩⟩
      · rw [if_neg h2]
        exact go (fun hp => h2 (e5.2 hp.2))
    · rw [if_neg (fun h => h1 (e4.1 h))]
      exact go (fun hp => h1 hp.1)
theorem least_f (k : Nat) (hk : 20 ≤ k) (up : List Int) (hb : ∀ x ∈ up, 0 ≤ x ∧ x < 256) (hn : up.length ≤ 8) (S : Int) (s0 : 0 ≤ S) (s1 : S < 256) : ∃ r, lattice_Lat_least.f k up S = some r ∧ First up.length (LeastP up S) r := by
  obtain ⟨r, h, h2⟩ := least_l0 up hb hn S s0 s1 up.length 0 (by omega) (fun b hb => by omega)
  refine ⟨r, lift_ (fun j => lattice_Lat_least.mono up S j) (k := up.length + 1) ?_ (by omega), h2⟩
  rw [lattice_Lat_least.f]
  exact h
def GreatP (up : List Int) (S : Int) (a : Nat) : Prop := tb S a = true ∧ ∀ j, tb S j = true → j < up.length ∧ Lv up j a = true
theorem great_l0 (up : List Int) (hb : ∀ x ∈ up, 0 ≤ x ∧ x < 256) (hn : up.length ≤ 8) (S : Int) (s0 : 0 ≤ S) (s1 : S < 256) (K : Nat) (hK : 20 ≤ K) : ∀ (m i : Nat), i + m = up.length → (∀ b, b < i → ¬ GreatP up S b) →
    ∃ r, lattice_Lat_greatest.l0 (m + K + 1) S (up.length : Int) (i : Int) up = some r ∧ First up.length (GreatP up S) r := by
  intro m
  induction m with
  | zero =>
    intro i hi hP
    have e1 : ¬ (i : Int) < (up.length : Int) := by omega
    exact ⟨-1, by rw [lattice_Lat_greatest.l0, if_neg e1], Or.inr ⟨rfl, fun b hb => hP b (by omega)⟩⟩
  | succ m ih =>
    intro i hi hP
    have e1 : (i : Int) < (up.length : Int) := by omega
    have e3 : (0 : Int) ≤ (i : Int) := by omega
    have e4 : (Go.bits .and .u8 (shr .u8 S (i : Int)) 1 = 1) ↔ tb S i = true := by rw [← shr_and1 S s0 s1 i, beq_iff_eq]
    obtain ⟨d, hd, d0, d1, hd2⟩ := down_f (m + K + 1) (by omega) up hb hn i (by omega)
    have e5 := andNot_zero S d
    have e6 : (∀ j, tb S j = true → tb d j = true) ↔ ∀ j, tb S j = true → j < up.length ∧ Lv up j i = true := by
      constructor
      · intro h j hj
        have := h j hj
        rw [hd2] at this
        simpa using this
      · intro h j hj
        rw [hd2]
        simpa using h j hj
    have go : ¬ GreatP up S i → ∃ r, lattice_Lat_greatest.l0 (m + K + 1) S (up.length : Int) ((i + 1 : Nat) : Int) up = some r ∧ First up.length (GreatP up S) r := fun hnp => ih (i + 1) (by omega) (fun b hb2 => by
      by_cases h : b = i
      · subst h; exact hnp
      · exact hP b (by omega))
    rw [show m + 1 + K + 1 = m + K + 1 + 1 by omega, lattice_Lat_greatest.l0, if_pos e1, u64_nat i (by omega), if_pos e3, wrap_nat ((i : Int) + 1) (i + 1) (by omega) (by omega)]
    by_cases h1 : tb S i = true
    · rw [if_pos (e4.2 h1), hd, Option.bind_some]
      by_cases h2 : Go.bits .andNot .u8 S d = 0
      · rw [if_pos h2]
        exact ⟨_, rfl, Or.inl ⟨i, by omega, rfl, ⟨h1, e6.1 (e5.1 h2)⟩, hP⟩⟩
      · rw [if_neg h2]
        exact go (fun hp => h2 (e5.2 (e6.2 hp.2)))
    · rw [if_neg (fun h => h1 (e4.1 h))]
      exact go (fun hp => h1 hp.1)
theorem great_f (k : Nat) (hk : 40 ≤ k) (up : List Int) (hb : ∀ x ∈ up, 0 ≤ x ∧ x < 256) (hn : up.length ≤ 8) (S : Int) (s0 : 0 ≤ S) (s1 : S < 256) : ∃ r, lattice_Lat_greatest.f k up S = some r ∧ First up.length (GreatP up S) r := by
  obtain ⟨r, h, h2⟩ := great_l0 up hb hn S s0 s1 20 (by omega) up.length 0 (by omega) (fun b hb => by omega)
  refine ⟨r, lift_ (fun j => lattice_Lat_greatest.mono up S j) (k := up.length + 20 + 1) ?_ (by omega), h2⟩
  rw [lattice_Lat_greatest.f]
  exact h

theorem all_bit : ∀ n : Fin 9, ∀ j : Fin 9, tb ((shl .u8 1 ((n.val : Nat) : Int) - 1) % 256) j.val = decide (j.val < n.val) := by decide +kernel
theorem all_tb (n j : Nat) (hn : n ≤ 8) : tb ((shl .u8 1 (n : Int) - 1) % 256) j = decide (j < n) := by
  rcases Nat.lt_or_ge j 9 with h | h
  · exact all_bit ⟨n, by omega⟩ ⟨j, h⟩
  · rw [tb_ge _ _ (by omega)]
    exact (decide_eq_false (by omega)).symm
def Ok (up : List Int) (a c : Nat) : Prop := c ≠ a → Lv up a c = true → ¬ (Lv up c a = true) ∧ ∀ j, Lv up c j = true → Lv up a j = true
def Good (up : List Int) (a : Nat) : Prop := (∀ j, Lv up a j = true → j < up.length) ∧ Lv up a a = true ∧ ∀ c, c < up.length → Ok up a c
theorem ord_l1 (up : List Int) (hb : ∀ x ∈ up, 0 ≤ x ∧ x < 256) (hn : up.length ≤ 8) (al : Int) (i : Nat) (hi : i < up.length) (K : Nat) (o : Bool) (ho : lattice_Lat_ordered.l0 K al up (up.length : Int) ((i + 1 : Nat) : Int) up = some o) :
    ∀ (m b : Nat), b + m = up.length → ∃ q, lattice_Lat_ordered.l1 (m + K + 1) al (i : Int) (rd up (i : Int)) up (up.length : Int) (i : Int) (up.length : Int) (b : Int) up = some q ∧ (q = true ↔ (∀ c, b ≤ c → c < up.length → Ok up i c) ∧ o = true) := by
  intro m
  induction m with
  | zero =>
    intro b hbm
    have e1 : ¬ (b : Int) < (up.length : Int) := by omega
    have hK : lattice_Lat_ordered.l0 (0 + K) al up (up.length : Int) (wrap64 ((i : Int) + 1)) up = some o := by
      rw [Nat.zero_add, wrap_nat ((i : Int) + 1) (i + 1) (by omega) (by omega)]; exact ho
    refine ⟨o, by rw [lattice_Lat_ordered.l1, if_neg e1]; exact hK, ?_⟩
    constructor
    · intro h; exact ⟨fun c h1 h2 => by omega, h⟩
    · intro h; exact h.2
  | succ m ih =>
    intro b hbm
    have e1 : (b : Int) < (up.length : Int) := by omega
    have e3 : (0 : Int) ≤ (b : Int) := by omega
    obtain ⟨q, hq, hq2⟩ := ih (b + 1) (by omega)
    have split_ : Ok up i b → ((q = true) ↔ (∀ c, b ≤ c → c < up.length → Ok up i c) ∧ o = true) := fun hok => by
      rw [hq2]
      constructor
      · rintro ⟨h1, h2⟩
        refine ⟨fun c hc hc2 => ?_, h2⟩
        by_cases h : c = b
        · subst h; exact hok
        · exact h1 c (by omega) hc2
      · rintro ⟨h1, h2⟩
        exact ⟨fun c hc hc2 => h1 c (by omega) hc2, h2⟩
    have no_ : ¬ Ok up i b → ((false = true) ↔ (∀ c, b ≤ c → c < up.length → Ok up i c) ∧ o = true) := fun hok => by
      constructor
      · intro h; cases h
      · rintro ⟨h1, _⟩
        exact absurd (h1 b (Nat.le_refl _) (by omega)) hok
    have e5 := andNot_zero (rd up (b : Int)) (rd up (i : Int))
    rw [show m + 1 + K + 1 = m + K + 1 + 1 by omega, lattice_Lat_ordered.l1, if_pos e1, wrap_nat ((b : Int) + 1) (b + 1) (by omega) (by omega), leq_f up hb i b hi (by omega), leq_f up hb b i (by omega) (by omega)]
    by_cases h1 : i = b
    · subst h1
      rw [if_pos rfl]
      exact ⟨q, hq, split_ (fun h => absurd rfl h)⟩
    · rw [if_neg (by omega), Option.bind_some]
      cases h2 : Lv up i b with
      | false =>
        rw [if_neg (by simp)]
        exact ⟨q, hq, split_ (fun _ h => by rw [h2] at h; cases h)⟩
      | true =>
        rw [if_pos rfl, Option.bind_some]
        cases h3 : Lv up b i with
        | true =>
          rw [if_pos rfl]
          exact ⟨false, rfl, no_ (fun hok => (hok (fun h => h1 h.symm) h2).1 h3)⟩
        | false =>
          rw [if_neg (by simp), if_pos e3, if_pos e1]
          by_cases h4 : Go.bits .andNot .u8 (rd up (b : Int)) (rd up (i : Int)) = 0
          · rw [if_pos h4]
            exact ⟨q, hq, split_ (fun _ _ => ⟨by rw [h3]; simp, e5.1 h4⟩)⟩
          · rw [if_neg h4]
            exact ⟨false, rfl, no_ (fun hok => h4 (e5.2 (hok (fun h => h1 h.symm) h2).2))⟩
theorem ord_l0 (up : List Int) (hb : ∀ x ∈ up, 0 ≤ x ∧ x < 256) (hn : up.length ≤ 8) (al : Int) (hal : ∀ j, tb al j = decide (j < up.length)) : ∀ (r i : Nat), i + r = up.length →
    ∃ o, lattice_Lat_ordered.l0 (r * (up.length + 3) + 1) al up (up.length : Int) (i : Int) up = some o ∧ (o = true ↔ ∀ a, i ≤ a → a < up.length → Good up a) := by
  intro r
  induction r with
  | zero =>
    intro i hi
    have e1 : ¬ (i : Int) < (up.length : Int) := by omega
    refine ⟨true, by rw [lattice_Lat_ordered.l0, if_neg e1], ?_⟩
    constructor
    · intro _ a h1 h2; omega
    · intro _; rfl
  | succ r ih =>
    intro i hi
    have e1 : (i : Int) < (up.length : Int) := by omega
    have e3 : (0 : Int) ≤ (i : Int) := by omega
    obtain ⟨o, ho, ho2⟩ := ih (i + 1) (by omega)
    obtain ⟨q, hq, hq2⟩ := ord_l1 up hb hn al i (by omega) _ o ho up.length 0 (by omega)
    have e5 := andNot_zero (rd up (i : Int)) al
    have e6 : (∀ j, tb (rd up (i : Int)) j = true → tb al j = true) ↔ ∀ j, Lv up i j = true → j < up.length := by
      constructor
      · intro h j hj
        have := h j hj
        rw [hal] at this
        simpa using this
      · intro h j hj
        rw [hal]
        simpa using h j hj
    have no_ : ¬ Good up i → ((false = true) ↔ ∀ a, i ≤ a → a < up.length → Good up a) := fun hg => by
      constructor
      · intro h; cases h
      · intro h; exact absurd (h i (Nat.le_refl _) (by omega)) hg
    have hf : (r + 1) * (up.length + 3) + 1 = (up.length + (r * (up.length + 3) + 1) + 1) + 1 + 1 := by rw [Nat.succ_mul]; omega
    rw [hf, lattice_Lat_ordered.l0, if_pos e1, if_pos e3, if_pos e1, leq_f up hb i i (by omega) (by omega), Option.bind_some]
    by_cases h1 : Go.bits .andNot .u8 (rd up (i : Int)) al = 0
    · rw [if_pos h1, lattice_Lat_ordered.j1]
      cases h2 : Lv up i i with
      | false =>
        rw [if_pos (by simp)]
        exact ⟨false, rfl, no_ (fun hg => by have := hg.2.1; rw [h2] at this; cases this)⟩
      | true =>
        rw [if_neg (by simp)]
        refine ⟨q, hq, ?_⟩
        rw [hq2, ho2]
        constructor
        · rintro ⟨h3, h4⟩ a ha ha2
          by_cases h : a = i
          · subst h
            exact ⟨e6.1 (e5.1 h1), h2, fun c hc => h3 c (by omega) hc⟩
          · exact h4 a (by omega) ha2
        · intro h
          exact ⟨fun c _ hc => (h i (Nat.le_refl _) (by omega)).2.2 c hc, fun a ha ha2 => h a (by omega) ha2⟩
    · rw [if_neg h1, lattice_Lat_ordered.j1, if_pos rfl]
      exact ⟨false, rfl, no_ (fun hg => h1 (e5.2 (e6.2 hg.1)))⟩
theorem ordered_f (k : Nat) (hk : 100 ≤ k) (up : List Int) (hb : ∀ x ∈ up, 0 ≤ x ∧ x < 256) (hn : up.length ≤ 8) : ∃ o, lattice_Lat_ordered.f k up = some o ∧ (o = true ↔ ∀ a, a < up.length → Good up a) := by
  obtain ⟨o, h, h2⟩ := ord_l0 up hb hn _ (fun j => all_tb up.length j hn) up.length 0 (by omega)
  have hle : up.length * (up.length + 3) + 1 ≤ 100 := by
    have : up.length * (up.length + 3) ≤ 8 * 11 := Nat.mul_le_mul hn (by omega)
    omega
  refine ⟨o, lift_ (fun j => lattice_Lat_ordered.mono up j) (k := up.length * (up.length + 3) + 1) ?_ (by omega), ?_⟩
  · have e3 : (0 : Int) ≤ (up.length : Int) := by omega
    rw [lattice_Lat_ordered.f, u64_nat up.length (by omega), if_pos e3]
    exact h
  · rw [h2]
    exact ⟨fun h a ha => h a (by omega) ha, fun h a _ ha => h a ha⟩

def JoinP (up : List Int) (a b c : Nat) : Prop := Lv up a c = true ∧ Lv up b c = true ∧ ∀ j, Lv up a j = true → Lv up b j = true → Lv up c j = true
def MeetP (up : List Int) (a b c : Nat) : Prop := Lv up c a = true ∧ Lv up c b = true ∧ ∀ j, j < up.length → Lv up j a = true → Lv up j b = true → Lv up j c = true
theorem First.congr {n : Nat} {P Q : Nat → Prop} {r : Int} (h : First n P r) (hpq : ∀ a, a < n → (P a ↔ Q a)) : First n Q r := by
  rcases h with ⟨a, h1, h2, h3, h4⟩ | ⟨h1, h2⟩
  · exact Or.inl ⟨a, h1, h2, (hpq a h1).1 h3, fun b hb hq => h4 b hb ((hpq b (by omega)).2 hq)⟩
  · exact Or.inr ⟨h1, fun b hb hq => h2 b hb ((hpq b hb).2 hq)⟩
theorem First.neg {n : Nat} {P : Nat → Prop} {r : Int} (h : First n P r) : r < 0 ↔ ¬ ∃ a, a < n ∧ P a := by
  rcases h with ⟨a, h1, h2, h3, h4⟩ | ⟨h1, h2⟩
  · constructor
    · intro h; omega
    · intro h; exact absurd ⟨a, h1, h3⟩ h
  · constructor
    · rintro _ ⟨a, ha, hp⟩; exact h2 a ha hp
    · intro _; omega
theorem join_f (k : Nat) (hk : 20 ≤ k) (up : List Int) (hb : ∀ x ∈ up, 0 ≤ x ∧ x < 256) (hn : up.length ≤ 8) (a b : Nat) : ∃ r, lattice_Lat_least.f k up (Go.bits .and .u8 (rd up (a : Int)) (rd up (b : Int))) = some r ∧ First up.length (JoinP up a b) r := by
  obtain ⟨r, h1, h2⟩ := least_f k hk up hb hn _ (and_range (rd up (a : Int)) (rd up (b : Int))).1 (and_range _ _).2
  refine ⟨r, h1, h2.congr (fun c _ => ?_)⟩
  unfold LeastP JoinP
  simp only [tb_and, Bool.and_eq_true, and_assoc]
  exact ⟨fun h => ⟨h.1, h.2.1, fun j h3 h4 => h.2.2 j ⟨h3, h4⟩⟩, fun h => ⟨h.1, h.2.1, fun j h3 => h.2.2 j h3.1 h3.2⟩⟩
theorem meet_f (k : Nat) (hk : 40 ≤ k) (up : List Int) (hb : ∀ x ∈ up, 0 ≤ x ∧ x < 256) (hn : up.length ≤ 8) (a b : Nat) (ha : a ≤ 1000) (hb2 : b ≤ 1000) : ∃ d1 d2 r, lattice_Lat_down.f k up (a : Int) = some d1 ∧ lattice_Lat_down.f k up (b : Int) = some d2 ∧ lattice_Lat_greatest.f k up (Go.bits .and .u8 d1 d2) = some r ∧ First up.length (MeetP up a b) r := by
  obtain ⟨d1, e1, _, _, e2⟩ := down_f k (by omega) up hb hn a ha
  obtain ⟨d2, e3, _, _, e4⟩ := down_f k (by omega) up hb hn b hb2
  obtain ⟨r, h1, h2⟩ := great_f k hk up hb hn _ (and_range d1 d2).1 (and_range d1 d2).2
  refine ⟨d1, d2, r, e1, e3, h1, h2.congr (fun c hc => ?_)⟩
  unfold GreatP MeetP
  simp only [tb_and, e2, e4, Bool.and_eq_true, decide_eq_true_eq]
  constructor
  · rintro ⟨⟨⟨_, h3⟩, _, h4⟩, h5⟩
    exact ⟨h3, h4, fun j hj h6 h7 => (h5 j ⟨⟨hj, h6⟩, hj, h7⟩).2⟩
  · rintro ⟨h3, h4, h5⟩
    exact ⟨⟨⟨hc, h3⟩, hc, h4⟩, fun j hj => ⟨hj.1.1, h5 j hj.1.1 hj.1.2 hj.2.2⟩⟩
def JM (up : List Int) (a b : Nat) : Prop := (∃ c, c < up.length ∧ JoinP up a b c) ∧ ∃ c, c < up.length ∧ MeetP up a b c
theorem check_l1 (up : List Int) (hb : ∀ x ∈ up, 0 ≤ x ∧ x < 256) (hn : up.length ≤ 8) (a : Nat) (ha : a < up.length) (K : Nat) (hK : 50 ≤ K) (o : Option Int) (ho : lattice_Check.l0 K (up.length : Int) ((a + 1 : Nat) : Int) up = some o) (ho7 : o = none ∨ o = some 7) :
    ∀ (m b : Nat), b + m = a → ∃ q, lattice_Check.l1 (m + K + 1) (a : Int) (up.length : Int) (a : Int) (a : Int) (b : Int) up = some q ∧ (q = none ∨ q = some 7) ∧ (q = none ↔ (∀ c, b ≤ c → c < a → JM up a c) ∧ o = none) := by
  intro m
  induction m with
  | zero =>
    intro b hbm
    have e1 : ¬ (b : Int) < (a : Int) := by omega
    refine ⟨o, ?_, ho7, ?_⟩
    · rw [lattice_Check.l1, if_neg e1, Nat.zero_add, wrap_nat ((a : Int) + 1) (a + 1) (by omega) (by omega)]; exact ho
    · exact ⟨fun h => ⟨fun c h1 h2 => by omega, h⟩, fun h => h.2⟩
  | succ m ih =>
    intro b hbm
    have e1 : (b : Int) < (a : Int) := by omega
    have e2 : (0 : Int) ≤ (a : Int) := by omega
    have e3 : (a : Int) < (up.length : Int) := by omega
    have e4 : (0 : Int) ≤ (b : Int) := by omega
    have e5 : (b : Int) < (up.length : Int) := by omega
    obtain ⟨q, hq, hq7, hq2⟩ := ih (b + 1) (by omega)
    obtain ⟨r1, j1, j2⟩ := join_f (m + K + 1) (by omega) up hb hn a b
    obtain ⟨d1, d2, r2, m1, m2, m3, m4⟩ := meet_f (m + K + 1) (by omega) up hb hn a b (by omega) (by omega)
    have no_ : ¬ JM up a b → ((some 7 : Option Int) = none ↔ (∀ c, b ≤ c → c < a → JM up a c) ∧ o = none) := fun h => by
      constructor
      · intro h2; cases h2
      · rintro ⟨h2, _⟩; exact absurd (h2 b (Nat.le_refl _) (by omega)) h
    rw [show m + 1 + K + 1 = m + K + 1 + 1 by omega, lattice_Check.l1, if_pos e1, if_pos e2, if_pos e3, if_pos e4, if_pos e5, j1, Option.bind_some, wrap_nat ((b : Int) + 1) (b + 1) (by omega) (by omega)]
    by_cases h1 : r1 < 0
    · rw [if_pos h1]
      exact ⟨_, rfl, Or.inr rfl, no_ (fun h => (j2.neg.1 h1) h.1)⟩
    · rw [if_neg h1, m1, Option.bind_some, m2, Option.bind_some, m3, Option.bind_some]
      by_cases h2 : r2 < 0
      · rw [if_pos h2]
        exact ⟨_, rfl, Or.inr rfl, no_ (fun h => (m4.neg.1 h2) h.2)⟩
      · rw [if_neg h2]
        refine ⟨q, hq, hq7, ?_⟩
        have hjm : JM up a b := ⟨Classical.not_not.1 (fun h => h1 (j2.neg.2 h)), Classical.not_not.1 (fun h => h2 (m4.neg.2 h))⟩
        rw [hq2]
        constructor
        · rintro ⟨h3, h4⟩
          refine ⟨fun c hc hc2 => ?_, h4⟩
          by_cases h : c = b
          · subst h; exact hjm
          · exact h3 c (by omega) hc2
        · rintro ⟨h3, h4⟩
          exact ⟨fun c hc hc2 => h3 c (by omega) hc2, h4⟩
theorem check_l0 (up : List Int) (hb : ∀ x ∈ up, 0 ≤ x ∧ x < 256) (hn : up.length ≤ 8) : ∀ (r i : Nat), i + r = up.length →
    ∃ o, lattice_Check.l0 (10 * r + 50) (up.length : Int) (i : Int) up = some o ∧ (o = none ∨ o = some 7) ∧ (o = none ↔ ∀ a, i ≤ a → a < up.length → ∀ c, c < a → JM up a c) := by
  intro r
  induction r with
  | zero =>
    intro i hi
    have e1 : ¬ (i : Int) < (up.length : Int) := by omega
    exact ⟨none, by rw [show 10 * 0 + 50 = 49 + 1 by omega, lattice_Check.l0, if_neg e1], Or.inl rfl, ⟨fun _ a h1 h2 => by omega, fun _ => rfl⟩⟩
  | succ r ih =>
    intro i hi
    have e1 : (i : Int) < (up.length : Int) := by omega
    obtain ⟨o, ho, ho7, ho2⟩ := ih (i + 1) (by omega)
    have ho3 := lift_ (f := fun j => lattice_Check.l0 j (up.length : Int) ((i + 1 : Nat) : Int) up) (k' := 10 * r + 58 - i) (fun j => (lattice_Check.mono_l j).2.1 _ _ _) ho (by omega)
    obtain ⟨q, hq, hq7, hq2⟩ := check_l1 up hb hn i (by omega) (10 * r + 58 - i) (by omega) o ho3 ho7 i 0 (by omega)
    have hf : i + (10 * r + 58 - i) + 1 = 10 * r + 59 := by omega
    rw [hf] at hq
    refine ⟨q, by rw [show 10 * (r + 1) + 50 = 10 * r + 59 + 1 by omega, lattice_Check.l0, if_pos e1]; exact hq, hq7, ?_⟩
    rw [hq2, ho2]
    constructor
    · rintro ⟨h1, h2⟩ a ha ha2 c hc
      by_cases h : a = i
      · subst h; exact h1 c (by omega) hc
      · exact h2 a (by omega) ha2 c hc
    · intro h
      exact ⟨fun c _ hc => h i (Nat.le_refl _) (by omega) c hc, fun a ha ha2 c hc => h a (by omega) ha2 c hc⟩
structure LatP (up : List Int) : Prop where
  n1 : 1 ≤ up.length
  n8 : up.length ≤ 8
  good : ∀ a, a < up.length → Good up a
  jm : ∀ a, a < up.length → ∀ c, c < a → JM up a c
theorem check_f (k : Nat) (hk : 300 ≤ k) (up : List Int) (hb : ∀ x ∈ up, 0 ≤ x ∧ x < 256) : ∃ o, lattice_Check.f k up = some o ∧ (o = none ∨ o = some 7) ∧ (o = none ↔ LatP up) := by
  obtain ⟨K, rfl⟩ : ∃ K, k = K + 1 := ⟨k - 1, by omega⟩
  rw [lattice_Check.f]
  by_cases h1 : up.length < 1
  · rw [if_pos (by omega), lattice_Check.j0, if_pos rfl]
    exact ⟨_, rfl, Or.inr rfl, ⟨fun h => (by cases h), fun h => by have := h.n1; omega⟩⟩
  · rw [if_neg (by omega)]
    by_cases h2 : up.length > 8
    · rw [if_pos (by omega), lattice_Check.j0, if_pos rfl]
      exact ⟨_, rfl, Or.inr rfl, ⟨fun h => (by cases h), fun h => by have := h.n8; omega⟩⟩
    · rw [if_neg (by omega)]
      obtain ⟨o, ho, ho2⟩ := ordered_f (K + 1) (by omega) up hb (by omega)
      rw [ho, Option.bind_some, lattice_Check.j0]
      cases o with
      | false =>
        rw [if_pos (by simp)]
        exact ⟨_, rfl, Or.inr rfl, ⟨fun h => (by cases h), fun h => by have := ho2.2 h.good; cases this⟩⟩
      | true =>
        rw [if_neg (by simp)]
        obtain ⟨q, hq, hq7, hq2⟩ := check_l0 up hb (by omega) up.length 0 (by omega)
        have hq3 := lift_ (f := fun j => lattice_Check.l0 j (up.length : Int) ((0 : Nat) : Int) up) (k' := K) (fun j => (lattice_Check.mono_l j).2.1 _ _ _) hq (by omega)
        refine ⟨q, hq3, hq7, ?_⟩
        rw [hq2]
        exact ⟨fun h => ⟨by omega, by omega, ho2.1 rfl, fun a ha => h a (by omega) ha⟩, fun h a _ ha => h.jm a ha⟩

theorem sure_0 : colloquylaw20_sure.f 300 = some true := by decide +kernel
theorem sure_g (k : Nat) (hk : 300 ≤ k) : colloquylaw20_sure.f k = some true := lift_ (fun j => colloquylaw20_sure.mono j) sure_0 hk

theorem has_f (up : List Int) (a : Int) : lattice_Lat_has.f up a = some (decide (0 ≤ a ∧ a < (up.length : Int))) := by
  rw [lattice_Lat_has.f]
  by_cases h : a ≥ 0
  · rw [if_pos h]
    congr 1
    exact decide_eq_decide.2 (by omega)
  · rw [if_neg h, decide_eq_false (by omega)]
theorem may_in (k : Nat) (hk : 300 ≤ k) (up : List Int) (hb : ∀ x ∈ up, 0 ≤ x ∧ x < 256) (hL : LatP up) (a b : Nat) (ha : a < up.length) (hb2 : b < up.length) : lattice_Lat_may.f k up (a : Int) (b : Int) = some true := by
  obtain ⟨o, ho, _, h2⟩ := check_f k hk up hb
  rw [h2.2 hL] at ho
  rw [lattice_Lat_may.f, has_f, decide_eq_true (by omega), Option.bind_some, if_pos rfl, has_f, decide_eq_true (by omega), Option.bind_some, if_pos rfl, ho]
  rfl
theorem may_out (k : Nat) (up : List Int) (a b : Int) (h : ¬ (0 ≤ a ∧ a < (up.length : Int)) ∨ ¬ (0 ≤ b ∧ b < (up.length : Int))) : lattice_Lat_may.f k up a b = some false := by
  rw [lattice_Lat_may.f, has_f, Option.bind_some]
  by_cases h1 : 0 ≤ a ∧ a < (up.length : Int)
  · rw [decide_eq_true h1, if_pos rfl, has_f, decide_eq_false (h.resolve_left (fun h2 => h2 h1)), Option.bind_some, if_neg (by simp)]
  · rw [decide_eq_false h1, if_neg (by simp)]
theorem Leq_in (k : Nat) (hk : 300 ≤ k) (up : List Int) (hb : ∀ x ∈ up, 0 ≤ x ∧ x < 256) (hL : LatP up) (a b : Nat) (ha : a < up.length) (hb2 : b < up.length) : lattice_Lat_Leq.f k up (a : Int) (b : Int) = some (Lv up a b) := by
  have h8 := hL.n8
  rw [lattice_Lat_Leq.f, may_in k hk up hb hL a b ha hb2, Option.bind_some, if_pos rfl, leq_f up hb a b ha (by omega)]
  rfl
theorem Leq_out (k : Nat) (up : List Int) (a b : Int) (h : ¬ (0 ≤ a ∧ a < (up.length : Int)) ∨ ¬ (0 ≤ b ∧ b < (up.length : Int))) : lattice_Lat_Leq.f k up a b = some false := by
  rw [lattice_Lat_Leq.f, may_out k up a b h, Option.bind_some, if_neg (by simp)]
theorem Lv_self {up : List Int} (hL : LatP up) {a : Nat} (ha : a < up.length) : Lv up a a = true := (hL.good a ha).2.1
theorem Lv_rng {up : List Int} (hL : LatP up) {a j : Nat} (ha : a < up.length) (h : Lv up a j = true) : j < up.length := (hL.good a ha).1 j h
theorem Lv_anti {up : List Int} (hL : LatP up) {a b : Nat} (ha : a < up.length) (hb : b < up.length) (h1 : Lv up a b = true) (h2 : Lv up b a = true) : a = b := by
  by_cases h : b = a
  · exact h.symm
  · exact absurd h2 ((hL.good a ha).2.2 b hb h h1).1
theorem Lv_trans {up : List Int} (hL : LatP up) {a b c : Nat} (ha : a < up.length) (h1 : Lv up a b = true) (h2 : Lv up b c = true) : Lv up a c = true := by
  by_cases h : b = a
  · subst h; exact h2
  · exact ((hL.good a ha).2.2 b (Lv_rng hL ha h1) h h1).2 c h2
theorem jm_all {up : List Int} (hL : LatP up) {a b : Nat} (ha : a < up.length) (hb : b < up.length) : JM up a b := by
  rcases Nat.lt_trichotomy a b with h | h | h
  · obtain ⟨⟨c, h1, h2, h3, h4⟩, d, h5, h6, h7, h8⟩ := hL.jm b hb a h
    exact ⟨⟨c, h1, h3, h2, fun j hj hj2 => h4 j hj2 hj⟩, d, h5, h7, h6, fun j hj hj2 hj3 => h8 j hj hj3 hj2⟩
  · subst h
    exact ⟨⟨a, ha, Lv_self hL ha, Lv_self hL ha, fun j hj _ => hj⟩, a, ha, Lv_self hL ha, Lv_self hL ha, fun j _ hj _ => hj⟩
  · exact hL.jm a ha b h
theorem Join_f (k : Nat) (hk : 300 ≤ k) (up : List Int) (hb : ∀ x ∈ up, 0 ≤ x ∧ x < 256) (hL : LatP up) (a b : Nat) (ha : a < up.length) (hb2 : b < up.length) : ∃ c : Nat, lattice_Lat_Join.f k up (a : Int) (b : Int) = some (c : Int) ∧ c < up.length ∧ JoinP up a b c := by
  obtain ⟨r, h1, h2⟩ := join_f k (by omega) up hb hL.n8 a b
  have e1 : (0 : Int) ≤ (a : Int) := by omega
  have e2 : (a : Int) < (up.length : Int) := by omega
  have e3 : (0 : Int) ≤ (b : Int) := by omega
  have e4 : (b : Int) < (up.length : Int) := by omega
  rcases h2 with ⟨c, h3, rfl, h4, _⟩ | ⟨_, h3⟩
  · refine ⟨c, ?_, h3, h4⟩
    rw [lattice_Lat_Join.f, may_in k hk up hb hL a b ha hb2, Option.bind_some, if_pos rfl, if_pos e1, if_pos e2, if_pos e3, if_pos e4, h1]
    rfl
  · obtain ⟨c, hc, hp⟩ := (jm_all hL ha hb2).1
    exact absurd hp (h3 c hc)

-- regions: what package mon computes (this repo's own)
def LE (up : List Int) (a b : Int) : Prop := ∃ x y : Nat, a = (x : Int) ∧ b = (y : Int) ∧ x < up.length ∧ y < up.length ∧ Lv up x y = true
theorem leq_dec (k : Nat) (hk : 300 ≤ k) (up : List Int) (hb : ∀ x ∈ up, 0 ≤ x ∧ x < 256) (hL : LatP up) (a b : Int) : ∃ o, lattice_Lat_Leq.f k up a b = some o ∧ (o = true ↔ LE up a b) := by
  by_cases h : (0 ≤ a ∧ a < (up.length : Int)) ∧ (0 ≤ b ∧ b < (up.length : Int))
  · obtain ⟨⟨a0, a1⟩, b0, b1⟩ := h
    obtain ⟨x, rfl⟩ : ∃ x : Nat, a = (x : Int) := ⟨a.toNat, by omega⟩
    obtain ⟨y, rfl⟩ : ∃ y : Nat, b = (y : Int) := ⟨b.toNat, by omega⟩
    refine ⟨_, Leq_in k hk up hb hL x y (by omega) (by omega), ?_⟩
    constructor
    · intro h; exact ⟨x, y, rfl, rfl, by omega, by omega, h⟩
    · rintro ⟨x', y', e1, e2, _, _, h⟩
      obtain rfl : x = x' := by omega
      obtain rfl : y = y' := by omega
      exact h
  · refine ⟨false, Leq_out k up a b (by omega), ?_⟩
    constructor
    · intro h; cases h
    · rintro ⟨x, y, rfl, rfl, h1, h2, _⟩
      exact absurd ⟨⟨by omega, by omega⟩, by omega, by omega⟩ h
theorem LE.refl {up : List Int} (hL : LatP up) {a : Int} (h0 : 0 ≤ a) (h1 : a < (up.length : Int)) : LE up a a := ⟨a.toNat, a.toNat, by omega, by omega, by omega, by omega, Lv_self hL (by omega)⟩
theorem LE.trans {up : List Int} (hL : LatP up) {a b c : Int} (h1 : LE up a b) (h2 : LE up b c) : LE up a c := by
  obtain ⟨x, y, rfl, rfl, hx, hy, h⟩ := h1
  obtain ⟨y', z, e, rfl, hy', hz, h'⟩ := h2
  obtain rfl : y = y' := by omega
  exact ⟨x, z, rfl, rfl, hx, hz, Lv_trans hL hx h h'⟩
theorem LE.left {up : List Int} (hL : LatP up) {a b : Int} (h : LE up a b) : LE up a a := by
  obtain ⟨x, y, rfl, rfl, hx, hy, h⟩ := h
  exact ⟨x, x, rfl, rfl, hx, hx, Lv_self hL hx⟩
theorem LE.right {up : List Int} (hL : LatP up) {a b : Int} (h : LE up a b) : LE up b b := by
  obtain ⟨x, y, rfl, rfl, hx, hy, h⟩ := h
  exact ⟨y, y, rfl, rfl, hy, hy, Lv_self hL hy⟩
theorem rdT (l : List S58) (i : Nat) (h : i < l.length) : rd_T58 l (i : Int) = l[i] := by simp [rd_T58, h]
theorem rdT_take (l : List S58) (m i : Nat) (h : i < m) (hm : m ≤ l.length) : rd_T58 (l.take m) (i : Int) = rd_T58 l (i : Int) := by
  rw [rdT _ i (by rw [List.length_take]; omega), rdT l i (by omega), List.getElem_take]
def pcAt (e : Int) (over : List S58) (i : Nat) : Int := if i = 0 then e else (rd_T58 over ((i - 1 : Nat) : Int)).f1
def pcOf (e : Int) (over : List S58) : Int := pcAt e over over.length
theorem pcAt_succ (e : Int) (over : List S58) (i : Nat) : pcAt e over (i + 1) = (rd_T58 over (i : Int)).f1 := by
  unfold pcAt; rw [if_neg (by omega)]; rfl
theorem pcAt_take (e : Int) (over : List S58) (m i : Nat) (hm : m ≤ over.length) (hi : i ≤ m) : pcAt e (over.take m) i = pcAt e over i := by
  unfold pcAt
  split
  · rfl
  · rw [rdT_take over m (i - 1) (by omega) hm]
theorem pcOf_take (e : Int) (over : List S58) (m : Nat) (hm : m ≤ over.length) : pcOf e (over.take m) = pcAt e over m := by
  unfold pcOf
  rw [List.length_take, Nat.min_eq_left hm, pcAt_take e over m m hm (Nat.le_refl _)]
theorem pc_f (e : Int) (over : List S58) (h : over.length ≤ 90000) : mon_Mon_Pc.f e over = some (pcOf e over) := by
  rw [mon_Mon_Pc.f]
  by_cases h0 : over.length = 0
  · rw [if_pos (by omega)]
    unfold pcOf pcAt
    rw [if_pos h0]
  · have w : wrap64 ((over.length : Int) - 1) = ((over.length - 1 : Nat) : Int) := by rw [wrap_in (by omega) (by omega)]; omega
    rw [if_neg (by omega), w, if_pos (by omega), if_pos (by omega)]
    unfold pcOf pcAt
    rw [if_neg h0]
def Cond (up : List Int) (e : Int) (over : List S58) (i : Nat) : Prop :=
  0 ≤ (rd_T58 over (i : Int)).f0 ∧ (rd_T58 over (i : Int)).f0 < 512 ∧ 0 ≤ (rd_T58 over (i : Int)).f2 ∧ (rd_T58 over (i : Int)).f2 ≤ 32 ∧ (rd_T58 over (i : Int)).f1 ≠ pcAt e over i ∧ LE up (pcAt e over i) (rd_T58 over (i : Int)).f1
theorem Cond.take {up : List Int} {e : Int} {over : List S58} {m i : Nat} (hm : m ≤ over.length) (hi : i < m) (h : Cond up e over i) : Cond up e (over.take m) i := by
  unfold Cond at *
  rw [rdT_take over m i hi hm, pcAt_take e over m i hm (by omega)]
  exact h
theorem region_may (k : Nat) (hk : 300 ≤ k) (up : List Int) (hb : ∀ x ∈ up, 0 ≤ x ∧ x < 256) (hL : LatP up) (a b c pc : Int) : ∃ o, mon_Region_may.f k a b c up pc = some o ∧ (o = true ↔ 0 ≤ a ∧ a < 512 ∧ 0 ≤ c ∧ c ≤ 32 ∧ b ≠ pc ∧ LE up pc b) := by
  rw [mon_Region_may.f]
  by_cases h1 : a ≥ 0
  · rw [if_pos h1]
    by_cases h2 : a < 512
    · rw [if_pos h2]
      by_cases h3 : c ≥ 0
      · rw [if_pos h3]
        by_cases h4 : c ≤ 32
        · rw [if_pos h4]
          by_cases h5 : b = pc
          · rw [if_pos h5]
            exact ⟨false, rfl, by simp [h5]⟩
          · obtain ⟨o, e1, e2⟩ := leq_dec k hk up hb hL pc b
            rw [if_neg h5, e1]
            exact ⟨o, rfl, by rw [e2]; exact ⟨fun h => ⟨h1, h2, h3, h4, h5, h⟩, fun h => h.2.2.2.2.2⟩⟩
        · rw [if_neg h4]; exact ⟨false, rfl, by simp; omega⟩
      · rw [if_neg h3]; exact ⟨false, rfl, by simp; omega⟩
    · rw [if_neg h2]; exact ⟨false, rfl, by simp; omega⟩
  · rw [if_neg h1]; exact ⟨false, rfl, by simp; omega⟩
theorem mcheck_l0 (up : List Int) (hb : ∀ x ∈ up, 0 ≤ x ∧ x < 256) (hL : LatP up) (e : Int) (over : List S58) (hn : over.length ≤ 90000) : ∀ (m i k : Nat), i + m = over.length → m + 301 ≤ k →
    ∃ o, mon_Check.l0 k (pcAt e over i) over (over.length : Int) (i : Int) up = some o ∧ (o = none ∨ o = some 1) ∧ (o = none ↔ ∀ j, i ≤ j → j < over.length → Cond up e over j) := by
  intro m
  induction m with
  | zero =>
    intro i k hi hk
    obtain ⟨k, rfl⟩ : ∃ q, k = q + 1 := ⟨k - 1, by omega⟩
    rw [mon_Check.l0, if_neg (by omega)]
    exact ⟨none, rfl, Or.inl rfl, ⟨(fun _ j h1 h2 => absurd h1 (by omega)), fun _ => rfl⟩⟩
  | succ m ih =>
    intro i k hi hk
    obtain ⟨k, rfl⟩ : ∃ q, k = q + 1 := ⟨k - 1, by omega⟩
    obtain ⟨o, e1, e2⟩ := region_may k (by omega) up hb hL (rd_T58 over (i : Int)).f0 (rd_T58 over (i : Int)).f1 (rd_T58 over (i : Int)).f2 (pcAt e over i)
    rw [mon_Check.l0, if_pos (by omega), if_pos (by omega), if_pos (by omega), e1, Option.bind_some]
    cases o with
    | false =>
      rw [if_neg (by simp)]
      refine ⟨_, rfl, Or.inr rfl, ⟨(fun h => by cases h), fun h => ?_⟩⟩
      have h2 := h i (Nat.le_refl _) (by omega)
      unfold Cond at h2
      have h3 := e2.2 h2
      cases h3
    | true =>
      have w : wrap64 ((i : Int) + 1) = ((i + 1 : Nat) : Int) := wrap_nat _ _ (by omega) (by omega)
      obtain ⟨o, f1, f2, f3⟩ := ih (i + 1) k (by omega) (by omega)
      rw [if_pos rfl, w, ← pcAt_succ e over i]
      refine ⟨o, f1, f2, f3.trans ⟨fun h j h1 h2 => ?_, fun h j h1 h2 => h j (by omega) h2⟩⟩
      by_cases hj : j = i
      · subst hj; exact e2.1 rfl
      · exact h j (by omega) h2
structure MonP (up : List Int) (e : Int) (over : List S58) : Prop where
  lat : LatP up
  entry : LE up e e
  cond : ∀ j, j < over.length → Cond up e over j
theorem mon_check (k : Nat) (up : List Int) (hb : ∀ x ∈ up, 0 ≤ x ∧ x < 256) (e : Int) (over : List S58) (hn : over.length ≤ 90000) (hk : over.length + 301 ≤ k) : ∃ o, mon_Check.f k up e over = some o ∧ (o = none ↔ MonP up e over) ∧ (o = none ∨ o = some 7 ∨ o = some 1) ∧ (o = some 7 ↔ ¬ LatP up) := by
  obtain ⟨o1, c1, d1, d2⟩ := check_f k (by omega) up hb
  rw [mon_Check.f, c1, Option.bind_some]
  cases o1 with
  | some v =>
    obtain rfl : v = 7 := by
      rcases d1 with h | h
      · cases h
      · exact Option.some.inj h
    have hn2 : ¬ LatP up := fun h => by have := d2.2 h; cases this
    rw [if_neg (by simp)]
    exact ⟨some 7, rfl, ⟨(fun h => by cases h), fun h => absurd h.lat hn2⟩, Or.inr (Or.inl rfl), ⟨fun _ => hn2, fun _ => rfl⟩⟩
  | none =>
    have hL := d2.1 rfl
    rw [if_pos (show (none : Option Int).isNone = true from rfl)]
    obtain ⟨o, e1, e2⟩ := leq_dec k (by omega) up hb hL e e
    rw [e1, Option.bind_some]
    cases o with
    | false =>
      rw [if_neg (by simp)]
      refine ⟨some 1, rfl, ⟨(fun h => by cases h), fun h => ?_⟩, Or.inr (Or.inr rfl), ⟨(fun h => by cases h), fun h => absurd hL h⟩⟩
      have := e2.2 h.entry
      cases this
    | true =>
      obtain ⟨o, f1, f2, f3⟩ := mcheck_l0 up hb hL e over hn over.length 0 k (by omega) (by omega)
      rw [if_pos rfl]
      refine ⟨o, f1, f3.trans ⟨fun h => ⟨hL, e2.1 rfl, fun j hj => h j (by omega) hj⟩, fun h j _ hj => h.cond j hj⟩, ?_, ?_⟩
      · rcases f2 with h | h
        · exact Or.inl h
        · exact Or.inr (Or.inr h)
      · refine ⟨fun h => ?_, fun h => absurd hL h⟩
        rcases f2 with h2 | h2 <;> rw [h2] at h <;> cases h
theorem MonP.pc_le {up : List Int} {e : Int} {over : List S58} (h : MonP up e over) : ∀ (d i : Nat), i + d ≤ over.length → LE up (pcAt e over i) (pcAt e over (i + d)) := by
  have hr : ∀ i, i ≤ over.length → LE up (pcAt e over i) (pcAt e over i) := fun i hi => by
    cases i with
    | zero => exact h.entry
    | succ i => rw [pcAt_succ]; exact LE.right h.lat (h.cond i (by omega)).2.2.2.2.2
  intro d
  induction d with
  | zero => intro i hi; exact hr i hi
  | succ d ih =>
    intro i hi
    refine LE.trans h.lat (ih i (by omega)) ?_
    rw [← Nat.add_assoc, pcAt_succ]
    exact (h.cond (i + d) (by omega)).2.2.2.2.2
theorem MonP.take {up : List Int} {e : Int} {over : List S58} (h : MonP up e over) (m : Nat) (hm : m ≤ over.length) : MonP up e (over.take m) :=
  ⟨h.lat, h.entry, fun j hj => by
    rw [List.length_take] at hj
    exact Cond.take hm (by omega) (h.cond j (by omega))⟩
theorem clone_f (l : List S58) (h : l.length ≤ 90000) : mon_Region.f l = some l := by
  rw [mon_Region.f, Option.bind_some, if_pos (show ([] : List S58).length + l.length < 5864062014805 from (by simp only [List.length_nil]; omega)), List.nil_append]
def jn (over : List S58) (at_ : Int) : Nat → Nat
  | 0 => 0
  | m + 1 => if (rd_T58 over (m : Int)).f0 = at_ then jn over at_ m else m + 1
theorem jn_le (over : List S58) (at_ : Int) : ∀ m, jn over at_ m ≤ m
  | 0 => Nat.le_refl _
  | m + 1 => by
    unfold jn
    split
    · have := jn_le over at_ m; omega
    · exact Nat.le_refl _
theorem jn_ne (over : List S58) (at_ : Int) : ∀ m, jn over at_ m = 0 ∨ ∃ q, jn over at_ m = q + 1 ∧ (rd_T58 over (q : Int)).f0 ≠ at_
  | 0 => Or.inl rfl
  | m + 1 => by
    unfold jn
    split
    · exact jn_ne over at_ m
    · rename_i h; exact Or.inr ⟨m, rfl, h⟩
theorem jn_again (over : List S58) (at_ : Int) (m : Nat) (hm : m ≤ over.length) : jn (over.take (jn over at_ m)) at_ (jn over at_ m) = jn over at_ m := by
  have hle := jn_le over at_ m
  rcases jn_ne over at_ m with h | ⟨q, h, hq⟩
  · rw [h]; rfl
  · rw [h] at hle ⊢
    rw [jn, rdT_take over (q + 1) q (by omega) (by omega), if_neg hq]
theorem join_l0 (over : List S58) (hn : over.length ≤ 90000) (e at_ : Int) : ∀ (m k : Nat), m ≤ over.length → m < k → mon_Join.l0 k at_ (m : Int) e over = some (e, over.take (jn over at_ m)) := by
  intro m
  induction m with
  | zero =>
    intro k hm hk
    obtain ⟨k, rfl⟩ : ∃ q, k = q + 1 := ⟨k - 1, by omega⟩
    rw [mon_Join.l0, if_neg (by omega), if_pos (by omega), if_pos (by omega), Int.toNat_natCast, clone_f _ (by rw [List.length_take]; omega)]
    rfl
  | succ m ih =>
    intro k hm hk
    obtain ⟨k, rfl⟩ : ∃ q, k = q + 1 := ⟨k - 1, by omega⟩
    have w : wrap64 (((m + 1 : Nat) : Int) - 1) = (m : Int) := wrap_nat _ _ (by omega) (by omega)
    rw [mon_Join.l0, if_pos (by omega), w, if_pos (by omega), if_pos (by omega), jn]
    by_cases h : (rd_T58 over (m : Int)).f0 = at_
    · rw [if_pos h, if_pos h, ih k (by omega) (by omega)]
    · rw [if_neg h, if_neg h, if_pos (by omega), Int.toNat_natCast, clone_f _ (by rw [List.length_take]; omega)]
      rfl
theorem join_mon (k : Nat) (over : List S58) (hn : over.length ≤ 90000) (hk : over.length < k) (e at_ : Int) : mon_Join.f k e over at_ = some (e, over.take (jn over at_ over.length)) := by
  rw [mon_Join.f, join_l0 over hn e at_ over.length k (Nat.le_refl _) hk]
theorem take_f (e : Int) (over : List S58) (hn : over.length ≤ 90000) (left : Int) : mon_Take.f e over left = some (if 0 < over.length ∧ left < (rd_T58 over ((over.length - 1 : Nat) : Int)).f2 then some 11 else none) := by
  rw [mon_Take.f]
  by_cases h : 0 < over.length
  · have w : wrap64 ((over.length : Int) - 1) = ((over.length - 1 : Nat) : Int) := by rw [wrap_in (by omega) (by omega)]; omega
    rw [if_pos (by omega), w, if_pos (by omega), if_pos (by omega)]
    by_cases h2 : left < (rd_T58 over ((over.length - 1 : Nat) : Int)).f2
    · rw [if_pos h2, if_pos ⟨h, h2⟩]
    · rw [if_neg h2, if_neg (fun h3 => h2 h3.2)]
  · rw [if_neg (by omega), if_neg (fun h3 => h h3.1)]
def conv (x : S62) : S58 := ⟨x.f0, x.f1, x.f2⟩
theorem give_l0 (l : List S62) (hl : l.length < 5864062014805) (e e2 : Int) : ∀ (m i k : Nat), i + m = l.length → m < k → colloquylaw20_giveMon.l0 k (i : Int) e l e2 ((l.take i).map conv) = some (e2, l.map conv) := by
  intro m
  induction m with
  | zero =>
    intro i k hi hk
    obtain ⟨k, rfl⟩ : ∃ q, k = q + 1 := ⟨k - 1, by omega⟩
    rw [colloquylaw20_giveMon.l0, if_neg (by omega), List.take_of_length_le (by omega)]
  | succ m ih =>
    intro i k hi hk
    obtain ⟨k, rfl⟩ : ∃ q, k = q + 1 := ⟨k - 1, by omega⟩
    have w : wrap64 ((i : Int) + 1) = ((i + 1 : Nat) : Int) := by rw [wrap_in (by omega) (by omega)]; omega
    have hr : rd_T62 l (i : Int) = l[i]'(by omega) := by simp [rd_T62, show i < l.length by omega]
    rw [colloquylaw20_giveMon.l0, if_pos (by omega), if_pos (by omega), if_pos (by rw [List.length_map, List.length_take]; omega), w, hr]
    have h := ih (i + 1) k (by omega) (by omega)
    rw [List.take_succ_eq_append_getElem (by omega), List.map_append] at h
    exact h
theorem give_f (k : Nat) (l : List S62) (hl : l.length < 5864062014805) (hk : l.length < k) (e : Int) : colloquylaw20_giveMon.f k e l = some (e, l.map conv) := by
  have h := give_l0 l hl e e l.length 0 k (by omega) hk
  rw [colloquylaw20_giveMon.f]
  exact h

theorem else_raw (k : Nat) (hk : 500 ≤ k) (up : List Int) (hb : ∀ x ∈ up, 0 ≤ x ∧ x < 256) (hL : LatP up) (e : Int) (over : List S58) (hn : over.length ≤ 80000) (hpp : LE up (pcOf e over) (pcOf e over)) (a b c : Int) (hb0 : 0 ≤ b) (hb1 : b < (up.length : Int)) :
    ∃ over2, mon_Else.f k up e over a b c = some (e, over2) ∧ (over2 = over ∧ LE up b (pcOf e over) ∨ ¬ LE up b (pcOf e over) ∧ ∃ r : Int, over2 = over ++ [(⟨a, r, c⟩ : S58)] ∧ LE up (pcOf e over) r ∧ LE up b r) := by
  obtain ⟨o, h1, h2⟩ := leq_dec k (by omega) up hb hL b (pcOf e over)
  rw [mon_Else.f, clone_f over (by omega), Option.bind_some, pc_f e over (by omega), Option.bind_some, h1, Option.bind_some]
  cases o with
  | true => exact ⟨over, by rw [if_pos rfl], Or.inl ⟨rfl, h2.1 rfl⟩⟩
  | false =>
    have hno : ¬ LE up b (pcOf e over) := fun h => by have := h2.2 h; cases this
    obtain ⟨p, p', hp, hp', hpl, hpl', hpv⟩ := hpp
    obtain rfl : p = p' := by omega
    obtain ⟨q, rfl⟩ : ∃ q : Nat, b = (q : Int) := ⟨b.toNat, by omega⟩
    obtain ⟨r, j1, j2, j3, j4, j5⟩ := Join_f k (by omega) up hb hL p q hpl (by omega)
    refine ⟨over ++ [(⟨a, (r : Int), c⟩ : S58)], ?_, Or.inr ⟨hno, (r : Int), rfl, ⟨p, r, hp, rfl, hpl, j2, j3⟩, ⟨q, r, rfl, rfl, by omega, j2, j4⟩⟩⟩
    rw [hp, if_neg (by simp), Option.bind_some, j1, Option.bind_some, if_pos (by omega)]
theorem pcOf_snoc (e : Int) (over : List S58) (s : S58) : pcOf e (over ++ [s]) = s.f1 := by
  have h : (over ++ [s]).length = over.length + 1 := by simp
  unfold pcOf
  rw [h, pcAt_succ, rdT _ _ (by omega)]
  simp
theorem jn_pre (over was : List S58) (at_ : Int) (h : over.take was.length = was) (hl : was.length ≤ over.length) : ∀ i, i ≤ was.length → jn over at_ i = jn was at_ i
  | 0, _ => rfl
  | i + 1, hi => by
    have e : rd_T58 was (i : Int) = rd_T58 over (i : Int) := by
      have h2 := rdT_take over was.length i (by omega) hl
      rw [h] at h2
      exact h2
    unfold jn
    rw [e, jn_pre over was at_ h hl i (by omega)]
theorem jn_cut (over : List S58) (n : Nat) (at_ : Int) : ∀ m, n + 1 ≤ m → n + 1 ≤ jn over at_ m ∨ ((rd_T58 over (n : Int)).f0 = at_ ∧ jn over at_ m = jn over at_ n)
  | 0, h => by omega
  | m + 1, h => by
    have e : jn over at_ (m + 1) = if (rd_T58 over (m : Int)).f0 = at_ then jn over at_ m else m + 1 := rfl
    rw [e]
    by_cases g : (rd_T58 over (m : Int)).f0 = at_
    · rw [if_pos g]
      by_cases hm : n + 1 ≤ m
      · exact jn_cut over n at_ m hm
      · obtain rfl : n = m := by omega
        exact Or.inr ⟨g, rfl⟩
    · rw [if_neg g]
      exact Or.inl (by omega)
theorem inv_pc {up : List Int} (e : Int) (was : List S58) (s1 : S58) (rest : List S58) (h1 : LE up s1.f1 s1.f1) (hr : ∀ s ∈ rest, LE up s1.f1 s.f1) : LE up s1.f1 (pcOf e (was ++ s1 :: rest)) := by
  rcases List.eq_nil_or_concat rest with rfl | ⟨L, z, rfl⟩
  · rw [pcOf_snoc]; exact h1
  · have e1 : was ++ s1 :: (L.concat z) = (was ++ s1 :: L) ++ [z] := by simp
    rw [e1, pcOf_snoc]
    exact hr z (by simp)
theorem back_l1 (up : List Int) (e : Int) (was over : List S58) (acts : List S28) (low : Int) (i : Int) (f0 f1 f2 : Int) (f3 : List Int) (rest : List S58) (ho : over = was ++ rest) (hn : was.length ≤ 40) (K : Nat)
    (hbody : ∀ k, K ≤ k → colloquylaw20_MonBack.l1 (k + 1) up acts low i (was.length : Int) up e was f0 f1 f2 f3 e over = some true) : ∀ (d j k : Nat), j + d = was.length → K + d ≤ k → colloquylaw20_MonBack.l1 (k + 1) up acts low i (j : Int) up e was f0 f1 f2 f3 e over = some true := by
  intro d
  induction d with
  | zero =>
    intro j k h1 h2
    obtain rfl : j = was.length := by omega
    exact hbody k (by omega)
  | succ d ih =>
    intro j k h1 h2
    obtain ⟨k, rfl⟩ : ∃ q, k = q + 1 := ⟨k - 1, by omega⟩
    have hl : over.length = was.length + rest.length := by rw [ho, List.length_append]
    have e1 : rd_T58 over (j : Int) = rd_T58 was (j : Int) := by
      rw [rdT over j (by omega), rdT was j (by omega)]
      subst ho
      exact List.getElem_append_left (by omega)
    have w : wrap64 ((j : Int) + 1) = ((j + 1 : Nat) : Int) := wrap_nat _ _ (by omega) (by omega)
    rw [colloquylaw20_MonBack.l1, if_pos (by omega), if_neg (by omega), if_pos (by omega), if_pos (by omega), e1, w]
    simp only [beq_self_eq_true, Bool.not_true, Bool.or_self, Bool.false_eq_true, if_false]
    exact ih (j + 1) k (by omega) (by omega)
theorem back_l0 (up : List Int) (hb : ∀ x ∈ up, 0 ≤ x ∧ x < 256) (hL : LatP up) (e : Int) (was : List S58) (hn : was.length ≤ 40) (hM : MonP up e was) (acts : List S28) (low : Int) (hlow : LE up (pcOf e was) low) (s1 : S58) (h11 : LE up s1.f1 s1.f1) (hno : ¬ LE up s1.f1 low) (f1 f2 : Int) (f3 : List Int) :
    ∀ (n i k : Nat) (rest : List S58), i + n = 40 → 1 ≤ i → rest.length + 1 ≤ i → n * 60 + 1000 ≤ k → (∀ s ∈ rest, LE up s1.f1 s.f1) →
      colloquylaw20_MonBack.l0 k up acts low (i : Int) up e was s1.f0 f1 f2 f3 e (was ++ s1 :: rest) = some true := by
  intro n
  induction n with
  | zero =>
    intro i k rest h1 h2 h3 h4 h5
    obtain ⟨k, rfl⟩ : ∃ q, k = q + 1 + 1 := ⟨k - 2, by omega⟩
    have hs : colloquylaw20_MonBack.j2 (k + 1) up acts low (i : Int) false up e was s1.f0 f1 f2 f3 e (was ++ s1 :: rest) = some true := by
      rw [colloquylaw20_MonBack.j2, if_neg (by simp), sure_g k (by omega)]; rfl
    rw [colloquylaw20_MonBack.l0, show decide ((i : Int) < 40) = false from decide_eq_false (by omega)]
    split <;> exact hs
  | succ n ih =>
    intro i k rest h1 h2 h3 h4 h5
    obtain ⟨k, rfl⟩ : ∃ q, k = q + 1 + 1 + 1 := ⟨k - 3, by omega⟩
    have hlen : (was ++ s1 :: rest).length = was.length + 1 + rest.length := by rw [List.length_append, List.length_cons]; omega
    have hpc := inv_pc e was s1 rest h11 h5
    rw [colloquylaw20_MonBack.l0]
    by_cases g : (i : Int) < (acts.length : Int)
    · rw [if_pos g, show decide ((i : Int) < 40) = true from decide_eq_true (by omega), colloquylaw20_MonBack.j2, if_pos rfl, pc_f e _ (by omega), Option.bind_some]
      obtain ⟨o, q1, q2⟩ := leq_dec (k + 1) (by omega) up hb hL (pcOf e (was ++ s1 :: rest)) low
      have ho : ¬ o = true := fun h => hno (LE.trans hL hpc (q2.1 h))
      rw [q1, Option.bind_some, if_neg ho]
      refine back_l1 up e was (was ++ s1 :: rest) acts low (i : Int) s1.f0 f1 f2 f3 (s1 :: rest) rfl hn (n * 60 + 1000) ?_ was.length 0 k (by omega) (by omega)
      intro k hk
      have w : wrap64 ((i : Int) + 1) = ((i + 1 : Nat) : Int) := wrap_nat _ _ (by omega) (by omega)
      rw [colloquylaw20_MonBack.l1, if_neg (by omega), if_pos (by omega), if_pos g, w]
      by_cases g1 : (rd_T28 acts (i : Int)).f2 < 0
      · rw [if_pos g1, join_mon k _ (by omega) (by omega), Option.bind_some]
        simp only []
        obtain ⟨at_, hat⟩ : ∃ z, z = (rd_T28 acts (i : Int)).f0 := ⟨_, rfl⟩
        rw [← hat]
        have hje := jn_le (was ++ s1 :: rest) at_ (was ++ s1 :: rest).length
        have htk : (was ++ s1 :: rest).take was.length = was := List.take_left' rfl
        have hrd : rd_T58 (was ++ s1 :: rest) (was.length : Int) = s1 := by rw [rdT _ _ (by omega)]; simp
        rcases jn_cut (was ++ s1 :: rest) was.length at_ (was ++ s1 :: rest).length (by omega) with hj | ⟨hj1, hj2⟩
        · have et : (was ++ s1 :: rest).take (jn (was ++ s1 :: rest) at_ (was ++ s1 :: rest).length) = was ++ s1 :: rest.take (jn (was ++ s1 :: rest) at_ (was ++ s1 :: rest).length - (was.length + 1)) := by
            obtain ⟨q, hq⟩ : ∃ q, jn (was ++ s1 :: rest) at_ (was ++ s1 :: rest).length = was.length + (q + 1) := ⟨jn (was ++ s1 :: rest) at_ (was ++ s1 :: rest).length - (was.length + 1), by omega⟩
            rw [hq, List.take_length_add_append, List.take_succ_cons, show was.length + (q + 1) - (was.length + 1) = q from by omega]
          rw [et]
          have h5' : ∀ s ∈ rest.take (jn (was ++ s1 :: rest) at_ (was ++ s1 :: rest).length - (was.length + 1)), LE up s1.f1 s.f1 := fun s hs => h5 s (List.mem_of_mem_take hs)
          have hpc' := inv_pc e was s1 _ h11 h5'
          have hl2 : (was ++ s1 :: rest.take (jn (was ++ s1 :: rest) at_ (was ++ s1 :: rest).length - (was.length + 1))).length ≤ 90000 := by
            rw [← et]; simp only [List.length_take]; omega
          obtain ⟨o2, r1, r2⟩ := leq_dec k (by omega) up hb hL (pcOf e (was ++ s1 :: rest.take (jn (was ++ s1 :: rest) at_ (was ++ s1 :: rest).length - (was.length + 1)))) low
          have ho2 : ¬ o2 = true := fun h => hno (LE.trans hL hpc' (r2.1 h))
          rw [pc_f e _ hl2, Option.bind_some, r1, Option.bind_some, if_neg ho2]
          exact ih (i + 1) k _ (by omega) (by omega) (by have := List.length_take_le (jn (was ++ s1 :: rest) at_ (was ++ s1 :: rest).length - (was.length + 1)) rest; omega) (by omega) h5'
        · have hs1 : s1.f0 = at_ := by rw [← hj1, hrd]
          have hjw : jn (was ++ s1 :: rest) at_ was.length = jn was at_ was.length := jn_pre _ was at_ htk (by omega) was.length (Nat.le_refl _)
          have hjl := jn_le was at_ was.length
          have et : (was ++ s1 :: rest).take (jn (was ++ s1 :: rest) at_ (was ++ s1 :: rest).length) = was.take (jn was at_ was.length) := by
            rw [hj2, hjw, List.take_append_of_le_length hjl]
          rw [et]
          have hp2 : LE up (pcOf e (was.take (jn was at_ was.length))) low := by
            rw [pcOf_take e was _ hjl]
            have h := hM.pc_le (was.length - jn was at_ was.length) (jn was at_ was.length) (by omega)
            rw [show jn was at_ was.length + (was.length - jn was at_ was.length) = was.length from by omega] at h
            exact LE.trans hL h hlow
          have hl2 : (was.take (jn was at_ was.length)).length ≤ 90000 := by rw [List.length_take]; omega
          obtain ⟨o2, r1, r2⟩ := leq_dec k (by omega) up hb hL (pcOf e (was.take (jn was at_ was.length))) low
          rw [pc_f e _ hl2, Option.bind_some, r1, Option.bind_some, if_pos (r2.2 hp2), join_mon k was (by omega) (by omega), Option.bind_some, hs1, if_pos rfl]
          simp only []
          rw [if_pos trivial, if_pos trivial]
          obtain ⟨T, hT⟩ : ∃ T, T = was.take (jn was at_ was.length) := ⟨_, rfl⟩
          rw [← hT] at hl2 ⊢
          have hsu := sure_g k (by omega)
          by_cases hz : T.length = 0
          · rw [if_pos (by omega), hsu]; rfl
          · have w2 : wrap64 ((T.length : Int) - 1) = ((T.length - 1 : Nat) : Int) := by rw [wrap_in (by omega) (by omega)]; omega
            rw [if_neg (by omega), w2, if_pos (by omega), if_pos (by omega), if_pos (by omega)]
            simp only [beq_self_eq_true, Bool.and_self, if_true]
            rw [hsu]
            rfl
      · rw [if_neg g1]
        have nx : ∀ rest' : List S58, rest'.length + 1 ≤ i + 1 → (∀ s ∈ rest', LE up s1.f1 s.f1) → colloquylaw20_MonBack.l0 k up acts low ((i + 1 : Nat) : Int) up e was s1.f0 f1 f2 f3 e (was ++ s1 :: rest') = some true :=
          fun rest' hr hs => ih (i + 1) k rest' (by omega) (by omega) hr (by omega) hs
        by_cases g2 : (rd_T28 acts (i : Int)).f1 ≥ 0
        · rw [if_pos g2]
          by_cases g3 : (rd_T28 acts (i : Int)).f1 < (up.length : Int)
          · obtain ⟨over2, q3, q4⟩ := else_raw k (by omega) up hb hL e (was ++ s1 :: rest) (by omega) (LE.right hL hpc) (rd_T28 acts (i : Int)).f0 (rd_T28 acts (i : Int)).f1 (rd_T28 acts (i : Int)).f2 (by omega) g3
            rw [if_pos g3, q3, Option.bind_some]
            simp only []
            rcases q4 with ⟨rfl, _⟩ | ⟨_, r, rfl, q5, _⟩
            · exact nx rest (by omega) h5
            · rw [show was ++ s1 :: rest ++ [(⟨(rd_T28 acts (i : Int)).f0, r, (rd_T28 acts (i : Int)).f2⟩ : S58)] = was ++ s1 :: (rest ++ [(⟨(rd_T28 acts (i : Int)).f0, r, (rd_T28 acts (i : Int)).f2⟩ : S58)]) from by simp]
              refine nx _ (by simp; omega) (fun s hs => ?_)
              rcases List.mem_append.1 hs with h | h
              · exact h5 s h
              · simp only [List.mem_singleton] at h
                subst h
                exact LE.trans hL hpc q5
          · rw [if_neg g3]; exact nx rest (by omega) h5
        · rw [if_neg g2]; exact nx rest (by omega) h5
    · have hs : colloquylaw20_MonBack.j2 (k + 1 + 1) up acts low (i : Int) false up e was s1.f0 f1 f2 f3 e (was ++ s1 :: rest) = some true := by
        rw [colloquylaw20_MonBack.j2, if_neg (by simp), sure_g (k + 1) (by omega)]; rfl
      rw [if_neg g]; exact hs
theorem MonBack : colloquylaw20_MonBack.Pure := by
  intro up e l acts h1 h2 hw he hl hz hr ha1 ha2 ha3
  have hb : ∀ x ∈ up, 0 ≤ x ∧ x < 256 := fun x hx => wf_u8 (hw x hx)
  obtain ⟨K, hK⟩ : ∃ K, K = l.length + 5000 := ⟨_, rfl⟩
  refine ⟨K + 1, ?_⟩
  have hS : colloquylaw20_MonBack.j0 (K + 1) up acts true up e (l.map conv) = some true := by
    rw [colloquylaw20_MonBack.j0, if_pos rfl, sure_g K (by omega)]; rfl
  rw [colloquylaw20_MonBack.f, Option.bind_some, if_pos (show ([] : List Int).length + up.length < 140737488355328 from (by simp only [List.length_nil]; omega)), Option.bind_some, List.nil_append, give_f (K + 1) l (by omega) (by omega) e, Option.bind_some]
  by_cases g1 : (up.length : Int) > 20
  · rw [if_pos g1]; exact hS
  rw [if_neg g1]
  by_cases g2 : (l.length : Int) > 40
  · rw [if_pos g2]; exact hS
  rw [if_neg g2]
  by_cases g3 : (acts.length : Int) = 0
  · rw [if_pos g3]; exact hS
  rw [if_neg g3]
  have hlen : (l.map conv).length = l.length := List.length_map _
  obtain ⟨o, c1, c2, _, _⟩ := mon_check (K + 1) up hb e (l.map conv) (by omega) (by omega)
  simp only []
  rw [c1, Option.bind_some]
  cases o with
  | some _ => rw [if_neg (by simp)]; exact hS
  | none =>
    have hM := c2.1 rfl
    have hL := hM.lat
    have hsu := sure_g K (by omega)
    rw [if_pos (show (none : Option Int).isNone = true from rfl), colloquylaw20_MonBack.j0, if_neg (by simp), if_pos (by omega), pc_f e _ (by omega), Option.bind_some]
    obtain ⟨o1, d1, d2⟩ := leq_dec K (by omega) up hb hL (pcOf e (l.map conv)) (rd_T28 acts 0).f2
    rw [d1, Option.bind_some]
    cases o1 with
    | false => rw [if_neg (by simp), hsu]; rfl
    | true =>
      have hlow := d2.1 rfl
      rw [if_pos rfl]
      by_cases g4 : (rd_T28 acts 0).f1 < 0
      · rw [if_pos g4, hsu]; rfl
      rw [if_neg g4]
      by_cases g5 : (rd_T28 acts 0).f1 ≥ (up.length : Int)
      · rw [if_pos g5, hsu]; rfl
      rw [if_neg g5]
      obtain ⟨o2, e1, e2⟩ := leq_dec K (by omega) up hb hL (rd_T28 acts 0).f1 (rd_T28 acts 0).f2
      rw [e1, Option.bind_some]
      cases o2 with
      | true => rw [if_pos rfl, hsu]; rfl
      | false =>
        have hnc : ¬ LE up (rd_T28 acts 0).f1 (rd_T28 acts 0).f2 := fun h => by have := e2.2 h; cases this
        rw [if_neg (by simp)]
        obtain ⟨over2, q3, q4⟩ := else_raw K (by omega) up hb hL e (l.map conv) (by omega) (LE.left hL hlow) (rd_T28 acts 0).f0 (rd_T28 acts 0).f1 0 (by omega) (by omega)
        rw [q3, Option.bind_some]
        simp only []
        rcases q4 with ⟨_, q5⟩ | ⟨_, r, rfl, q5, q6⟩
        · exact absurd (LE.trans hL q5 hlow) hnc
        · exact back_l0 up hb hL e (l.map conv) (by omega) hM acts (rd_T28 acts 0).f2 hlow ⟨(rd_T28 acts 0).f0, r, 0⟩ (LE.right hL q6) (fun h => hnc (LE.trans hL q6 h)) (rd_T28 acts 0).f1 (rd_T28 acts 0).f2 (rd_T28 acts 0).f3 39 1 K [] (by omega) (by omega) (by simp) (by omega) (fun s hs => by simp at hs)

end Go.Proofs.YtodfomkhhfcnhaaDoor.Pure
