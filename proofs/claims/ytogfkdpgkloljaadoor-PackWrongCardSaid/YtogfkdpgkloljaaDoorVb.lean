/-
  Plain words on Go's bits, on numbers as bytes. No condition but each lemma's own premises.
-/
import Derived.Test.YtogfkdpgkloljaaDoorVa
import Derived.WalkKit
set_option linter.unusedVariables false
set_option linter.unusedSimpArgs false
set_option maxRecDepth 100000
namespace Go.Proofs.YtogfkdpgkloljaaDoorVs
open Go.RowKit (wrap64)
-- plain words on Go's bit operations, lists of bytes, and texts (this repo's own)
theorem fin_u8 {P : Int → Prop} (h : ∀ y : Fin 256, P ((y.val : Nat) : Int)) (x : Int) (h0 : 0 ≤ x) (h1 : x < 256) : P x := by
  obtain ⟨a, rfl⟩ := Int.eq_ofNat_of_zero_le h0
  exact h ⟨a, by omega⟩
theorem u8_and64_zero (x : Int) (h0 : 0 ≤ x) (h1 : x < 256) : (Go.bits .and .u8 x 64 = 0) ↔ x % 128 < 64 := fin_u8 (P := fun x => (Go.bits .and .u8 x 64 = 0) ↔ x % 128 < 64) (by decide +kernel) x h0 h1
theorem u8_and128_zero (x : Int) (h0 : 0 ≤ x) (h1 : x < 256) : (Go.bits .and .u8 x 128 = 0) ↔ x < 128 := fin_u8 (P := fun x => (Go.bits .and .u8 x 128 = 0) ↔ x < 128) (by decide +kernel) x h0 h1
theorem u8_and127 (x : Int) (h0 : 0 ≤ x) (h1 : x < 256) : Go.bits .and .u8 x 127 = x % 128 := fin_u8 (P := fun x => Go.bits .and .u8 x 127 = x % 128) (by decide +kernel) x h0 h1
theorem u8_or128 (x : Int) (h0 : 0 ≤ x) (h1 : x < 128) : Go.bits .or .u8 x 128 = x + 128 := fin_u8 (P := fun x => x < 128 → Go.bits .or .u8 x 128 = x + 128) (by decide +kernel) x h0 (by omega) h1
theorem i64_and127 (x : Int) : Go.bits .and .i64 x 127 = x % 128 := by
  show IntKind.i64.wrap (((BitVec.ofInt 64 x &&& BitVec.ofInt 64 127).toNat : Nat) : Int) = x % 128
  rw [BitVec.toNat_and, BitVec.toNat_ofInt, BitVec.toNat_ofInt, show ((127 : Int) % ((2 ^ 64 : Nat) : Int)).toNat = 2 ^ 7 - 1 from by decide, Nat.and_two_pow_sub_one_eq_mod, Go.IntKind.wrap_i64]
  omega
theorem i64_or_disj (a b : Int) (s : Nat) (hs : s ≤ 63) (ha0 : 0 ≤ a) (ha : a < 2 ^ s) (hb : b % 2 ^ s = 0) : Go.bits .or .i64 a b = wrap64 (a + b) := by
  show IntKind.i64.wrap (((BitVec.ofInt 64 a ||| BitVec.ofInt 64 b).toNat : Nat) : Int) = wrap64 (a + b)
  have hp : (2 : Int) ^ s ≤ 2 ^ 63 := by exact_mod_cast Nat.pow_le_pow_right (by decide) hs
  have h63 : (2 : Int) ^ 63 = 9223372036854775808 := by decide
  have hA : (a % ((2 ^ 64 : Nat) : Int)).toNat = a.toNat := by
    rw [show ((2 ^ 64 : Nat) : Int) = 18446744073709551616 from by decide]; omega
  have hd : (2 : Int) ^ s ∣ ((2 ^ 64 : Nat) : Int) := by
    exact_mod_cast Nat.pow_dvd_pow 2 (by omega : s ≤ 64)
  have hB : (b % ((2 ^ 64 : Nat) : Int)) % 2 ^ s = 0 := by rw [Int.emod_emod_of_dvd _ hd]; exact hb
  have hB0 : 0 ≤ b % ((2 ^ 64 : Nat) : Int) := Int.emod_nonneg _ (by decide)
  obtain ⟨B, hBe⟩ := Int.eq_ofNat_of_zero_le hB0
  have hBm : B % 2 ^ s = 0 := by
    rw [hBe] at hB; exact_mod_cast hB
  have hBq : B = 2 ^ s * (B / 2 ^ s) := by have := Nat.div_add_mod B (2 ^ s); omega
  have hAl : a.toNat < 2 ^ s := by
    have h1 : ((a.toNat : Nat) : Int) = a := Int.toNat_of_nonneg ha0
    have h2 : ((a.toNat : Nat) : Int) < ((2 ^ s : Nat) : Int) := by rw [h1]; exact_mod_cast ha
    exact_mod_cast h2
  rw [BitVec.toNat_or, BitVec.toNat_ofInt, BitVec.toNat_ofInt, hA, hBe, Int.toNat_natCast, Nat.or_comm]
  rw [hBq, ← Nat.two_pow_add_eq_or_of_lt hAl, ← hBq, Go.IntKind.wrap_i64]
  unfold wrap64
  have h1 : ((a.toNat : Nat) : Int) = a := Int.toNat_of_nonneg ha0
  rw [show ((2 ^ 64 : Nat) : Int) = 18446744073709551616 from by decide] at hBe
  omega
theorem strOf_toList (xs : List Int) : (strOfNums xs).toList = xs.map fun n => UInt8.ofNat n.toNat := Go.Lib.strOfNums_toList xs
theorem strOf_inj {a b : List Int} (ha : ∀ x ∈ a, 0 ≤ x ∧ x < 256) (hb : ∀ x ∈ b, 0 ≤ x ∧ x < 256) : (strOfNums a).toList = (strOfNums b).toList ↔ a = b := by
  rw [strOf_toList, strOf_toList]
  constructor
  · intro h
    induction a generalizing b with
    | nil => cases b with
      | nil => rfl
      | cons y ys => simp at h
    | cons x xs ih => cases b with
      | nil => simp at h
      | cons y ys =>
        simp only [List.map_cons, List.cons.injEq] at h
        obtain ⟨h1, h2⟩ := h
        have hx := ha x (by simp)
        have hy := hb y (by simp)
        have e : x = y := by
          have h3 := congrArg UInt8.toNat h1
          simp only [UInt8.toNat_ofNat'] at h3
          omega
        rw [e, ih (fun z hz => ha z (by simp [hz])) (fun z hz => hb z (by simp [hz])) h2]
  · intro h; rw [h]
-- what varint.Put, varint.Get and slices.Equal answer (this repo's own)
def enc (n : Int) : List Int := if h : -64 ≤ n ∧ n < 64 then [n % 128] else (n % 128 + 128) :: enc (n / 128)
termination_by n.natAbs
decreasing_by omega
theorem enc_small {n : Int} (h : -64 ≤ n ∧ n < 64) : enc n = [n % 128] := by rw [enc, dif_pos h]
theorem enc_big {n : Int} (h : ¬ (-64 ≤ n ∧ n < 64)) : enc n = (n % 128 + 128) :: enc (n / 128) := by rw [enc, dif_neg h]
theorem enc_ind {P : Int → Prop} (h1 : ∀ n, -64 ≤ n ∧ n < 64 → P n) (h2 : ∀ n, ¬ (-64 ≤ n ∧ n < 64) → P (n / 128) → P n) : ∀ n, P n := by
  intro n
  induction hd : n.natAbs using Nat.strongRecOn generalizing n with
  | _ d ih =>
    by_cases h : -64 ≤ n ∧ n < 64
    · exact h1 n h
    · exact h2 n h (ih (n / 128).natAbs (by omega) _ rfl)
theorem enc_bytes : ∀ n : Int, ∀ x ∈ enc n, 0 ≤ x ∧ x < 256 := by
  refine enc_ind (fun n h x hx => ?_) (fun n h ih x hx => ?_)
  · rw [enc_small h] at hx; simp at hx; omega
  · rw [enc_big h] at hx
    rcases List.mem_cons.1 hx with e | e
    · omega
    · exact ih x e
theorem enc_pos : ∀ n : Int, 1 ≤ (enc n).length := by
  intro n
  by_cases h : -64 ≤ n ∧ n < 64
  · rw [enc_small h]; simp
  · rw [enc_big h]; simp
theorem enc_inj : ∀ n m : Int, enc n = enc m → n = m := by
  refine enc_ind (fun n h => ?_) (fun n h ih => ?_)
  · intro m hm
    by_cases h' : -64 ≤ m ∧ m < 64
    · rw [enc_small h, enc_small h'] at hm; simp at hm; omega
    · rw [enc_small h, enc_big h'] at hm; simp at hm; omega
  · intro m hm
    by_cases h' : -64 ≤ m ∧ m < 64
    · rw [enc_big h, enc_small h'] at hm; simp at hm; omega
    · rw [enc_big h, enc_big h'] at hm
      simp only [List.cons.injEq] at hm
      have := ih _ hm.2
      omega
theorem enc_len_le : ∀ (d : Nat) (n : Int), -(64 * 128 ^ d) ≤ n → n < 64 * 128 ^ d → (enc n).length ≤ d + 1 := by
  intro d
  induction d with
  | zero =>
    intro n h1 h2
    rw [enc_small (by omega)]; simp
  | succ d ih =>
    intro n h1 h2
    by_cases h : -64 ≤ n ∧ n < 64
    · rw [enc_small h]; simp
    · rw [enc_big h]
      have := ih (n / 128) (by rw [Int.pow_succ] at h1; omega) (by rw [Int.pow_succ] at h2; omega)
      simp; omega
theorem enc_len_10 (n : Int) (h1 : -9223372036854775808 ≤ n) (h2 : n ≤ 9223372036854775807) : (enc n).length ≤ 10 :=
  enc_len_le 9 n (by have : (64 : Int) * 128 ^ 9 = 590295810358705651712 := by decide
                     omega) (by have : (64 : Int) * 128 ^ 9 = 590295810358705651712 := by decide
                                omega)

theorem fdiv7 (m : Int) : m.fdiv (2 ^ min (Int.toNat 7) IntKind.i64.bits) = m / 128 := by
  show m.fdiv (2 ^ 7) = m / 128
  rw [Int.fdiv_eq_ediv_of_nonneg _ (by decide)]; rfl
theorem u8_wrap {x : Int} (h : 0 ≤ x ∧ x < 256) : IntKind.u8.wrap x = x := by rw [IntKind.wrap_u8]; omega
def W : V := .unit
theorem s24 (l : List Int) (h : l.length ≤ 140737488355328) : Fix T 24 0 [[u8s l]] = some [[u8s l]] := by
  refine gv24 ?_
  have : (l.map (V.int .u8)).all scalarE = true := by simp [List.all_map, Function.comp_def, scalarE, scalarV]
  simp [cloneφ, u8s, this, h]
theorem wrapmod (m : Int) : IntKind.u8.wrap (m % 128) = m % 128 := u8_wrap (by omega)
/-- one round of Put: the last one, or one more -/
theorem put_rnd (n : Nat) (m : Int) (acc : List Int) (hl : acc.length < 140737488355328) :
    F32_0_b0 (Fix T) n [.int .i64 m, .unit, .list 5 [], u8s acc, .unit] = if -64 ≤ m ∧ m < 64 then some (.ret [[u8s (acc ++ [m % 128])]]) else some (.norm [1, 1, 1, 1, 1] [.int .i64 (m / 128), .unit, .list 5 [], u8s (acc ++ [m % 128 + 128]), .unit]) := by
  have h7 : ((7 : Int) < 0) = False := by simp
  have e1 : m % 128 % 128 = m % 128 := by omega
  have ho := u8_or128 (m % 128) (by omega) (by omega)
  have hz := u8_and64_zero (m % 128) (by omega) (by omega)
  have hs : (acc.length + 1) * 1 ≤ 140737488355328 := by omega
  have ea : acc.map (V.int .u8) ++ [V.int .u8 (m % 128)] = (acc ++ [m % 128]).map (V.int .u8) := by simp
  have eb : acc.map (V.int .u8) ++ [V.int .u8 (m % 128 + 128)] = (acc ++ [m % 128 + 128]).map (V.int .u8) := by simp
  rw [e1] at hz
  unfold u8s
  by_cases h1 : m / 128 = 0
  · by_cases h2 : m % 128 < 64
    · have hc : -64 ≤ m ∧ m < 64 := by omega
      have hz' : (Go.bits .and .u8 (m % 128) 64 = 0) = True := eq_true (hz.2 h2)
      simp only [F32_0_b0, i64_and127, wrapmod, h7, fdiv7, h1, hz', hc, List.length_map, List.length_singleton, List.length_cons, List.length_nil, Nat.zero_add, hs, ea, and_self, false_implies, o_add, o_sub, o_mul, o_quo, o_rem, o_and, o_or, o_eql, o_neq, o_lss, o_leq, o_gtr, o_geq, o_shl, o_shr, o_seql, o_sneq, o_beql, o_bneq, o_ieql, o_ineq, o_neql, o_nneq, o_not, o_neg, o_notv, o_pickT, o_pickF, o_pick, o_conv, o_len, o_lens, o_idxN, o_eix, o_ldiI, o_ldiI0, o_slcL, o_slcH, o_app, o_mk1, o_ifc, o_str, o_byt, c_int, c_bool, c_str, c_list, c_agg, c_iface, c_nilI, c_unit2, c_unit, c_true, i_te, g_T, g_F, g_u, b_norm, b_exitN, b_exitI, b_ret, b_none, b_ite, a_0, a_1, a_2, a_3, a_4, a_5, a_6, a_7, a_8, a_9, a_10, a_11, a_12, a_13, a_14, a_15, a_16, a_17, a_18, a_19, a_20, a_21, a_22, a_23, a_24, f_c0, f_c1, f_c2, f_c3, f_c4, f_c5, f_c6, f_c7, f_c8, f_c9, f_c10, f_c11, f_c12, f_c13, f_c14, f_c15, f_c16, p_nil, p_cons, pk_of, Option.bind_some, Option.bind_none, List.getElem?_cons_zero, List.getElem?_cons_succ, decide_eq_true_eq, if_true, if_false, Bool.not_eq_true', Bool.false_eq_true, ne_eq, not_false_eq_true, not_true_eq_false, decide_true, decide_false, Int.toNat_natCast, Bool.not_true, Bool.not_false]
    · have hc : (-64 ≤ m ∧ m < 64) = False := eq_false (by omega)
      have hz' : (Go.bits .and .u8 (m % 128) 64 = 0) = False := eq_false (fun e => h2 (hz.1 e))
      have h3 : ((0 : Int) = -1) = False := by simp
      simp only [F32_0_b0, i64_and127, wrapmod, h7, fdiv7, h1, hz', hc, h3, ho, List.length_map, List.length_singleton, List.length_cons, List.length_nil, Nat.zero_add, hs, eb, and_self, false_implies, o_add, o_sub, o_mul, o_quo, o_rem, o_and, o_or, o_eql, o_neq, o_lss, o_leq, o_gtr, o_geq, o_shl, o_shr, o_seql, o_sneq, o_beql, o_bneq, o_ieql, o_ineq, o_neql, o_nneq, o_not, o_neg, o_notv, o_pickT, o_pickF, o_pick, o_conv, o_len, o_lens, o_idxN, o_eix, o_ldiI, o_ldiI0, o_slcL, o_slcH, o_app, o_mk1, o_ifc, o_str, o_byt, c_int, c_bool, c_str, c_list, c_agg, c_iface, c_nilI, c_unit2, c_unit, c_true, i_te, g_T, g_F, g_u, b_norm, b_exitN, b_exitI, b_ret, b_none, b_ite, a_0, a_1, a_2, a_3, a_4, a_5, a_6, a_7, a_8, a_9, a_10, a_11, a_12, a_13, a_14, a_15, a_16, a_17, a_18, a_19, a_20, a_21, a_22, a_23, a_24, f_c0, f_c1, f_c2, f_c3, f_c4, f_c5, f_c6, f_c7, f_c8, f_c9, f_c10, f_c11, f_c12, f_c13, f_c14, f_c15, f_c16, p_nil, p_cons, pk_of, Option.bind_some, Option.bind_none, List.getElem?_cons_zero, List.getElem?_cons_succ, decide_eq_true_eq, if_true, if_false, Bool.not_eq_true', Bool.false_eq_true, ne_eq, not_false_eq_true, not_true_eq_false, decide_true, decide_false, Int.toNat_natCast, Bool.not_true, Bool.not_false]
  · have h1' : (m / 128 = 0) = False := eq_false h1
    by_cases h3 : m / 128 = -1
    · have h3' : (m / 128 = -1) = True := eq_true h3
      by_cases h2 : m % 128 < 64
      · have hc : (-64 ≤ m ∧ m < 64) = False := eq_false (by omega)
        have hz' : (Go.bits .and .u8 (m % 128) 64 = 0) = True := eq_true (hz.2 h2)
        simp only [F32_0_b0, i64_and127, wrapmod, h7, fdiv7, h1', hz', hc, h3', ho, List.length_map, List.length_singleton, List.length_cons, List.length_nil, Nat.zero_add, hs, eb, and_self, false_implies, o_add, o_sub, o_mul, o_quo, o_rem, o_and, o_or, o_eql, o_neq, o_lss, o_leq, o_gtr, o_geq, o_shl, o_shr, o_seql, o_sneq, o_beql, o_bneq, o_ieql, o_ineq, o_neql, o_nneq, o_not, o_neg, o_notv, o_pickT, o_pickF, o_pick, o_conv, o_len, o_lens, o_idxN, o_eix, o_ldiI, o_ldiI0, o_slcL, o_slcH, o_app, o_mk1, o_ifc, o_str, o_byt, c_int, c_bool, c_str, c_list, c_agg, c_iface, c_nilI, c_unit2, c_unit, c_true, i_te, g_T, g_F, g_u, b_norm, b_exitN, b_exitI, b_ret, b_none, b_ite, a_0, a_1, a_2, a_3, a_4, a_5, a_6, a_7, a_8, a_9, a_10, a_11, a_12, a_13, a_14, a_15, a_16, a_17, a_18, a_19, a_20, a_21, a_22, a_23, a_24, f_c0, f_c1, f_c2, f_c3, f_c4, f_c5, f_c6, f_c7, f_c8, f_c9, f_c10, f_c11, f_c12, f_c13, f_c14, f_c15, f_c16, p_nil, p_cons, pk_of, Option.bind_some, Option.bind_none, List.getElem?_cons_zero, List.getElem?_cons_succ, decide_eq_true_eq, if_true, if_false, Bool.not_eq_true', Bool.false_eq_true, ne_eq, not_false_eq_true, not_true_eq_false, decide_true, decide_false, Int.toNat_natCast, Bool.not_true, Bool.not_false]
      · have hc : (-64 ≤ m ∧ m < 64) = True := eq_true (by omega)
        have hz' : (Go.bits .and .u8 (m % 128) 64 = 0) = False := eq_false (fun e => h2 (hz.1 e))
        simp only [F32_0_b0, i64_and127, wrapmod, h7, fdiv7, h1', hz', hc, h3', List.length_map, List.length_singleton, List.length_cons, List.length_nil, Nat.zero_add, hs, ea, and_self, false_implies, o_add, o_sub, o_mul, o_quo, o_rem, o_and, o_or, o_eql, o_neq, o_lss, o_leq, o_gtr, o_geq, o_shl, o_shr, o_seql, o_sneq, o_beql, o_bneq, o_ieql, o_ineq, o_neql, o_nneq, o_not, o_neg, o_notv, o_pickT, o_pickF, o_pick, o_conv, o_len, o_lens, o_idxN, o_eix, o_ldiI, o_ldiI0, o_slcL, o_slcH, o_app, o_mk1, o_ifc, o_str, o_byt, c_int, c_bool, c_str, c_list, c_agg, c_iface, c_nilI, c_unit2, c_unit, c_true, i_te, g_T, g_F, g_u, b_norm, b_exitN, b_exitI, b_ret, b_none, b_ite, a_0, a_1, a_2, a_3, a_4, a_5, a_6, a_7, a_8, a_9, a_10, a_11, a_12, a_13, a_14, a_15, a_16, a_17, a_18, a_19, a_20, a_21, a_22, a_23, a_24, f_c0, f_c1, f_c2, f_c3, f_c4, f_c5, f_c6, f_c7, f_c8, f_c9, f_c10, f_c11, f_c12, f_c13, f_c14, f_c15, f_c16, p_nil, p_cons, pk_of, Option.bind_some, Option.bind_none, List.getElem?_cons_zero, List.getElem?_cons_succ, decide_eq_true_eq, if_true, if_false, Bool.not_eq_true', Bool.false_eq_true, ne_eq, not_false_eq_true, not_true_eq_false, decide_true, decide_false, Int.toNat_natCast, Bool.not_true, Bool.not_false]
    · have h3' : (m / 128 = -1) = False := eq_false h3
      have hc : (-64 ≤ m ∧ m < 64) = False := eq_false (by omega)
      simp only [F32_0_b0, i64_and127, wrapmod, h7, fdiv7, h1', hc, h3', ho, List.length_map, List.length_singleton, List.length_cons, List.length_nil, Nat.zero_add, hs, eb, and_self, false_implies, o_add, o_sub, o_mul, o_quo, o_rem, o_and, o_or, o_eql, o_neq, o_lss, o_leq, o_gtr, o_geq, o_shl, o_shr, o_seql, o_sneq, o_beql, o_bneq, o_ieql, o_ineq, o_neql, o_nneq, o_not, o_neg, o_notv, o_pickT, o_pickF, o_pick, o_conv, o_len, o_lens, o_idxN, o_eix, o_ldiI, o_ldiI0, o_slcL, o_slcH, o_app, o_mk1, o_ifc, o_str, o_byt, c_int, c_bool, c_str, c_list, c_agg, c_iface, c_nilI, c_unit2, c_unit, c_true, i_te, g_T, g_F, g_u, b_norm, b_exitN, b_exitI, b_ret, b_none, b_ite, a_0, a_1, a_2, a_3, a_4, a_5, a_6, a_7, a_8, a_9, a_10, a_11, a_12, a_13, a_14, a_15, a_16, a_17, a_18, a_19, a_20, a_21, a_22, a_23, a_24, f_c0, f_c1, f_c2, f_c3, f_c4, f_c5, f_c6, f_c7, f_c8, f_c9, f_c10, f_c11, f_c12, f_c13, f_c14, f_c15, f_c16, p_nil, p_cons, pk_of, Option.bind_some, Option.bind_none, List.getElem?_cons_zero, List.getElem?_cons_succ, decide_eq_true_eq, if_true, if_false, Bool.not_eq_true', Bool.false_eq_true, ne_eq, not_false_eq_true, not_true_eq_false, decide_true, decide_false, Int.toNat_natCast, Bool.not_true, Bool.not_false]
theorem put_loop (n : Nat) : ∀ (d : Nat) (m : Int), -(64 * 128 ^ d) ≤ m → m < 64 * 128 ^ d → ∀ (fuel : Nat) (acc : List Int), d < fuel → acc.length + d < 140737488355328 →
    lpV [1, 1, 1, 1, 1] (F32_0_b0 (Fix T) n) fuel [.int .i64 m, .unit, .list 5 [], u8s acc, .unit] = some (.ret [[u8s (acc ++ enc m)]]) := by
  intro d
  induction d with
  | zero =>
    intro m h1 h2 fuel acc hf hl
    obtain ⟨fuel, rfl⟩ : ∃ k, fuel = k + 1 := ⟨fuel - 1, by omega⟩
    have h := put_rnd n m acc (by omega)
    have hc : -64 ≤ m ∧ m < 64 := by omega
    rw [if_pos hc] at h
    rw [lp_ret h, enc_small hc]
  | succ d ih =>
    intro m h1 h2 fuel acc hf hl
    obtain ⟨fuel, rfl⟩ : ∃ k, fuel = k + 1 := ⟨fuel - 1, by omega⟩
    have h := put_rnd n m acc (by omega)
    by_cases hc : -64 ≤ m ∧ m < 64
    · rw [if_pos hc] at h
      rw [lp_ret h, enc_small hc]
    · rw [if_neg hc] at h
      rw [lp_norm h, ih (m / 128) (by rw [Int.pow_succ] at h1; omega) (by rw [Int.pow_succ] at h2; omega) fuel _ (by omega) (by simp; omega), enc_big hc]
      simp
theorem s32 (acc : List Int) (m : Int) (h1 : -9223372036854775808 ≤ m) (h2 : m ≤ 9223372036854775807) (hl : acc.length < 140737488355000) : Fix T 32 0 [[u8s acc], [.int .i64 m]] = some [[u8s (acc ++ enc m)]] := by
  refine e32_0 10 ?_
  have hp : (64 : Int) * 128 ^ 9 = 590295810358705651712 := by decide
  have h := put_loop 10 9 m (by omega) (by omega) 10 acc (by omega) (by omega)
  have hc := s24 acc (by omega)
  unfold u8s at h hc ⊢
  simp only [F32_0, hc, h, o_add, o_sub, o_mul, o_quo, o_rem, o_and, o_or, o_eql, o_neq, o_lss, o_leq, o_gtr, o_geq, o_shl, o_shr, o_seql, o_sneq, o_beql, o_bneq, o_ieql, o_ineq, o_neql, o_nneq, o_not, o_neg, o_notv, o_pickT, o_pickF, o_pick, o_conv, o_len, o_lens, o_idxN, o_eix, o_ldiI, o_ldiI0, o_slcL, o_slcH, o_app, o_mk1, o_ifc, o_str, o_byt, c_int, c_bool, c_str, c_list, c_agg, c_iface, c_nilI, c_unit2, c_unit, c_true, i_te, g_T, g_F, g_u, b_norm, b_exitN, b_exitI, b_ret, b_none, b_ite, a_0, a_1, a_2, a_3, a_4, a_5, a_6, a_7, a_8, a_9, a_10, a_11, a_12, a_13, a_14, a_15, a_16, a_17, a_18, a_19, a_20, a_21, a_22, a_23, a_24, f_c0, f_c1, f_c2, f_c3, f_c4, f_c5, f_c6, f_c7, f_c8, f_c9, f_c10, f_c11, f_c12, f_c13, f_c14, f_c15, f_c16, p_nil, p_cons, pk_of, Option.bind_some, Option.bind_none, List.getElem?_cons_zero, List.getElem?_cons_succ, decide_eq_true_eq, if_true, if_false, Bool.not_eq_true', Bool.false_eq_true, ne_eq, not_false_eq_true, not_true_eq_false, decide_true, decide_false, Int.toNat_natCast, Bool.not_true, Bool.not_false]
end Go.Proofs.YtogfkdpgkloljaaDoorVs
