/-
  Several texts in one: What varint.Put, varint.Get and slices.Equal answer, as plain functions on lists of numbers. Conditions: each lemma's own premises. | Plain words on Go's bits, on numbers as bytes. No condition but each lemma's own premises. | What varint.Get answers. No condition but each lemma's own premises. | What a Reader answers; the law PackWrong. No condition but each lemma's own premises. | What a Writer writes. No condition but each lemma's own premises. | What the document's Put writes. No condition but each lemma's own premises. | What the document's Put writes of a number, of a field. No condition but each lemma's own premises.
-/
import Derived.Test.YtogfkdpgkloljaaDoorVM7
import Derived.Test.YtogfkdpgkloljaaDoorVM9
import Derived.WalkKit
set_option linter.unusedVariables false
set_option linter.unusedSimpArgs false
set_option maxRecDepth 100000
namespace Go.Proofs.YtogfkdpgkloljaaDoorVs
def u8s (l : List Int) : V := .list 5 (l.map (V.int .u8))
theorem s33_loop (n : Nat) (a b : List Int) (hl : a.length = b.length) (hm : a.length < 2 ^ 62) : ∀ (d i fuel : Nat), a.length - i = d → i ≤ a.length → d < fuel →
    lpV [1, 1] (F33_0_b0 (Fix T) n (u8s a) (u8s b) (.int .i64 a.length)) fuel [.bool false, .int .i64 i] = if a.drop i = b.drop i then some (.exit 0 [1, 1] [.bool false, .int .i64 a.length]) else some (.ret [[.bool false]]) := by
  intro d
  induction d with
  | zero =>
    intro i fuel hd hi hf
    obtain ⟨fuel, rfl⟩ : ∃ m, fuel = m + 1 := ⟨fuel - 1, by omega⟩
    have : i = a.length := by omega
    subst this
    have h1 : ¬ ((a.length : Int) < a.length) := by omega
    rw [lp_exit (j := 0) (l' := [1, 1]) (vs' := [.bool false, .int .i64 a.length]) (by simp only [F33_0_b0, u8s, h1, o_add, o_sub, o_mul, o_quo, o_rem, o_and, o_or, o_eql, o_neq, o_lss, o_leq, o_gtr, o_geq, o_shl, o_shr, o_seql, o_sneq, o_beql, o_bneq, o_ieql, o_ineq, o_neql, o_nneq, o_not, o_neg, o_notv, o_pickT, o_pickF, o_pick, o_conv, o_len, o_lens, o_idxN, o_eix, o_ldiI, o_ldiI0, o_slcL, o_slcH, o_app, o_mk1, o_ifc, o_str, o_byt, c_int, c_bool, c_str, c_list, c_agg, c_iface, c_nilI, c_unit2, c_unit, c_true, i_te, g_T, g_F, g_u, b_norm, b_exitN, b_exitI, Nat.one_ne_zero, Nat.zero_ne_one, Nat.reduceEqDiff, b_ret, b_none, b_ite, a_0, a_1, a_2, a_3, a_4, a_5, a_6, a_7, a_8, a_9, a_10, a_11, a_12, a_13, a_14, a_15, a_16, a_17, a_18, a_19, a_20, a_21, a_22, a_23, a_24, f_c0, f_c1, f_c2, f_c3, f_c4, f_c5, f_c6, f_c7, f_c8, f_c9, f_c10, f_c11, f_c12, f_c13, f_c14, f_c15, f_c16, p_nil, p_cons, pk_of, Option.bind_some, Option.bind_none, List.getElem?_cons_zero, List.getElem?_cons_succ, decide_eq_true_eq, if_true, if_false, Bool.not_eq_true', Bool.false_eq_true, Bool.true_eq_false, reduceCtorEq, ne_eq, not_false_eq_true, not_true_eq_false, decide_true, decide_false, Int.toNat_natCast, Int.natCast_zero, Bool.not_true, Bool.not_false])]
    rw [List.drop_of_length_le (by omega), List.drop_of_length_le (by omega), if_pos rfl]
  | succ d ih =>
    intro i fuel hd hi hf
    obtain ⟨fuel, rfl⟩ : ∃ m, fuel = m + 1 := ⟨fuel - 1, by omega⟩
    have hlt : i < a.length := by omega
    have h1 : ((i : Int) < a.length) := by omega
    have ea : (a.map (V.int .u8))[i]? = some (.int .u8 a[i]) := by simp [hlt]
    have eb : (b.map (V.int .u8))[i]? = some (.int .u8 b[i]) := by simp [show i < b.length by omega]
    have hda : a.drop i = a[i] :: a.drop (i + 1) := List.drop_eq_getElem_cons hlt
    have hdb : b.drop i = b[i] :: b.drop (i + 1) := List.drop_eq_getElem_cons (by omega)
    by_cases hab : a[i] = b[i]
    · rw [lp_norm (vs' := [.bool false, .int .i64 ((i + 1 : Nat) : Int)]) (by simp only [F33_0_b0, u8s, h1, ea, eb, w_succ (show i < 4611686018427387904 by omega), hab, o_add, o_sub, o_mul, o_quo, o_rem, o_and, o_or, o_eql, o_neq, o_lss, o_leq, o_gtr, o_geq, o_shl, o_shr, o_seql, o_sneq, o_beql, o_bneq, o_ieql, o_ineq, o_neql, o_nneq, o_not, o_neg, o_notv, o_pickT, o_pickF, o_pick, o_conv, o_len, o_lens, o_idxN, o_eix, o_ldiI, o_ldiI0, o_slcL, o_slcH, o_app, o_mk1, o_ifc, o_str, o_byt, c_int, c_bool, c_str, c_list, c_agg, c_iface, c_nilI, c_unit2, c_unit, c_true, i_te, g_T, g_F, g_u, b_norm, b_exitN, b_exitI, Nat.one_ne_zero, Nat.zero_ne_one, Nat.reduceEqDiff, b_ret, b_none, b_ite, a_0, a_1, a_2, a_3, a_4, a_5, a_6, a_7, a_8, a_9, a_10, a_11, a_12, a_13, a_14, a_15, a_16, a_17, a_18, a_19, a_20, a_21, a_22, a_23, a_24, f_c0, f_c1, f_c2, f_c3, f_c4, f_c5, f_c6, f_c7, f_c8, f_c9, f_c10, f_c11, f_c12, f_c13, f_c14, f_c15, f_c16, p_nil, p_cons, pk_of, Option.bind_some, Option.bind_none, List.getElem?_cons_zero, List.getElem?_cons_succ, decide_eq_true_eq, if_true, if_false, Bool.not_eq_true', Bool.false_eq_true, Bool.true_eq_false, reduceCtorEq, ne_eq, not_false_eq_true, not_true_eq_false, decide_true, decide_false, Int.toNat_natCast, Int.natCast_zero, Bool.not_true, Bool.not_false])]
      rw [ih (i + 1) fuel (by omega) (by omega) (by omega)]
      simp only [hda, hdb, hab, List.cons.injEq, true_and]
    · rw [lp_ret (rs := [[.bool false]]) (by simp only [F33_0_b0, u8s, h1, ea, eb, hab, o_add, o_sub, o_mul, o_quo, o_rem, o_and, o_or, o_eql, o_neq, o_lss, o_leq, o_gtr, o_geq, o_shl, o_shr, o_seql, o_sneq, o_beql, o_bneq, o_ieql, o_ineq, o_neql, o_nneq, o_not, o_neg, o_notv, o_pickT, o_pickF, o_pick, o_conv, o_len, o_lens, o_idxN, o_eix, o_ldiI, o_ldiI0, o_slcL, o_slcH, o_app, o_mk1, o_ifc, o_str, o_byt, c_int, c_bool, c_str, c_list, c_agg, c_iface, c_nilI, c_unit2, c_unit, c_true, i_te, g_T, g_F, g_u, b_norm, b_exitN, b_exitI, Nat.one_ne_zero, Nat.zero_ne_one, Nat.reduceEqDiff, b_ret, b_none, b_ite, a_0, a_1, a_2, a_3, a_4, a_5, a_6, a_7, a_8, a_9, a_10, a_11, a_12, a_13, a_14, a_15, a_16, a_17, a_18, a_19, a_20, a_21, a_22, a_23, a_24, f_c0, f_c1, f_c2, f_c3, f_c4, f_c5, f_c6, f_c7, f_c8, f_c9, f_c10, f_c11, f_c12, f_c13, f_c14, f_c15, f_c16, p_nil, p_cons, pk_of, Option.bind_some, Option.bind_none, List.getElem?_cons_zero, List.getElem?_cons_succ, decide_eq_true_eq, if_true, if_false, Bool.not_eq_true', Bool.false_eq_true, Bool.true_eq_false, reduceCtorEq, ne_eq, not_false_eq_true, not_true_eq_false, decide_true, decide_false, Int.toNat_natCast, Int.natCast_zero, Bool.not_true, Bool.not_false])]
      rw [if_neg (fun e => by rw [hda, hdb] at e; exact hab (List.cons.inj e).1)]
theorem s33 (a b : List Int) (hm : a.length < 2 ^ 62) : Fix T 33 0 [[u8s a], [u8s b]] = some [[.bool (decide (a = b))]] := by
  refine e33_0 (a.length + 1) ?_
  by_cases hl : a.length = b.length
  · have h : lpV [1, 1] (F33_0_b0 (Fix T) (a.length + 1) (u8s a) (u8s b) (.int .i64 a.length)) (a.length + 1) [.bool false, .int .i64 0] = _ := s33_loop (a.length + 1) a b hl hm a.length 0 (a.length + 1) rfl (by omega) (by omega)
    have h0 : ((a.length : Int) = b.length) = True := eq_true (by omega)
    unfold u8s at h ⊢
    simp only [F33_0, h0, List.length_map, h, o_add, o_sub, o_mul, o_quo, o_rem, o_and, o_or, o_eql, o_neq, o_lss, o_leq, o_gtr, o_geq, o_shl, o_shr, o_seql, o_sneq, o_beql, o_bneq, o_ieql, o_ineq, o_neql, o_nneq, o_not, o_neg, o_notv, o_pickT, o_pickF, o_pick, o_conv, o_len, o_lens, o_idxN, o_eix, o_ldiI, o_ldiI0, o_slcL, o_slcH, o_app, o_mk1, o_ifc, o_str, o_byt, c_int, c_bool, c_str, c_list, c_agg, c_iface, c_nilI, c_unit2, c_unit, c_true, i_te, g_T, g_F, g_u, b_norm, b_exitN, b_exitI, Nat.one_ne_zero, Nat.zero_ne_one, Nat.reduceEqDiff, b_ret, b_none, b_ite, a_0, a_1, a_2, a_3, a_4, a_5, a_6, a_7, a_8, a_9, a_10, a_11, a_12, a_13, a_14, a_15, a_16, a_17, a_18, a_19, a_20, a_21, a_22, a_23, a_24, f_c0, f_c1, f_c2, f_c3, f_c4, f_c5, f_c6, f_c7, f_c8, f_c9, f_c10, f_c11, f_c12, f_c13, f_c14, f_c15, f_c16, p_nil, p_cons, pk_of, Option.bind_some, Option.bind_none, List.getElem?_cons_zero, List.getElem?_cons_succ, decide_eq_true_eq, if_true, if_false, Bool.not_eq_true', Bool.false_eq_true, Bool.true_eq_false, reduceCtorEq, ne_eq, not_false_eq_true, not_true_eq_false, decide_true, decide_false, Int.toNat_natCast, Int.natCast_zero, Bool.not_true, Bool.not_false]
    by_cases hab : a = b
    · simp only [hab, o_add, o_sub, o_mul, o_quo, o_rem, o_and, o_or, o_eql, o_neq, o_lss, o_leq, o_gtr, o_geq, o_shl, o_shr, o_seql, o_sneq, o_beql, o_bneq, o_ieql, o_ineq, o_neql, o_nneq, o_not, o_neg, o_notv, o_pickT, o_pickF, o_pick, o_conv, o_len, o_lens, o_idxN, o_eix, o_ldiI, o_ldiI0, o_slcL, o_slcH, o_app, o_mk1, o_ifc, o_str, o_byt, c_int, c_bool, c_str, c_list, c_agg, c_iface, c_nilI, c_unit2, c_unit, c_true, i_te, g_T, g_F, g_u, b_norm, b_exitN, b_exitI, Nat.one_ne_zero, Nat.zero_ne_one, Nat.reduceEqDiff, b_ret, b_none, b_ite, a_0, a_1, a_2, a_3, a_4, a_5, a_6, a_7, a_8, a_9, a_10, a_11, a_12, a_13, a_14, a_15, a_16, a_17, a_18, a_19, a_20, a_21, a_22, a_23, a_24, f_c0, f_c1, f_c2, f_c3, f_c4, f_c5, f_c6, f_c7, f_c8, f_c9, f_c10, f_c11, f_c12, f_c13, f_c14, f_c15, f_c16, p_nil, p_cons, pk_of, Option.bind_some, Option.bind_none, List.getElem?_cons_zero, List.getElem?_cons_succ, decide_eq_true_eq, if_true, if_false, Bool.not_eq_true', Bool.false_eq_true, Bool.true_eq_false, reduceCtorEq, ne_eq, not_false_eq_true, not_true_eq_false, decide_true, decide_false, Int.toNat_natCast, Int.natCast_zero, Bool.not_true, Bool.not_false]
    · simp only [List.drop_zero, if_neg hab, hab, o_add, o_sub, o_mul, o_quo, o_rem, o_and, o_or, o_eql, o_neq, o_lss, o_leq, o_gtr, o_geq, o_shl, o_shr, o_seql, o_sneq, o_beql, o_bneq, o_ieql, o_ineq, o_neql, o_nneq, o_not, o_neg, o_notv, o_pickT, o_pickF, o_pick, o_conv, o_len, o_lens, o_idxN, o_eix, o_ldiI, o_ldiI0, o_slcL, o_slcH, o_app, o_mk1, o_ifc, o_str, o_byt, c_int, c_bool, c_str, c_list, c_agg, c_iface, c_nilI, c_unit2, c_unit, c_true, i_te, g_T, g_F, g_u, b_norm, b_exitN, b_exitI, Nat.one_ne_zero, Nat.zero_ne_one, Nat.reduceEqDiff, b_ret, b_none, b_ite, a_0, a_1, a_2, a_3, a_4, a_5, a_6, a_7, a_8, a_9, a_10, a_11, a_12, a_13, a_14, a_15, a_16, a_17, a_18, a_19, a_20, a_21, a_22, a_23, a_24, f_c0, f_c1, f_c2, f_c3, f_c4, f_c5, f_c6, f_c7, f_c8, f_c9, f_c10, f_c11, f_c12, f_c13, f_c14, f_c15, f_c16, p_nil, p_cons, pk_of, Option.bind_some, Option.bind_none, List.getElem?_cons_zero, List.getElem?_cons_succ, decide_eq_true_eq, if_true, if_false, Bool.not_eq_true', Bool.false_eq_true, Bool.true_eq_false, reduceCtorEq, ne_eq, not_false_eq_true, not_true_eq_false, decide_true, decide_false, Int.toNat_natCast, Int.natCast_zero, Bool.not_true, Bool.not_false]
  · have h0 : ((a.length : Int) = b.length) = False := eq_false (by omega)
    have : a ≠ b := fun h => hl (by rw [h])
    unfold u8s
    simp only [F33_0, h0, List.length_map, this, o_add, o_sub, o_mul, o_quo, o_rem, o_and, o_or, o_eql, o_neq, o_lss, o_leq, o_gtr, o_geq, o_shl, o_shr, o_seql, o_sneq, o_beql, o_bneq, o_ieql, o_ineq, o_neql, o_nneq, o_not, o_neg, o_notv, o_pickT, o_pickF, o_pick, o_conv, o_len, o_lens, o_idxN, o_eix, o_ldiI, o_ldiI0, o_slcL, o_slcH, o_app, o_mk1, o_ifc, o_str, o_byt, c_int, c_bool, c_str, c_list, c_agg, c_iface, c_nilI, c_unit2, c_unit, c_true, i_te, g_T, g_F, g_u, b_norm, b_exitN, b_exitI, Nat.one_ne_zero, Nat.zero_ne_one, Nat.reduceEqDiff, b_ret, b_none, b_ite, a_0, a_1, a_2, a_3, a_4, a_5, a_6, a_7, a_8, a_9, a_10, a_11, a_12, a_13, a_14, a_15, a_16, a_17, a_18, a_19, a_20, a_21, a_22, a_23, a_24, f_c0, f_c1, f_c2, f_c3, f_c4, f_c5, f_c6, f_c7, f_c8, f_c9, f_c10, f_c11, f_c12, f_c13, f_c14, f_c15, f_c16, p_nil, p_cons, pk_of, Option.bind_some, Option.bind_none, List.getElem?_cons_zero, List.getElem?_cons_succ, decide_eq_true_eq, if_true, if_false, Bool.not_eq_true', Bool.false_eq_true, Bool.true_eq_false, reduceCtorEq, ne_eq, not_false_eq_true, not_true_eq_false, decide_true, decide_false, Int.toNat_natCast, Int.natCast_zero, Bool.not_true, Bool.not_false]
end Go.Proofs.YtogfkdpgkloljaaDoorVs
set_option linter.unusedVariables false
set_option linter.unusedSimpArgs false
set_option maxRecDepth 100000
namespace Go.Proofs.YtogfkdpgkloljaaDoorVs
open Go.RowKit (wrap64)
-- plain words on Go's bit operations, lists of bytes, and texts (this repo's own)
theorem fin_u8 {P : Int → Prop} (h : ∀ y : Fin 256, P ((y.val : Nat) : Int)) (x : Int) (h0 : 0 ≤ x) (h1 : x < 256) : P x := by
  obtain ⟨a, rfl⟩ := Int.eq_ofNat_of_zero_le h0
  exact h ⟨a, by omega⟩
theorem u8_and64_zero (x : Int) (h0 : 0 ≤ x) (h1 : x < 256) : (Go.bits .and .u8 x 64 = 0) ↔ x % 128 < 64 := fin_u8 (P := fun x => (Go.bits .and .u8 x 64 = 0) ↔ x % 128 < 64) (by decide +kernel) x h0 h1
theorem u8_and128_zero (x : Int) (h0 : 0 ≤ x) (h1 : x < 256) : (Go.bits .and .u8 x 128 = 0) ↔ x < 128 := fin_u8 (P := fun x => (Go.bits .and .u8 x 128 = 0) ↔ x < 128) (by decide +kernel) x h0 h1
theorem u8_and127 (x : Int) (h0 : 0 ≤ x) (h1 : x < 256) : Go.bits .and .u8 x 127 = x % 128 := fin_u8 (P := fun x => Go.bits .and .u8 x 127 = x % 128) (by decide +kernel) x h0 h1
theorem u8_or128 (x : Int) (h0 : 0 ≤ x) (h1 : x < 128) : Go.bits .or .u8 x 128 = x + 128 := fin_u8 (P := fun x => x < 128 → Go.bits .or .u8 x 128 = x + 128) (by decide +kernel) x h0 (by omega) h1
theorem i64_and127 (x : Int) : Go.bits .and .i64 x 127 = x % 128 := by
  show IntKind.i64.wrap (((BitVec.ofInt 64 x &&& BitVec.ofInt 64 127).toNat : Nat) : Int) = x % 128
  rw [BitVec.toNat_and, BitVec.toNat_ofInt, BitVec.toNat_ofInt, show ((127 : Int) % ((2 ^ 64 : Nat) : Int)).toNat = 2 ^ 7 - 1 from by decide, Nat.and_two_pow_sub_one_eq_mod, Go.IntKind.wrap_i64]
  omega
theorem i64_or_disj (a b : Int) (s : Nat) (hs : s ≤ 63) (ha0 : 0 ≤ a) (ha : a < 2 ^ s) (hb : b % 2 ^ s = 0) : Go.bits .or .i64 a b = wrap64 (a + b) := by
  show IntKind.i64.wrap (((BitVec.ofInt 64 a ||| BitVec.ofInt 64 b).toNat : Nat) : Int) = wrap64 (a + b)
  have hp : (2 : Int) ^ s ≤ 2 ^ 63 := by exact_mod_cast Nat.pow_le_pow_right (by decide) hs
  have h63 : (2 : Int) ^ 63 = 9223372036854775808 := by decide
  have hA : (a % ((2 ^ 64 : Nat) : Int)).toNat = a.toNat := by
    rw [show ((2 ^ 64 : Nat) : Int) = 18446744073709551616 from by decide]; omega
  have hd : (2 : Int) ^ s ∣ ((2 ^ 64 : Nat) : Int) := by
    exact_mod_cast Nat.pow_dvd_pow 2 (by omega : s ≤ 64)
  have hB : (b % ((2 ^ 64 : Nat) : Int)) % 2 ^ s = 0 := by rw [Int.emod_emod_of_dvd _ hd]; exact hb
  have hB0 : 0 ≤ b % ((2 ^ 64 : Nat) : Int) := Int.emod_nonneg _ (by decide)
  obtain ⟨B, hBe⟩ := Int.eq_ofNat_of_zero_le hB0
  have hBm : B % 2 ^ s = 0 := by
    rw [hBe] at hB; exact_mod_cast hB
  have hBq : B = 2 ^ s * (B / 2 ^ s) := by have := Nat.div_add_mod B (2 ^ s); omega
  have hAl : a.toNat < 2 ^ s := by
    have h1 : ((a.toNat : Nat) : Int) = a := Int.toNat_of_nonneg ha0
    have h2 : ((a.toNat : Nat) : Int) < ((2 ^ s : Nat) : Int) := by rw [h1]; exact_mod_cast ha
    exact_mod_cast h2
  rw [BitVec.toNat_or, BitVec.toNat_ofInt, BitVec.toNat_ofInt, hA, hBe, Int.toNat_natCast, Nat.or_comm]
  rw [hBq, ← Nat.two_pow_add_eq_or_of_lt hAl, ← hBq, Go.IntKind.wrap_i64]
  unfold wrap64
  have h1 : ((a.toNat : Nat) : Int) = a := Int.toNat_of_nonneg ha0
  rw [show ((2 ^ 64 : Nat) : Int) = 18446744073709551616 from by decide] at hBe
  omega
theorem strOf_toList (xs : List Int) : (strOfNums xs).toList = xs.map fun n => UInt8.ofNat n.toNat := Go.Lib.strOfNums_toList xs
theorem strOf_inj {a b : List Int} (ha : ∀ x ∈ a, 0 ≤ x ∧ x < 256) (hb : ∀ x ∈ b, 0 ≤ x ∧ x < 256) : (strOfNums a).toList = (strOfNums b).toList ↔ a = b := by
  rw [strOf_toList, strOf_toList]
  constructor
  · intro h
    induction a generalizing b with
    | nil => cases b with
      | nil => rfl
      | cons y ys => simp at h
    | cons x xs ih => cases b with
      | nil => simp at h
      | cons y ys =>
        simp only [List.map_cons, List.cons.injEq] at h
        obtain ⟨h1, h2⟩ := h
        have hx := ha x (by simp)
        have hy := hb y (by simp)
        have e : x = y := by
          have h3 := congrArg UInt8.toNat h1
          simp only [UInt8.toNat_ofNat'] at h3
          omega
        rw [e, ih (fun z hz => ha z (by simp [hz])) (fun z hz => hb z (by simp [hz])) h2]
  · intro h; rw [h]
-- what varint.Put, varint.Get and slices.Equal answer (this repo's own)
def enc (n : Int) : List Int := if h : -64 ≤ n ∧ n < 64 then [n % 128] else (n % 128 + 128) :: enc (n / 128)
termination_by n.natAbs
decreasing_by omega
theorem enc_small {n : Int} (h : -64 ≤ n ∧ n < 64) : enc n = [n % 128] := by rw [enc, dif_pos h]
theorem enc_big {n : Int} (h : ¬ (-64 ≤ n ∧ n < 64)) : enc n = (n % 128 + 128) :: enc (n / 128) := by rw [enc, dif_neg h]
theorem enc_ind {P : Int → Prop} (h1 : ∀ n, -64 ≤ n ∧ n < 64 → P n) (h2 : ∀ n, ¬ (-64 ≤ n ∧ n < 64) → P (n / 128) → P n) : ∀ n, P n := by
  intro n
  induction hd : n.natAbs using Nat.strongRecOn generalizing n with
  | _ d ih =>
    by_cases h : -64 ≤ n ∧ n < 64
    · exact h1 n h
    · exact h2 n h (ih (n / 128).natAbs (by omega) _ rfl)
theorem enc_bytes : ∀ n : Int, ∀ x ∈ enc n, 0 ≤ x ∧ x < 256 := by
  refine enc_ind (fun n h x hx => ?_) (fun n h ih x hx => ?_)
  · rw [enc_small h] at hx; simp at hx; omega
  · rw [enc_big h] at hx
    rcases List.mem_cons.1 hx with e | e
    · omega
    · exact ih x e
theorem enc_pos : ∀ n : Int, 1 ≤ (enc n).length := by
  intro n
  by_cases h : -64 ≤ n ∧ n < 64
  · rw [enc_small h]; simp
  · rw [enc_big h]; simp
theorem enc_inj : ∀ n m : Int, enc n = enc m → n = m := by
  refine enc_ind (fun n h => ?_) (fun n h ih => ?_)
  · intro m hm
    by_cases h' : -64 ≤ m ∧ m < 64
    · rw [enc_small h, enc_small h'] at hm; simp at hm; omega
    · rw [enc_small h, enc_big h'] at hm; simp at hm; omega
  · intro m hm
    by_cases h' : -64 ≤ m ∧ m < 64
    · rw [enc_big h, enc_small h'] at hm; simp at hm; omega
    · rw [enc_big h, enc_big h'] at hm
      simp only [List.cons.injEq] at hm
      have := ih _ hm.2
      omega
theorem enc_len_le : ∀ (d : Nat) (n : Int), -(64 * 128 ^ d) ≤ n → n < 64 * 128 ^ d → (enc n).length ≤ d + 1 := by
  intro d
  induction d with
  | zero =>
    intro n h1 h2
    rw [enc_small (by omega)]; simp
  | succ d ih =>
    intro n h1 h2
    by_cases h : -64 ≤ n ∧ n < 64
    · rw [enc_small h]; simp
    · rw [enc_big h]
      have := ih (n / 128) (by rw [Int.pow_succ] at h1; omega) (by rw [Int.pow_succ] at h2; omega)
      simp; omega
theorem enc_len_10 (n : Int) (h1 : -9223372036854775808 ≤ n) (h2 : n ≤ 9223372036854775807) : (enc n).length ≤ 10 :=
  enc_len_le 9 n (by have : (64 : Int) * 128 ^ 9 = 590295810358705651712 := by decide
                     omega) (by have : (64 : Int) * 128 ^ 9 = 590295810358705651712 := by decide
                                omega)

theorem fdiv7 (m : Int) : m.fdiv (2 ^ min (Int.toNat 7) IntKind.i64.bits) = m / 128 := by
  show m.fdiv (2 ^ 7) = m / 128
  rw [Int.fdiv_eq_ediv_of_nonneg _ (by decide)]; rfl
theorem u8_wrap {x : Int} (h : 0 ≤ x ∧ x < 256) : IntKind.u8.wrap x = x := by rw [IntKind.wrap_u8]; omega
def W : V := .unit
theorem s24 (l : List Int) (h : l.length ≤ 140737488355328) : Fix T 24 0 [[u8s l]] = some [[u8s l]] := by
  refine gv24 ?_
  have : (l.map (V.int .u8)).all scalarE = true := by simp [List.all_map, Function.comp_def, scalarE, scalarV]
  simp [cloneφ, u8s, this, h]
theorem wrapmod (m : Int) : IntKind.u8.wrap (m % 128) = m % 128 := u8_wrap (by omega)
/-- one round of Put: the last one, or one more -/
theorem put_rnd (n : Nat) (m : Int) (acc : List Int) (hl : acc.length < 140737488355328) :
    F32_0_b0 (Fix T) n [.int .i64 m, .unit, .list 5 [], u8s acc, .unit] = if -64 ≤ m ∧ m < 64 then some (.ret [[u8s (acc ++ [m % 128])]]) else some (.norm [1, 1, 1, 1, 1] [.int .i64 (m / 128), .unit, .list 5 [], u8s (acc ++ [m % 128 + 128]), .unit]) := by
  have h7 : ((7 : Int) < 0) = False := by simp
  have e1 : m % 128 % 128 = m % 128 := by omega
  have ho := u8_or128 (m % 128) (by omega) (by omega)
  have hz := u8_and64_zero (m % 128) (by omega) (by omega)
  have hs : (acc.length + 1) * 1 ≤ 140737488355328 := by omega
  have ea : acc.map (V.int .u8) ++ [V.int .u8 (m % 128)] = (acc ++ [m % 128]).map (V.int .u8) := by simp
  have eb : acc.map (V.int .u8) ++ [V.int .u8 (m % 128 + 128)] = (acc ++ [m % 128 + 128]).map (V.int .u8) := by simp
  rw [e1] at hz
  unfold u8s
  by_cases h1 : m / 128 = 0
  · by_cases h2 : m % 128 < 64
    · have hc : -64 ≤ m ∧ m < 64 := by omega
      have hz' : (Go.bits .and .u8 (m % 128) 64 = 0) = True := eq_true (hz.2 h2)
      simp only [F32_0_b0, i64_and127, wrapmod, h7, fdiv7, h1, hz', hc, List.length_map, List.length_singleton, List.length_cons, List.length_nil, Nat.zero_add, hs, ea, and_self, false_implies, o_add, o_sub, o_mul, o_quo, o_rem, o_and, o_or, o_eql, o_neq, o_lss, o_leq, o_gtr, o_geq, o_shl, o_shr, o_seql, o_sneq, o_beql, o_bneq, o_ieql, o_ineq, o_neql, o_nneq, o_not, o_neg, o_notv, o_pickT, o_pickF, o_pick, o_conv, o_len, o_lens, o_idxN, o_eix, o_ldiI, o_ldiI0, o_slcL, o_slcH, o_app, o_mk1, o_ifc, o_str, o_byt, c_int, c_bool, c_str, c_list, c_agg, c_iface, c_nilI, c_unit2, c_unit, c_true, i_te, g_T, g_F, g_u, b_norm, b_exitN, b_exitI, Nat.one_ne_zero, Nat.zero_ne_one, Nat.reduceEqDiff, b_ret, b_none, b_ite, a_0, a_1, a_2, a_3, a_4, a_5, a_6, a_7, a_8, a_9, a_10, a_11, a_12, a_13, a_14, a_15, a_16, a_17, a_18, a_19, a_20, a_21, a_22, a_23, a_24, f_c0, f_c1, f_c2, f_c3, f_c4, f_c5, f_c6, f_c7, f_c8, f_c9, f_c10, f_c11, f_c12, f_c13, f_c14, f_c15, f_c16, p_nil, p_cons, pk_of, Option.bind_some, Option.bind_none, List.getElem?_cons_zero, List.getElem?_cons_succ, decide_eq_true_eq, if_true, if_false, Bool.not_eq_true', Bool.false_eq_true, Bool.true_eq_false, reduceCtorEq, ne_eq, not_false_eq_true, not_true_eq_false, decide_true, decide_false, Int.toNat_natCast, Int.natCast_zero, Bool.not_true, Bool.not_false]
    · have hc : (-64 ≤ m ∧ m < 64) = False := eq_false (by omega)
      have hz' : (Go.bits .and .u8 (m % 128) 64 = 0) = False := eq_false (fun e => h2 (hz.1 e))
      have h3 : ((0 : Int) = -1) = False := by simp
      simp only [F32_0_b0, i64_and127, wrapmod, h7, fdiv7, h1, hz', hc, h3, ho, List.length_map, List.length_singleton, List.length_cons, List.length_nil, Nat.zero_add, hs, eb, and_self, false_implies, o_add, o_sub, o_mul, o_quo, o_rem, o_and, o_or, o_eql, o_neq, o_lss, o_leq, o_gtr, o_geq, o_shl, o_shr, o_seql, o_sneq, o_beql, o_bneq, o_ieql, o_ineq, o_neql, o_nneq, o_not, o_neg, o_notv, o_pickT, o_pickF, o_pick, o_conv, o_len, o_lens, o_idxN, o_eix, o_ldiI, o_ldiI0, o_slcL, o_slcH, o_app, o_mk1, o_ifc, o_str, o_byt, c_int, c_bool, c_str, c_list, c_agg, c_iface, c_nilI, c_unit2, c_unit, c_true, i_te, g_T, g_F, g_u, b_norm, b_exitN, b_exitI, Nat.one_ne_zero, Nat.zero_ne_one, Nat.reduceEqDiff, b_ret, b_none, b_ite, a_0, a_1, a_2, a_3, a_4, a_5, a_6, a_7, a_8, a_9, a_10, a_11, a_12, a_13, a_14, a_15, a_16, a_17, a_18, a_19, a_20, a_21, a_22, a_23, a_24, f_c0, f_c1, f_c2, f_c3, f_c4, f_c5, f_c6, f_c7, f_c8, f_c9, f_c10, f_c11, f_c12, f_c13, f_c14, f_c15, f_c16, p_nil, p_cons, pk_of, Option.bind_some, Option.bind_none, List.getElem?_cons_zero, List.getElem?_cons_succ, decide_eq_true_eq, if_true, if_false, Bool.not_eq_true', Bool.false_eq_true, Bool.true_eq_false, reduceCtorEq, ne_eq, not_false_eq_true, not_true_eq_false, decide_true, decide_false, Int.toNat_natCast, Int.natCast_zero, Bool.not_true, Bool.not_false]
  · have h1' : (m / 128 = 0) = False := eq_false h1
    by_cases h3 : m / 128 = -1
    · have h3' : (m / 128 = -1) = True := eq_true h3
      by_cases h2 : m % 128 < 64
      · have hc : (-64 ≤ m ∧ m < 64) = False := eq_false (by omega)
        have hz' : (Go.bits .and .u8 (m % 128) 64 = 0) = True := eq_true (hz.2 h2)
        simp only [F32_0_b0, i64_and127, wrapmod, h7, fdiv7, h1', hz', hc, h3', ho, List.length_map, List.length_singleton, List.length_cons, List.length_nil, Nat.zero_add, hs, eb, and_self, false_implies, o_add, o_sub, o_mul, o_quo, o_rem, o_and, o_or, o_eql, o_neq, o_lss, o_leq, o_gtr, o_geq, o_shl, o_shr, o_seql, o_sneq, o_beql, o_bneq, o_ieql, o_ineq, o_neql, o_nneq, o_not, o_neg, o_notv, o_pickT, o_pickF, o_pick, o_conv, o_len, o_lens, o_idxN, o_eix, o_ldiI, o_ldiI0, o_slcL, o_slcH, o_app, o_mk1, o_ifc, o_str, o_byt, c_int, c_bool, c_str, c_list, c_agg, c_iface, c_nilI, c_unit2, c_unit, c_true, i_te, g_T, g_F, g_u, b_norm, b_exitN, b_exitI, Nat.one_ne_zero, Nat.zero_ne_one, Nat.reduceEqDiff, b_ret, b_none, b_ite, a_0, a_1, a_2, a_3, a_4, a_5, a_6, a_7, a_8, a_9, a_10, a_11, a_12, a_13, a_14, a_15, a_16, a_17, a_18, a_19, a_20, a_21, a_22, a_23, a_24, f_c0, f_c1, f_c2, f_c3, f_c4, f_c5, f_c6, f_c7, f_c8, f_c9, f_c10, f_c11, f_c12, f_c13, f_c14, f_c15, f_c16, p_nil, p_cons, pk_of, Option.bind_some, Option.bind_none, List.getElem?_cons_zero, List.getElem?_cons_succ, decide_eq_true_eq, if_true, if_false, Bool.not_eq_true', Bool.false_eq_true, Bool.true_eq_false, reduceCtorEq, ne_eq, not_false_eq_true, not_true_eq_false, decide_true, decide_false, Int.toNat_natCast, Int.natCast_zero, Bool.not_true, Bool.not_false]
      · have hc : (-64 ≤ m ∧ m < 64) = True := eq_true (by omega)
        have hz' : (Go.bits .and .u8 (m % 128) 64 = 0) = False := eq_false (fun e => h2 (hz.1 e))
        simp only [F32_0_b0, i64_and127, wrapmod, h7, fdiv7, h1', hz', hc, h3', List.length_map, List.length_singleton, List.length_cons, List.length_nil, Nat.zero_add, hs, ea, and_self, false_implies, o_add, o_sub, o_mul, o_quo, o_rem, o_and, o_or, o_eql, o_neq, o_lss, o_leq, o_gtr, o_geq, o_shl, o_shr, o_seql, o_sneq, o_beql, o_bneq, o_ieql, o_ineq, o_neql, o_nneq, o_not, o_neg, o_notv, o_pickT, o_pickF, o_pick, o_conv, o_len, o_lens, o_idxN, o_eix, o_ldiI, o_ldiI0, o_slcL, o_slcH, o_app, o_mk1, o_ifc, o_str, o_byt, c_int, c_bool, c_str, c_list, c_agg, c_iface, c_nilI, c_unit2, c_unit, c_true, i_te, g_T, g_F, g_u, b_norm, b_exitN, b_exitI, Nat.one_ne_zero, Nat.zero_ne_one, Nat.reduceEqDiff, b_ret, b_none, b_ite, a_0, a_1, a_2, a_3, a_4, a_5, a_6, a_7, a_8, a_9, a_10, a_11, a_12, a_13, a_14, a_15, a_16, a_17, a_18, a_19, a_20, a_21, a_22, a_23, a_24, f_c0, f_c1, f_c2, f_c3, f_c4, f_c5, f_c6, f_c7, f_c8, f_c9, f_c10, f_c11, f_c12, f_c13, f_c14, f_c15, f_c16, p_nil, p_cons, pk_of, Option.bind_some, Option.bind_none, List.getElem?_cons_zero, List.getElem?_cons_succ, decide_eq_true_eq, if_true, if_false, Bool.not_eq_true', Bool.false_eq_true, Bool.true_eq_false, reduceCtorEq, ne_eq, not_false_eq_true, not_true_eq_false, decide_true, decide_false, Int.toNat_natCast, Int.natCast_zero, Bool.not_true, Bool.not_false]
    · have h3' : (m / 128 = -1) = False := eq_false h3
      have hc : (-64 ≤ m ∧ m < 64) = False := eq_false (by omega)
      simp only [F32_0_b0, i64_and127, wrapmod, h7, fdiv7, h1', hc, h3', ho, List.length_map, List.length_singleton, List.length_cons, List.length_nil, Nat.zero_add, hs, eb, and_self, false_implies, o_add, o_sub, o_mul, o_quo, o_rem, o_and, o_or, o_eql, o_neq, o_lss, o_leq, o_gtr, o_geq, o_shl, o_shr, o_seql, o_sneq, o_beql, o_bneq, o_ieql, o_ineq, o_neql, o_nneq, o_not, o_neg, o_notv, o_pickT, o_pickF, o_pick, o_conv, o_len, o_lens, o_idxN, o_eix, o_ldiI, o_ldiI0, o_slcL, o_slcH, o_app, o_mk1, o_ifc, o_str, o_byt, c_int, c_bool, c_str, c_list, c_agg, c_iface, c_nilI, c_unit2, c_unit, c_true, i_te, g_T, g_F, g_u, b_norm, b_exitN, b_exitI, Nat.one_ne_zero, Nat.zero_ne_one, Nat.reduceEqDiff, b_ret, b_none, b_ite, a_0, a_1, a_2, a_3, a_4, a_5, a_6, a_7, a_8, a_9, a_10, a_11, a_12, a_13, a_14, a_15, a_16, a_17, a_18, a_19, a_20, a_21, a_22, a_23, a_24, f_c0, f_c1, f_c2, f_c3, f_c4, f_c5, f_c6, f_c7, f_c8, f_c9, f_c10, f_c11, f_c12, f_c13, f_c14, f_c15, f_c16, p_nil, p_cons, pk_of, Option.bind_some, Option.bind_none, List.getElem?_cons_zero, List.getElem?_cons_succ, decide_eq_true_eq, if_true, if_false, Bool.not_eq_true', Bool.false_eq_true, Bool.true_eq_false, reduceCtorEq, ne_eq, not_false_eq_true, not_true_eq_false, decide_true, decide_false, Int.toNat_natCast, Int.natCast_zero, Bool.not_true, Bool.not_false]
theorem put_loop (n : Nat) : ∀ (d : Nat) (m : Int), -(64 * 128 ^ d) ≤ m → m < 64 * 128 ^ d → ∀ (fuel : Nat) (acc : List Int), d < fuel → acc.length + d < 140737488355328 →
    lpV [1, 1, 1, 1, 1] (F32_0_b0 (Fix T) n) fuel [.int .i64 m, .unit, .list 5 [], u8s acc, .unit] = some (.ret [[u8s (acc ++ enc m)]]) := by
  intro d
  induction d with
  | zero =>
    intro m h1 h2 fuel acc hf hl
    obtain ⟨fuel, rfl⟩ : ∃ k, fuel = k + 1 := ⟨fuel - 1, by omega⟩
    have h := put_rnd n m acc (by omega)
    have hc : -64 ≤ m ∧ m < 64 := by omega
    rw [if_pos hc] at h
    rw [lp_ret h, enc_small hc]
  | succ d ih =>
    intro m h1 h2 fuel acc hf hl
    obtain ⟨fuel, rfl⟩ : ∃ k, fuel = k + 1 := ⟨fuel - 1, by omega⟩
    have h := put_rnd n m acc (by omega)
    by_cases hc : -64 ≤ m ∧ m < 64
    · rw [if_pos hc] at h
      rw [lp_ret h, enc_small hc]
    · rw [if_neg hc] at h
      rw [lp_norm h, ih (m / 128) (by rw [Int.pow_succ] at h1; omega) (by rw [Int.pow_succ] at h2; omega) fuel _ (by omega) (by simp; omega), enc_big hc]
      simp
theorem s32 (acc : List Int) (m : Int) (h1 : -9223372036854775808 ≤ m) (h2 : m ≤ 9223372036854775807) (hl : acc.length < 140737488355000) : Fix T 32 0 [[u8s acc], [.int .i64 m]] = some [[u8s (acc ++ enc m)]] := by
  refine e32_0 10 ?_
  have hp : (64 : Int) * 128 ^ 9 = 590295810358705651712 := by decide
  have h := put_loop 10 9 m (by omega) (by omega) 10 acc (by omega) (by omega)
  have hc := s24 acc (by omega)
  unfold u8s at h hc ⊢
  simp only [F32_0, hc, h, o_add, o_sub, o_mul, o_quo, o_rem, o_and, o_or, o_eql, o_neq, o_lss, o_leq, o_gtr, o_geq, o_shl, o_shr, o_seql, o_sneq, o_beql, o_bneq, o_ieql, o_ineq, o_neql, o_nneq, o_not, o_neg, o_notv, o_pickT, o_pickF, o_pick, o_conv, o_len, o_lens, o_idxN, o_eix, o_ldiI, o_ldiI0, o_slcL, o_slcH, o_app, o_mk1, o_ifc, o_str, o_byt, c_int, c_bool, c_str, c_list, c_agg, c_iface, c_nilI, c_unit2, c_unit, c_true, i_te, g_T, g_F, g_u, b_norm, b_exitN, b_exitI, Nat.one_ne_zero, Nat.zero_ne_one, Nat.reduceEqDiff, b_ret, b_none, b_ite, a_0, a_1, a_2, a_3, a_4, a_5, a_6, a_7, a_8, a_9, a_10, a_11, a_12, a_13, a_14, a_15, a_16, a_17, a_18, a_19, a_20, a_21, a_22, a_23, a_24, f_c0, f_c1, f_c2, f_c3, f_c4, f_c5, f_c6, f_c7, f_c8, f_c9, f_c10, f_c11, f_c12, f_c13, f_c14, f_c15, f_c16, p_nil, p_cons, pk_of, Option.bind_some, Option.bind_none, List.getElem?_cons_zero, List.getElem?_cons_succ, decide_eq_true_eq, if_true, if_false, Bool.not_eq_true', Bool.false_eq_true, Bool.true_eq_false, reduceCtorEq, ne_eq, not_false_eq_true, not_true_eq_false, decide_true, decide_false, Int.toNat_natCast, Int.natCast_zero, Bool.not_true, Bool.not_false]
end Go.Proofs.YtogfkdpgkloljaaDoorVs
set_option linter.unusedVariables false
set_option linter.unusedSimpArgs false
set_option maxRecDepth 100000
namespace Go.Proofs.YtogfkdpgkloljaaDoorVs
open Go.RowKit (wrap64)
theorem wrap_in {x : Int} (h1 : -9223372036854775808 ≤ x) (h2 : x ≤ 9223372036854775807) : wrap64 x = x := by unfold wrap64; omega
theorem wrap_succ (i : Nat) (h : i ≤ 140737488355328) : wrap64 ((i : Int) + 1) = ((i + 1 : Nat) : Int) := by unfold wrap64; omega
theorem pow_le_63 {s : Nat} (hs : s ≤ 63) : (2 : Int) ^ s ≤ 9223372036854775808 := by
  have h : (2 : Int) ^ s ≤ 2 ^ 63 := by exact_mod_cast Nat.pow_le_pow_right (by decide) hs
  have h63 : (2 : Int) ^ 63 = 9223372036854775808 := by decide
  omega
theorem pow_pos' (s : Nat) : (0 : Int) < 2 ^ s := by exact_mod_cast Nat.two_pow_pos s
theorem wrap_mod_pow (x : Int) (s : Nat) (hs : s ≤ 63) : (wrap64 (x * 2 ^ s)) % 2 ^ s = 0 := by
  have hd : (2 : Int) ^ s ∣ 18446744073709551616 := by
    have h : (2 : Int) ^ s ∣ ((2 ^ 64 : Nat) : Int) := by exact_mod_cast Nat.pow_dvd_pow 2 (by omega : s ≤ 64)
    rwa [show ((2 ^ 64 : Nat) : Int) = 18446744073709551616 from by decide] at h
  have e : wrap64 (x * 2 ^ s) = x * 2 ^ s - 18446744073709551616 * ((x * 2 ^ s + 9223372036854775808) / 18446744073709551616) := by
    unfold wrap64; omega
  rw [e]
  obtain ⟨q, hq⟩ := hd
  rw [hq, Int.mul_comm x, Int.mul_assoc, ← Int.mul_sub]
  exact Int.mul_emod_right _ _
theorem wrap_add_wrap (a b : Int) : wrap64 (a + wrap64 b) = wrap64 (a + b) := by unfold wrap64; omega
theorem emod_step (n p : Int) (hp : 0 < p) : n % (p * 128) = n % p + (n / p % 128) * p := by
  have h1 := Int.mul_ediv_add_emod n p
  have h2 := Int.mul_ediv_add_emod (n / p) 128
  have h3 := Int.emod_nonneg n (Int.ne_of_gt hp)
  have h4 := Int.emod_lt_of_pos n hp
  have h5 := Int.emod_nonneg (n / p) (show (128 : Int) ≠ 0 by decide)
  have h6 := Int.emod_lt_of_pos (n / p) (show (0 : Int) < 128 by decide)
  have e : n = (n % p + (n / p % 128) * p) + (p * 128) * (n / p / 128) := by
    conv => lhs; rw [← h1, ← h2]
    rw [Int.mul_add, Int.mul_assoc, Int.mul_comm p (n / p % 128)]
    omega
  have h7 : (n / p % 128) * p ≤ 127 * p := Int.mul_le_mul_of_nonneg_right (by omega) (Int.le_of_lt hp)
  have h8 : 0 ≤ (n / p % 128) * p := Int.mul_nonneg h5 (Int.le_of_lt hp)
  conv => lhs; rw [e]
  rw [Int.add_mul_emod_self_left]
  exact Int.emod_eq_of_lt (by omega) (by omega)
theorem pow7 (i : Nat) : (2 : Int) ^ (7 * (i + 1)) = 2 ^ (7 * i) * 128 := by
  rw [show 7 * (i + 1) = 7 * i + 7 from by omega, Int.pow_add]; rfl
def valOf (a c : Int) (i : Nat) : Int := if c % 128 < 64 then wrap64 (a + c * 2 ^ (7 * i)) else if i < 9 then wrap64 (a + c * 2 ^ (7 * i) - 2 ^ (7 * (i + 1))) else wrap64 (a + c * 2 ^ (7 * i))
theorem u64_wrap (x : Int) : IntKind.u64.wrap x = x % 18446744073709551616 := by simp [IntKind.wrap, IntKind.bits, IntKind.signed]
theorem wrap_u (x : Int) : wrap64 (x % 18446744073709551616) = wrap64 x := by unfold wrap64; omega
theorem wrap_rng (x : Int) : -9223372036854775808 ≤ wrap64 x ∧ wrap64 x ≤ 9223372036854775807 := by unfold wrap64; omega
theorem valOf_rng (a c : Int) (i : Nat) : -9223372036854775808 ≤ valOf a c i ∧ valOf a c i ≤ 9223372036854775807 := by
  unfold valOf
  split
  · exact wrap_rng _
  · split
    · exact wrap_rng _
    · exact wrap_rng _

/-- the number that bytes begin with -/
def gtS (whole : List Int) : List Int → Nat → Int → Option (Int × Nat)
  | [], _, _ => none
  | c :: r, i, a => if 10 ≤ i then none else if c < 128 then (if enc (valOf a c i) = whole.take (i + 1) then some (valOf a c i, i + 1) else none) else gtS whole r (i + 1) (wrap64 (a + (c % 128) * 2 ^ (7 * i)))
def getS (l : List Int) : Option (Int × Nat) := gtS l l 0 0
def getV : Option (Int × Nat) → List (List V)
  | some (n, k) => [[.int .i64 n], [.int .i64 k], [.nilI]]
  | none => [[.int .i64 0], [.int .i64 0], [.iface 62 (.int .i64 2)]]
def stG (i : Nat) (a : Int) : List V := [.int .u64 ((7 * i : Nat) : Int), .int .i64 a, .int .i64 0, .int .i64 0, .nilI, .int .i64 i]
theorem shlG (c : Int) (s : Nat) (hs : s ≤ 63) : IntKind.i64.wrap (c * 2 ^ min s IntKind.i64.bits) = wrap64 (c * 2 ^ s) := by
  have : min s IntKind.i64.bits = s := by simp [IntKind.bits]; omega
  rw [this, IntKind.wrap_i64]; unfold wrap64; omega
theorem orG (a c : Int) (s : Nat) (hs : s ≤ 63) (h0 : 0 ≤ a) (h1 : a < 2 ^ s) : Go.bits .or .i64 a (wrap64 (c * 2 ^ s)) = wrap64 (a + c * 2 ^ s) := by
  rw [i64_or_disj a _ s hs h0 h1 (wrap_mod_pow c s hs), wrap_add_wrap]
theorem get_rnd (n : Nat) (l : List Int) (i : Nat) (a : Int) (hl : l.length ≤ 140737488351232) (hb : ∀ x ∈ l, 0 ≤ x ∧ x < 256) (ha : i ≤ 9 → 0 ≤ a ∧ a < 2 ^ (7 * i)) (hi10 : i ≤ 10) :
    F26_0_b0 (Fix T) n (u8s l) (.int .i64 l.length) (stG i a) = match l.drop i with
      | [] => some (.exit 0 [1, 1, 1, 1, 1, 1] [.int .i64 0, .int .i64 0, .nilI, .int .i64 a, .int .u64 ((7 * i : Nat) : Int), .int .i64 i])
      | c :: r => if 10 ≤ i then some (.exit 0 [1, 1, 1, 1, 1, 1] [.int .i64 0, .int .i64 0, .nilI, .int .i64 a, .int .u64 ((7 * i : Nat) : Int), .int .i64 i])
          else if c < 128 then (if enc (valOf a c i) = l.take (i + 1) then some (.ret [[.int .i64 (valOf a c i)], [.int .i64 ((i + 1 : Nat) : Int)], [.nilI]]) else some (.exit 0 [1, 1, 1, 1, 1, 1] [.int .i64 0, .int .i64 0, .nilI, .int .i64 (valOf a c i), .int .u64 ((7 * (i + 1) : Nat) : Int), .int .i64 i]))
          else some (.norm [1, 1, 1, 1, 1, 1] (stG (i + 1) (wrap64 (a + (c % 128) * 2 ^ (7 * i))))) := by
  have hu : IntKind.u64.wrap (((7 * i : Nat) : Int) + 7) = ((7 * (i + 1) : Nat) : Int) := by rw [u64_wrap]; omega
  have hw : IntKind.i64.wrap ((i : Int) + 1) = ((i + 1 : Nat) : Int) := w_succ (by omega)
  cases hd : l.drop i with
  | nil =>
    have hle : l.length ≤ i := by
      have := congrArg List.length hd
      simp at this; omega
    have h1 : ((i : Int) < l.length) = False := eq_false (by omega)
    simp only [F26_0_b0, stG, u8s, h1, o_add, o_sub, o_mul, o_quo, o_rem, o_and, o_or, o_eql, o_neq, o_lss, o_leq, o_gtr, o_geq, o_shl, o_shr, o_seql, o_sneq, o_beql, o_bneq, o_ieql, o_ineq, o_neql, o_nneq, o_not, o_neg, o_notv, o_pickT, o_pickF, o_pick, o_conv, o_len, o_lens, o_idxN, o_eix, o_ldiI, o_ldiI0, o_slcL, o_slcH, o_app, o_mk1, o_ifc, o_str, o_byt, c_int, c_bool, c_str, c_list, c_agg, c_iface, c_nilI, c_unit2, c_unit, c_true, i_te, g_T, g_F, g_u, b_norm, b_exitN, b_exitI, Nat.one_ne_zero, Nat.zero_ne_one, Nat.reduceEqDiff, b_ret, b_none, b_ite, a_0, a_1, a_2, a_3, a_4, a_5, a_6, a_7, a_8, a_9, a_10, a_11, a_12, a_13, a_14, a_15, a_16, a_17, a_18, a_19, a_20, a_21, a_22, a_23, a_24, f_c0, f_c1, f_c2, f_c3, f_c4, f_c5, f_c6, f_c7, f_c8, f_c9, f_c10, f_c11, f_c12, f_c13, f_c14, f_c15, f_c16, p_nil, p_cons, pk_of, Option.bind_some, Option.bind_none, List.getElem?_cons_zero, List.getElem?_cons_succ, decide_eq_true_eq, if_true, if_false, Bool.not_eq_true', Bool.false_eq_true, Bool.true_eq_false, reduceCtorEq, ne_eq, not_false_eq_true, not_true_eq_false, decide_true, decide_false, Int.toNat_natCast, Int.natCast_zero, Bool.not_true, Bool.not_false]
  | cons c r =>
    have hlt : i < l.length := by
      rcases Nat.lt_or_ge i l.length with h | h
      · exact h
      · rw [List.drop_of_length_le h] at hd; cases hd
    have hc : l[i] = c := by
      have := List.drop_eq_getElem_cons hlt
      rw [this] at hd
      exact (List.cons.inj hd).1
    have h1 : ((i : Int) < l.length) = True := eq_true (by omega)
    have ea : (l.map (V.int .u8))[i]? = some (.int .u8 c) := by simp [hlt, hc]
    have hcb := hb c (by rw [← hc]; exact List.getElem_mem hlt)
    by_cases h10 : 10 ≤ i
    · have h2 : ((64 : Int) ≤ ((7 * i : Nat) : Int)) = True := eq_true (by omega)
      simp only [F26_0_b0, stG, u8s, h1, h2, ea, h10, o_add, o_sub, o_mul, o_quo, o_rem, o_and, o_or, o_eql, o_neq, o_lss, o_leq, o_gtr, o_geq, o_shl, o_shr, o_seql, o_sneq, o_beql, o_bneq, o_ieql, o_ineq, o_neql, o_nneq, o_not, o_neg, o_notv, o_pickT, o_pickF, o_pick, o_conv, o_len, o_lens, o_idxN, o_eix, o_ldiI, o_ldiI0, o_slcL, o_slcH, o_app, o_mk1, o_ifc, o_str, o_byt, c_int, c_bool, c_str, c_list, c_agg, c_iface, c_nilI, c_unit2, c_unit, c_true, i_te, g_T, g_F, g_u, b_norm, b_exitN, b_exitI, Nat.one_ne_zero, Nat.zero_ne_one, Nat.reduceEqDiff, b_ret, b_none, b_ite, a_0, a_1, a_2, a_3, a_4, a_5, a_6, a_7, a_8, a_9, a_10, a_11, a_12, a_13, a_14, a_15, a_16, a_17, a_18, a_19, a_20, a_21, a_22, a_23, a_24, f_c0, f_c1, f_c2, f_c3, f_c4, f_c5, f_c6, f_c7, f_c8, f_c9, f_c10, f_c11, f_c12, f_c13, f_c14, f_c15, f_c16, p_nil, p_cons, pk_of, Option.bind_some, Option.bind_none, List.getElem?_cons_zero, List.getElem?_cons_succ, decide_eq_true_eq, if_true, if_false, Bool.not_eq_true', Bool.false_eq_true, Bool.true_eq_false, reduceCtorEq, ne_eq, not_false_eq_true, not_true_eq_false, decide_true, decide_false, Int.toNat_natCast, Int.natCast_zero, Bool.not_true, Bool.not_false]
    · have h2 : ((64 : Int) ≤ ((7 * i : Nat) : Int)) = False := eq_false (by omega)
      obtain ⟨ha0, ha1⟩ := ha (by omega)
      have h127 := u8_and127 c hcb.1 hcb.2
      have hcv : IntKind.i64.wrap (c % 128) = c % 128 := w_i64 (by omega)
      have hneg : (((7 * i : Nat) : Int) < 0) = False := eq_false (by omega)
      have hsh := shlG (c % 128) (7 * i) (by omega)
      have hor := orG a (c % 128) (7 * i) (by omega) ha0 ha1
      have h128 := u8_and128_zero c hcb.1 hcb.2
      by_cases hc128 : c < 128
      · have e0 : c % 128 = c := by omega
        rw [e0] at h127 hcv hsh hor
        have h3 : (Go.bits .and .u8 c 128 = 0) = True := eq_true (h128.2 hc128)
        have h64 := u8_and64_zero c hcb.1 hcb.2
        rw [e0] at h64
        have hxr := valOf_rng a c i
        have hP : Fix T 32 0 [[.list 5 []], [.int .i64 (valOf a c i)]] = some [[.list 5 ((enc (valOf a c i)).map (V.int .u8))]] := by
          have := s32 [] (valOf a c i) hxr.1 hxr.2 (by simp)
          simpa [u8s] using this
        have hE : Fix T 33 0 [[.list 5 ((enc (valOf a c i)).map (V.int .u8))], [.list 5 ((l.map (V.int .u8)).take (i + 1))]] = some [[.bool (decide (enc (valOf a c i) = l.take (i + 1)))]] := by
          have := s33 (enc (valOf a c i)) (l.take (i + 1)) (by have := enc_len_10 (valOf a c i) hxr.1 hxr.2; omega)
          simpa [u8s, List.map_take] using this
        have hS : ((0 : Int) ≤ ((i + 1 : Nat) : Int) ∧ ((i + 1 : Nat) : Int) ≤ (l.length : Int)) = True := eq_true (by omega)
        have hneg2 : (((7 * (i + 1) : Nat) : Int) < 0) = False := eq_false (by omega)
        have hpp := pow_pos' (7 * i)
        by_cases hs : c < 64
        · have h4 : (Go.bits .and .u8 c 64 = 0) = True := eq_true (h64.2 hs)
          have hv : wrap64 (a + c * 2 ^ (7 * i)) = valOf a c i := by simp only [valOf, e0, if_pos hs]
          rw [hv] at hor
          simp only [F26_0_b0, stG, u8s, h1, h2, ea, h127, e0, hcv, hneg, hsh, hor, hu, hw, h3, h4, hc128, h10, hP, hE, hS, List.length_map, o_add, o_sub, o_mul, o_quo, o_rem, o_and, o_or, o_eql, o_neq, o_lss, o_leq, o_gtr, o_geq, o_shl, o_shr, o_seql, o_sneq, o_beql, o_bneq, o_ieql, o_ineq, o_neql, o_nneq, o_not, o_neg, o_notv, o_pickT, o_pickF, o_pick, o_conv, o_len, o_lens, o_idxN, o_eix, o_ldiI, o_ldiI0, o_slcL, o_slcH, o_app, o_mk1, o_ifc, o_str, o_byt, c_int, c_bool, c_str, c_list, c_agg, c_iface, c_nilI, c_unit2, c_unit, c_true, i_te, g_T, g_F, g_u, b_norm, b_exitN, b_exitI, Nat.one_ne_zero, Nat.zero_ne_one, Nat.reduceEqDiff, b_ret, b_none, b_ite, a_0, a_1, a_2, a_3, a_4, a_5, a_6, a_7, a_8, a_9, a_10, a_11, a_12, a_13, a_14, a_15, a_16, a_17, a_18, a_19, a_20, a_21, a_22, a_23, a_24, f_c0, f_c1, f_c2, f_c3, f_c4, f_c5, f_c6, f_c7, f_c8, f_c9, f_c10, f_c11, f_c12, f_c13, f_c14, f_c15, f_c16, p_nil, p_cons, pk_of, Option.bind_some, Option.bind_none, List.getElem?_cons_zero, List.getElem?_cons_succ, decide_eq_true_eq, if_true, if_false, Bool.not_eq_true', Bool.false_eq_true, Bool.true_eq_false, reduceCtorEq, ne_eq, not_false_eq_true, not_true_eq_false, decide_true, decide_false, Int.toNat_natCast, Int.natCast_zero, Bool.not_true, Bool.not_false]
          by_cases hq : enc (valOf a c i) = l.take (i + 1)
          · simp only [hq, o_add, o_sub, o_mul, o_quo, o_rem, o_and, o_or, o_eql, o_neq, o_lss, o_leq, o_gtr, o_geq, o_shl, o_shr, o_seql, o_sneq, o_beql, o_bneq, o_ieql, o_ineq, o_neql, o_nneq, o_not, o_neg, o_notv, o_pickT, o_pickF, o_pick, o_conv, o_len, o_lens, o_idxN, o_eix, o_ldiI, o_ldiI0, o_slcL, o_slcH, o_app, o_mk1, o_ifc, o_str, o_byt, c_int, c_bool, c_str, c_list, c_agg, c_iface, c_nilI, c_unit2, c_unit, c_true, i_te, g_T, g_F, g_u, b_norm, b_exitN, b_exitI, Nat.one_ne_zero, Nat.zero_ne_one, Nat.reduceEqDiff, b_ret, b_none, b_ite, a_0, a_1, a_2, a_3, a_4, a_5, a_6, a_7, a_8, a_9, a_10, a_11, a_12, a_13, a_14, a_15, a_16, a_17, a_18, a_19, a_20, a_21, a_22, a_23, a_24, f_c0, f_c1, f_c2, f_c3, f_c4, f_c5, f_c6, f_c7, f_c8, f_c9, f_c10, f_c11, f_c12, f_c13, f_c14, f_c15, f_c16, p_nil, p_cons, pk_of, Option.bind_some, Option.bind_none, List.getElem?_cons_zero, List.getElem?_cons_succ, decide_eq_true_eq, if_true, if_false, Bool.not_eq_true', Bool.false_eq_true, Bool.true_eq_false, reduceCtorEq, ne_eq, not_false_eq_true, not_true_eq_false, decide_true, decide_false, Int.toNat_natCast, Int.natCast_zero, Bool.not_true, Bool.not_false]
          · simp only [hq, o_add, o_sub, o_mul, o_quo, o_rem, o_and, o_or, o_eql, o_neq, o_lss, o_leq, o_gtr, o_geq, o_shl, o_shr, o_seql, o_sneq, o_beql, o_bneq, o_ieql, o_ineq, o_neql, o_nneq, o_not, o_neg, o_notv, o_pickT, o_pickF, o_pick, o_conv, o_len, o_lens, o_idxN, o_eix, o_ldiI, o_ldiI0, o_slcL, o_slcH, o_app, o_mk1, o_ifc, o_str, o_byt, c_int, c_bool, c_str, c_list, c_agg, c_iface, c_nilI, c_unit2, c_unit, c_true, i_te, g_T, g_F, g_u, b_norm, b_exitN, b_exitI, Nat.one_ne_zero, Nat.zero_ne_one, Nat.reduceEqDiff, b_ret, b_none, b_ite, a_0, a_1, a_2, a_3, a_4, a_5, a_6, a_7, a_8, a_9, a_10, a_11, a_12, a_13, a_14, a_15, a_16, a_17, a_18, a_19, a_20, a_21, a_22, a_23, a_24, f_c0, f_c1, f_c2, f_c3, f_c4, f_c5, f_c6, f_c7, f_c8, f_c9, f_c10, f_c11, f_c12, f_c13, f_c14, f_c15, f_c16, p_nil, p_cons, pk_of, Option.bind_some, Option.bind_none, List.getElem?_cons_zero, List.getElem?_cons_succ, decide_eq_true_eq, if_true, if_false, Bool.not_eq_true', Bool.false_eq_true, Bool.true_eq_false, reduceCtorEq, ne_eq, not_false_eq_true, not_true_eq_false, decide_true, decide_false, Int.toNat_natCast, Int.natCast_zero, Bool.not_true, Bool.not_false]
        · have h4 : (Go.bits .and .u8 c 64 = 0) = False := eq_false (fun e => hs (h64.1 e))
          by_cases h9 : i < 9
          · have h5 : (((7 * (i + 1) : Nat) : Int) < 64) = True := eq_true (by omega)
            have hp := pow_le_63 (s := 7 * (i + 1)) (by omega)
            have e7 := pow7 i
            have hcm : c * 2 ^ (7 * i) ≤ 127 * 2 ^ (7 * i) := Int.mul_le_mul_of_nonneg_right (by omega) (Int.le_of_lt hpp)
            have hc0 : 0 ≤ c * 2 ^ (7 * i) := Int.mul_nonneg hcb.1 (Int.le_of_lt hpp)
            have hin : wrap64 (a + c * 2 ^ (7 * i)) = a + c * 2 ^ (7 * i) := by unfold wrap64; omega
            have hsh2 := shlG (-1) (7 * (i + 1)) (by omega)
            have hor2 := orG (a + c * 2 ^ (7 * i)) (-1) (7 * (i + 1)) (by omega) (by omega) (by omega)
            have hv : wrap64 (a + c * 2 ^ (7 * i) + -1 * 2 ^ (7 * (i + 1))) = valOf a c i := by
              simp only [valOf, e0, if_neg hs, if_pos h9]
              rw [show ∀ x y : Int, x + -1 * y = x - y from fun x y => by omega]
            rw [hin] at hor
            rw [hv] at hor2
            simp only [F26_0_b0, stG, u8s, h1, h2, ea, h127, e0, hcv, hneg, hneg2, hsh, hor, hsh2, hor2, hu, hw, h3, h4, h5, hc128, h10, hP, hE, hS, List.length_map, o_add, o_sub, o_mul, o_quo, o_rem, o_and, o_or, o_eql, o_neq, o_lss, o_leq, o_gtr, o_geq, o_shl, o_shr, o_seql, o_sneq, o_beql, o_bneq, o_ieql, o_ineq, o_neql, o_nneq, o_not, o_neg, o_notv, o_pickT, o_pickF, o_pick, o_conv, o_len, o_lens, o_idxN, o_eix, o_ldiI, o_ldiI0, o_slcL, o_slcH, o_app, o_mk1, o_ifc, o_str, o_byt, c_int, c_bool, c_str, c_list, c_agg, c_iface, c_nilI, c_unit2, c_unit, c_true, i_te, g_T, g_F, g_u, b_norm, b_exitN, b_exitI, Nat.one_ne_zero, Nat.zero_ne_one, Nat.reduceEqDiff, b_ret, b_none, b_ite, a_0, a_1, a_2, a_3, a_4, a_5, a_6, a_7, a_8, a_9, a_10, a_11, a_12, a_13, a_14, a_15, a_16, a_17, a_18, a_19, a_20, a_21, a_22, a_23, a_24, f_c0, f_c1, f_c2, f_c3, f_c4, f_c5, f_c6, f_c7, f_c8, f_c9, f_c10, f_c11, f_c12, f_c13, f_c14, f_c15, f_c16, p_nil, p_cons, pk_of, Option.bind_some, Option.bind_none, List.getElem?_cons_zero, List.getElem?_cons_succ, decide_eq_true_eq, if_true, if_false, Bool.not_eq_true', Bool.false_eq_true, Bool.true_eq_false, reduceCtorEq, ne_eq, not_false_eq_true, not_true_eq_false, decide_true, decide_false, Int.toNat_natCast, Int.natCast_zero, Bool.not_true, Bool.not_false]
            by_cases hq : enc (valOf a c i) = l.take (i + 1)
            · simp only [hq, o_add, o_sub, o_mul, o_quo, o_rem, o_and, o_or, o_eql, o_neq, o_lss, o_leq, o_gtr, o_geq, o_shl, o_shr, o_seql, o_sneq, o_beql, o_bneq, o_ieql, o_ineq, o_neql, o_nneq, o_not, o_neg, o_notv, o_pickT, o_pickF, o_pick, o_conv, o_len, o_lens, o_idxN, o_eix, o_ldiI, o_ldiI0, o_slcL, o_slcH, o_app, o_mk1, o_ifc, o_str, o_byt, c_int, c_bool, c_str, c_list, c_agg, c_iface, c_nilI, c_unit2, c_unit, c_true, i_te, g_T, g_F, g_u, b_norm, b_exitN, b_exitI, Nat.one_ne_zero, Nat.zero_ne_one, Nat.reduceEqDiff, b_ret, b_none, b_ite, a_0, a_1, a_2, a_3, a_4, a_5, a_6, a_7, a_8, a_9, a_10, a_11, a_12, a_13, a_14, a_15, a_16, a_17, a_18, a_19, a_20, a_21, a_22, a_23, a_24, f_c0, f_c1, f_c2, f_c3, f_c4, f_c5, f_c6, f_c7, f_c8, f_c9, f_c10, f_c11, f_c12, f_c13, f_c14, f_c15, f_c16, p_nil, p_cons, pk_of, Option.bind_some, Option.bind_none, List.getElem?_cons_zero, List.getElem?_cons_succ, decide_eq_true_eq, if_true, if_false, Bool.not_eq_true', Bool.false_eq_true, Bool.true_eq_false, reduceCtorEq, ne_eq, not_false_eq_true, not_true_eq_false, decide_true, decide_false, Int.toNat_natCast, Int.natCast_zero, Bool.not_true, Bool.not_false]
            · simp only [hq, o_add, o_sub, o_mul, o_quo, o_rem, o_and, o_or, o_eql, o_neq, o_lss, o_leq, o_gtr, o_geq, o_shl, o_shr, o_seql, o_sneq, o_beql, o_bneq, o_ieql, o_ineq, o_neql, o_nneq, o_not, o_neg, o_notv, o_pickT, o_pickF, o_pick, o_conv, o_len, o_lens, o_idxN, o_eix, o_ldiI, o_ldiI0, o_slcL, o_slcH, o_app, o_mk1, o_ifc, o_str, o_byt, c_int, c_bool, c_str, c_list, c_agg, c_iface, c_nilI, c_unit2, c_unit, c_true, i_te, g_T, g_F, g_u, b_norm, b_exitN, b_exitI, Nat.one_ne_zero, Nat.zero_ne_one, Nat.reduceEqDiff, b_ret, b_none, b_ite, a_0, a_1, a_2, a_3, a_4, a_5, a_6, a_7, a_8, a_9, a_10, a_11, a_12, a_13, a_14, a_15, a_16, a_17, a_18, a_19, a_20, a_21, a_22, a_23, a_24, f_c0, f_c1, f_c2, f_c3, f_c4, f_c5, f_c6, f_c7, f_c8, f_c9, f_c10, f_c11, f_c12, f_c13, f_c14, f_c15, f_c16, p_nil, p_cons, pk_of, Option.bind_some, Option.bind_none, List.getElem?_cons_zero, List.getElem?_cons_succ, decide_eq_true_eq, if_true, if_false, Bool.not_eq_true', Bool.false_eq_true, Bool.true_eq_false, reduceCtorEq, ne_eq, not_false_eq_true, not_true_eq_false, decide_true, decide_false, Int.toNat_natCast, Int.natCast_zero, Bool.not_true, Bool.not_false]
          · have h5 : (((7 * (i + 1) : Nat) : Int) < 64) = False := eq_false (by omega)
            have hv : wrap64 (a + c * 2 ^ (7 * i)) = valOf a c i := by simp only [valOf, e0, if_neg hs, if_neg h9]
            rw [hv] at hor
            simp only [F26_0_b0, stG, u8s, h1, h2, ea, h127, e0, hcv, hneg, hneg2, hsh, hor, hu, hw, h3, h4, h5, hc128, h10, hP, hE, hS, List.length_map, o_add, o_sub, o_mul, o_quo, o_rem, o_and, o_or, o_eql, o_neq, o_lss, o_leq, o_gtr, o_geq, o_shl, o_shr, o_seql, o_sneq, o_beql, o_bneq, o_ieql, o_ineq, o_neql, o_nneq, o_not, o_neg, o_notv, o_pickT, o_pickF, o_pick, o_conv, o_len, o_lens, o_idxN, o_eix, o_ldiI, o_ldiI0, o_slcL, o_slcH, o_app, o_mk1, o_ifc, o_str, o_byt, c_int, c_bool, c_str, c_list, c_agg, c_iface, c_nilI, c_unit2, c_unit, c_true, i_te, g_T, g_F, g_u, b_norm, b_exitN, b_exitI, Nat.one_ne_zero, Nat.zero_ne_one, Nat.reduceEqDiff, b_ret, b_none, b_ite, a_0, a_1, a_2, a_3, a_4, a_5, a_6, a_7, a_8, a_9, a_10, a_11, a_12, a_13, a_14, a_15, a_16, a_17, a_18, a_19, a_20, a_21, a_22, a_23, a_24, f_c0, f_c1, f_c2, f_c3, f_c4, f_c5, f_c6, f_c7, f_c8, f_c9, f_c10, f_c11, f_c12, f_c13, f_c14, f_c15, f_c16, p_nil, p_cons, pk_of, Option.bind_some, Option.bind_none, List.getElem?_cons_zero, List.getElem?_cons_succ, decide_eq_true_eq, if_true, if_false, Bool.not_eq_true', Bool.false_eq_true, Bool.true_eq_false, reduceCtorEq, ne_eq, not_false_eq_true, not_true_eq_false, decide_true, decide_false, Int.toNat_natCast, Int.natCast_zero, Bool.not_true, Bool.not_false]
            by_cases hq : enc (valOf a c i) = l.take (i + 1)
            · simp only [hq, o_add, o_sub, o_mul, o_quo, o_rem, o_and, o_or, o_eql, o_neq, o_lss, o_leq, o_gtr, o_geq, o_shl, o_shr, o_seql, o_sneq, o_beql, o_bneq, o_ieql, o_ineq, o_neql, o_nneq, o_not, o_neg, o_notv, o_pickT, o_pickF, o_pick, o_conv, o_len, o_lens, o_idxN, o_eix, o_ldiI, o_ldiI0, o_slcL, o_slcH, o_app, o_mk1, o_ifc, o_str, o_byt, c_int, c_bool, c_str, c_list, c_agg, c_iface, c_nilI, c_unit2, c_unit, c_true, i_te, g_T, g_F, g_u, b_norm, b_exitN, b_exitI, Nat.one_ne_zero, Nat.zero_ne_one, Nat.reduceEqDiff, b_ret, b_none, b_ite, a_0, a_1, a_2, a_3, a_4, a_5, a_6, a_7, a_8, a_9, a_10, a_11, a_12, a_13, a_14, a_15, a_16, a_17, a_18, a_19, a_20, a_21, a_22, a_23, a_24, f_c0, f_c1, f_c2, f_c3, f_c4, f_c5, f_c6, f_c7, f_c8, f_c9, f_c10, f_c11, f_c12, f_c13, f_c14, f_c15, f_c16, p_nil, p_cons, pk_of, Option.bind_some, Option.bind_none, List.getElem?_cons_zero, List.getElem?_cons_succ, decide_eq_true_eq, if_true, if_false, Bool.not_eq_true', Bool.false_eq_true, Bool.true_eq_false, reduceCtorEq, ne_eq, not_false_eq_true, not_true_eq_false, decide_true, decide_false, Int.toNat_natCast, Int.natCast_zero, Bool.not_true, Bool.not_false]
            · simp only [hq, o_add, o_sub, o_mul, o_quo, o_rem, o_and, o_or, o_eql, o_neq, o_lss, o_leq, o_gtr, o_geq, o_shl, o_shr, o_seql, o_sneq, o_beql, o_bneq, o_ieql, o_ineq, o_neql, o_nneq, o_not, o_neg, o_notv, o_pickT, o_pickF, o_pick, o_conv, o_len, o_lens, o_idxN, o_eix, o_ldiI, o_ldiI0, o_slcL, o_slcH, o_app, o_mk1, o_ifc, o_str, o_byt, c_int, c_bool, c_str, c_list, c_agg, c_iface, c_nilI, c_unit2, c_unit, c_true, i_te, g_T, g_F, g_u, b_norm, b_exitN, b_exitI, Nat.one_ne_zero, Nat.zero_ne_one, Nat.reduceEqDiff, b_ret, b_none, b_ite, a_0, a_1, a_2, a_3, a_4, a_5, a_6, a_7, a_8, a_9, a_10, a_11, a_12, a_13, a_14, a_15, a_16, a_17, a_18, a_19, a_20, a_21, a_22, a_23, a_24, f_c0, f_c1, f_c2, f_c3, f_c4, f_c5, f_c6, f_c7, f_c8, f_c9, f_c10, f_c11, f_c12, f_c13, f_c14, f_c15, f_c16, p_nil, p_cons, pk_of, Option.bind_some, Option.bind_none, List.getElem?_cons_zero, List.getElem?_cons_succ, decide_eq_true_eq, if_true, if_false, Bool.not_eq_true', Bool.false_eq_true, Bool.true_eq_false, reduceCtorEq, ne_eq, not_false_eq_true, not_true_eq_false, decide_true, decide_false, Int.toNat_natCast, Int.natCast_zero, Bool.not_true, Bool.not_false]
      · have h3 : (Go.bits .and .u8 c 128 = 0) = False := eq_false (fun e => hc128 (h128.1 e))
        simp only [F26_0_b0, stG, u8s, h1, h2, ea, h127, hcv, hneg, hsh, hor, hu, hw, h3, hc128, h10, o_add, o_sub, o_mul, o_quo, o_rem, o_and, o_or, o_eql, o_neq, o_lss, o_leq, o_gtr, o_geq, o_shl, o_shr, o_seql, o_sneq, o_beql, o_bneq, o_ieql, o_ineq, o_neql, o_nneq, o_not, o_neg, o_notv, o_pickT, o_pickF, o_pick, o_conv, o_len, o_lens, o_idxN, o_eix, o_ldiI, o_ldiI0, o_slcL, o_slcH, o_app, o_mk1, o_ifc, o_str, o_byt, c_int, c_bool, c_str, c_list, c_agg, c_iface, c_nilI, c_unit2, c_unit, c_true, i_te, g_T, g_F, g_u, b_norm, b_exitN, b_exitI, Nat.one_ne_zero, Nat.zero_ne_one, Nat.reduceEqDiff, b_ret, b_none, b_ite, a_0, a_1, a_2, a_3, a_4, a_5, a_6, a_7, a_8, a_9, a_10, a_11, a_12, a_13, a_14, a_15, a_16, a_17, a_18, a_19, a_20, a_21, a_22, a_23, a_24, f_c0, f_c1, f_c2, f_c3, f_c4, f_c5, f_c6, f_c7, f_c8, f_c9, f_c10, f_c11, f_c12, f_c13, f_c14, f_c15, f_c16, p_nil, p_cons, pk_of, Option.bind_some, Option.bind_none, List.getElem?_cons_zero, List.getElem?_cons_succ, decide_eq_true_eq, if_true, if_false, Bool.not_eq_true', Bool.false_eq_true, Bool.true_eq_false, reduceCtorEq, ne_eq, not_false_eq_true, not_true_eq_false, decide_true, decide_false, Int.toNat_natCast, Int.natCast_zero, Bool.not_true, Bool.not_false]
theorem get_loop (n : Nat) (l : List Int) (hl : l.length ≤ 140737488351232) (hb : ∀ x ∈ l, 0 ≤ x ∧ x < 256) : ∀ (r : List Int) (i : Nat) (a : Int) (fuel : Nat), l.drop i = r → i ≤ 10 → (i ≤ 9 → 0 ≤ a ∧ a < 2 ^ (7 * i)) → r.length < fuel →
    ∃ x y z, lpV [1, 1, 1, 1, 1, 1] (F26_0_b0 (Fix T) n (u8s l) (.int .i64 l.length)) fuel (stG i a) = match gtS l r i a with
      | some (m, k) => some (.ret [[.int .i64 m], [.int .i64 k], [.nilI]])
      | none => some (.exit 0 [1, 1, 1, 1, 1, 1] [.int .i64 0, .int .i64 0, .nilI, x, y, z]) := by
  intro r
  induction r with
  | nil =>
    intro i a fuel hd hi ha hf
    obtain ⟨fuel, rfl⟩ : ∃ k, fuel = k + 1 := ⟨fuel - 1, by omega⟩
    have h := get_rnd n l i a hl hb ha hi
    rw [hd] at h
    exact ⟨_, _, _, by rw [lp_exit h]; rfl⟩
  | cons c r ih =>
    intro i a fuel hd hi ha hf
    obtain ⟨fuel, rfl⟩ : ∃ k, fuel = k + 1 := ⟨fuel - 1, by omega⟩
    have h := get_rnd n l i a hl hb ha hi
    rw [hd] at h
    simp only at h
    have hlt : i < l.length := by
      rcases Nat.lt_or_ge i l.length with h | h
      · exact h
      · rw [List.drop_of_length_le h] at hd; cases hd
    have hd2 := List.drop_eq_getElem_cons hlt
    rw [hd2] at hd
    obtain ⟨hc, hr⟩ := List.cons.inj hd
    by_cases h10 : 10 ≤ i
    · rw [if_pos h10] at h
      exact ⟨_, _, _, by rw [lp_exit h, gtS, if_pos h10]⟩
    · rw [if_neg h10] at h
      by_cases hc128 : c < 128
      · rw [if_pos hc128] at h
        by_cases hq : enc (valOf a c i) = l.take (i + 1)
        · rw [if_pos hq] at h
          exact ⟨.unit, .unit, .unit, by rw [lp_ret h, gtS, if_neg h10, if_pos hc128, if_pos hq]⟩
        · rw [if_neg hq] at h
          exact ⟨_, _, _, by rw [lp_exit h, gtS, if_neg h10, if_pos hc128, if_neg hq]⟩
      · rw [if_neg hc128] at h
        obtain ⟨ha0, ha1⟩ := ha (by omega)
        obtain ⟨x, y, z, h2⟩ := ih (i + 1) (wrap64 (a + (c % 128) * 2 ^ (7 * i))) fuel hr (by omega) (fun h9 => by
          have hp := pow_le_63 (s := 7 * (i + 1)) (by omega)
          have e7 := pow7 i
          have hpp := pow_pos' (7 * i)
          have hcm : c % 128 * 2 ^ (7 * i) ≤ 127 * 2 ^ (7 * i) := Int.mul_le_mul_of_nonneg_right (by omega) (Int.le_of_lt hpp)
          have hc0 : 0 ≤ c % 128 * 2 ^ (7 * i) := Int.mul_nonneg (by omega) (Int.le_of_lt hpp)
          have hin : wrap64 (a + c % 128 * 2 ^ (7 * i)) = a + c % 128 * 2 ^ (7 * i) := by unfold wrap64; omega
          rw [hin]; omega) (by simp at hf; omega)
        exact ⟨x, y, z, by rw [lp_norm h, h2, gtS, if_neg h10, if_neg hc128]⟩
theorem s26 (l : List Int) (hl : l.length ≤ 140737488351232) (hb : ∀ x ∈ l, 0 ≤ x ∧ x < 256) : Fix T 26 0 [[u8s l]] = some (getV (getS l)) := by
  refine e26_0 (l.length + 1) ?_
  obtain ⟨x, y, z, h⟩ := get_loop (l.length + 1) l hl hb l 0 0 (l.length + 1) rfl (by omega) (fun _ => by simp) (by omega)
  have h' : lpV [1, 1, 1, 1, 1, 1] (F26_0_b0 (Fix T) (l.length + 1) (u8s l) (.int .i64 l.length)) (l.length + 1) [.int .u64 0, .int .i64 0, .int .i64 0, .int .i64 0, .nilI, .int .i64 0] = _ := h
  unfold getS
  unfold u8s at h' ⊢
  cases hg : gtS l l 0 0 with
  | none =>
    rw [hg] at h'
    simp only [F26_0, List.length_map, h', getV, o_add, o_sub, o_mul, o_quo, o_rem, o_and, o_or, o_eql, o_neq, o_lss, o_leq, o_gtr, o_geq, o_shl, o_shr, o_seql, o_sneq, o_beql, o_bneq, o_ieql, o_ineq, o_neql, o_nneq, o_not, o_neg, o_notv, o_pickT, o_pickF, o_pick, o_conv, o_len, o_lens, o_idxN, o_eix, o_ldiI, o_ldiI0, o_slcL, o_slcH, o_app, o_mk1, o_ifc, o_str, o_byt, c_int, c_bool, c_str, c_list, c_agg, c_iface, c_nilI, c_unit2, c_unit, c_true, i_te, g_T, g_F, g_u, b_norm, b_exitN, b_exitI, Nat.one_ne_zero, Nat.zero_ne_one, Nat.reduceEqDiff, b_ret, b_none, b_ite, a_0, a_1, a_2, a_3, a_4, a_5, a_6, a_7, a_8, a_9, a_10, a_11, a_12, a_13, a_14, a_15, a_16, a_17, a_18, a_19, a_20, a_21, a_22, a_23, a_24, f_c0, f_c1, f_c2, f_c3, f_c4, f_c5, f_c6, f_c7, f_c8, f_c9, f_c10, f_c11, f_c12, f_c13, f_c14, f_c15, f_c16, p_nil, p_cons, pk_of, Option.bind_some, Option.bind_none, List.getElem?_cons_zero, List.getElem?_cons_succ, decide_eq_true_eq, if_true, if_false, Bool.not_eq_true', Bool.false_eq_true, Bool.true_eq_false, reduceCtorEq, ne_eq, not_false_eq_true, not_true_eq_false, decide_true, decide_false, Int.toNat_natCast, Int.natCast_zero, Bool.not_true, Bool.not_false]
  | some p =>
    obtain ⟨m, k⟩ := p
    rw [hg] at h'
    simp only [F26_0, List.length_map, h', getV, o_add, o_sub, o_mul, o_quo, o_rem, o_and, o_or, o_eql, o_neq, o_lss, o_leq, o_gtr, o_geq, o_shl, o_shr, o_seql, o_sneq, o_beql, o_bneq, o_ieql, o_ineq, o_neql, o_nneq, o_not, o_neg, o_notv, o_pickT, o_pickF, o_pick, o_conv, o_len, o_lens, o_idxN, o_eix, o_ldiI, o_ldiI0, o_slcL, o_slcH, o_app, o_mk1, o_ifc, o_str, o_byt, c_int, c_bool, c_str, c_list, c_agg, c_iface, c_nilI, c_unit2, c_unit, c_true, i_te, g_T, g_F, g_u, b_norm, b_exitN, b_exitI, Nat.one_ne_zero, Nat.zero_ne_one, Nat.reduceEqDiff, b_ret, b_none, b_ite, a_0, a_1, a_2, a_3, a_4, a_5, a_6, a_7, a_8, a_9, a_10, a_11, a_12, a_13, a_14, a_15, a_16, a_17, a_18, a_19, a_20, a_21, a_22, a_23, a_24, f_c0, f_c1, f_c2, f_c3, f_c4, f_c5, f_c6, f_c7, f_c8, f_c9, f_c10, f_c11, f_c12, f_c13, f_c14, f_c15, f_c16, p_nil, p_cons, pk_of, Option.bind_some, Option.bind_none, List.getElem?_cons_zero, List.getElem?_cons_succ, decide_eq_true_eq, if_true, if_false, Bool.not_eq_true', Bool.false_eq_true, Bool.true_eq_false, reduceCtorEq, ne_eq, not_false_eq_true, not_true_eq_false, decide_true, decide_false, Int.toNat_natCast, Int.natCast_zero, Bool.not_true, Bool.not_false]
end Go.Proofs.YtogfkdpgkloljaaDoorVs
set_option linter.unusedVariables false
set_option linter.unusedSimpArgs false
set_option maxRecDepth 100000
namespace Go.Proofs.YtogfkdpgkloljaaDoorVs
theorem gtS_ok {l : List Int} : ∀ {r : List Int} {i : Nat} {a m : Int} {k : Nat}, gtS l r i a = some (m, k) → i + r.length = l.length → k ≤ l.length ∧ (-9223372036854775808 ≤ m ∧ m ≤ 9223372036854775807) ∧ enc m = l.take k
  | [], i, a, m, k, h, _ => by simp [gtS] at h
  | c :: r, i, a, m, k, h, hl => by
    simp only [gtS] at h
    split at h
    · cases h
    · split at h
      · split at h
        · rename_i hq
          cases h
          exact ⟨by simp at hl; omega, valOf_rng _ _ _, hq⟩
        · cases h
      · exact gtS_ok h (by simp at hl; omega)
theorem getS_ok {l : List Int} {m : Int} {k : Nat} (h : getS l = some (m, k)) : k ≤ l.length ∧ (-9223372036854775808 ≤ m ∧ m ≤ 9223372036854775807) ∧ enc m = l.take k := gtS_ok h (by simp)
abbrev RS := List Int × Bool
def rsV (s : RS) : List V := [u8s s.1, .bool s.2]
def rInt (s : RS) (lo hi : Int) : Int × RS := if s.2 = true then (0, s) else match getS s.1 with
  | some (n, k) => if n < lo ∨ hi < n then (0, ([], true)) else (n, (s.1.drop k, false))
  | none => (0, ([], true))
structure RsOK (s : RS) : Prop where
  len : s.1.length ≤ 140737488351232
  byt : ∀ x ∈ s.1, 0 ≤ x ∧ x < 256
theorem RsOK.nil (w : Bool) : RsOK ([], w) := ⟨by simp, by simp⟩
theorem RsOK.int {s : RS} (h : RsOK s) (lo hi : Int) : RsOK (rInt s lo hi).2 := by
  unfold rInt
  split
  · exact h
  · split
    · split
      · exact RsOK.nil _
      · exact ⟨by simp; have := h.len; omega, fun x hx => h.byt x (List.mem_of_mem_drop hx)⟩
    · exact RsOK.nil _
theorem s25 (s : RS) : Fix T 25 0 [rsV s] = some [[.bool (!s.2)]] := by
  refine e25_0 0 ?_
  simp only [F25_0, o_add, o_sub, o_mul, o_quo, o_rem, o_and, o_or, o_eql, o_neq, o_lss, o_leq, o_gtr, o_geq, o_shl, o_shr, o_seql, o_sneq, o_beql, o_bneq, o_ieql, o_ineq, o_neql, o_nneq, o_not, o_neg, o_notv, o_pickT, o_pickF, o_pick, o_conv, o_len, o_lens, o_idxN, o_eix, o_ldiI, o_ldiI0, o_slcL, o_slcH, o_app, o_mk1, o_ifc, o_str, o_byt, c_int, c_bool, c_str, c_list, c_agg, c_iface, c_nilI, c_unit2, c_unit, c_true, i_te, g_T, g_F, g_u, b_norm, b_exitN, b_exitI, Nat.one_ne_zero, Nat.zero_ne_one, Nat.reduceEqDiff, b_ret, b_none, b_ite, a_0, a_1, a_2, a_3, a_4, a_5, a_6, a_7, a_8, a_9, a_10, a_11, a_12, a_13, a_14, a_15, a_16, a_17, a_18, a_19, a_20, a_21, a_22, a_23, a_24, f_c0, f_c1, f_c2, f_c3, f_c4, f_c5, f_c6, f_c7, f_c8, f_c9, f_c10, f_c11, f_c12, f_c13, f_c14, f_c15, f_c16, p_nil, p_cons, pk_of, Option.bind_some, Option.bind_none, List.getElem?_cons_zero, List.getElem?_cons_succ, decide_eq_true_eq, if_true, if_false, Bool.not_eq_true', Bool.false_eq_true, Bool.true_eq_false, reduceCtorEq, ne_eq, not_false_eq_true, not_true_eq_false, decide_true, decide_false, Int.toNat_natCast, Int.natCast_zero, Bool.not_true, Bool.not_false]
theorem s27 (s : RS) : Fix T 27 0 [rsV s] = some [rsV ([], true)] := by
  refine e27_0 0 ?_
  simp only [F27_0, o_add, o_sub, o_mul, o_quo, o_rem, o_and, o_or, o_eql, o_neq, o_lss, o_leq, o_gtr, o_geq, o_shl, o_shr, o_seql, o_sneq, o_beql, o_bneq, o_ieql, o_ineq, o_neql, o_nneq, o_not, o_neg, o_notv, o_pickT, o_pickF, o_pick, o_conv, o_len, o_lens, o_idxN, o_eix, o_ldiI, o_ldiI0, o_slcL, o_slcH, o_app, o_mk1, o_ifc, o_str, o_byt, c_int, c_bool, c_str, c_list, c_agg, c_iface, c_nilI, c_unit2, c_unit, c_true, i_te, g_T, g_F, g_u, b_norm, b_exitN, b_exitI, Nat.one_ne_zero, Nat.zero_ne_one, Nat.reduceEqDiff, b_ret, b_none, b_ite, a_0, a_1, a_2, a_3, a_4, a_5, a_6, a_7, a_8, a_9, a_10, a_11, a_12, a_13, a_14, a_15, a_16, a_17, a_18, a_19, a_20, a_21, a_22, a_23, a_24, f_c0, f_c1, f_c2, f_c3, f_c4, f_c5, f_c6, f_c7, f_c8, f_c9, f_c10, f_c11, f_c12, f_c13, f_c14, f_c15, f_c16, p_nil, p_cons, pk_of, Option.bind_some, Option.bind_none, List.getElem?_cons_zero, List.getElem?_cons_succ, decide_eq_true_eq, if_true, if_false, Bool.not_eq_true', Bool.false_eq_true, Bool.true_eq_false, reduceCtorEq, ne_eq, not_false_eq_true, not_true_eq_false, decide_true, decide_false, Int.toNat_natCast, Int.natCast_zero, Bool.not_true, Bool.not_false]
  rfl
theorem s9 (s : RS) (lo hi : Int) (h : RsOK s) : Fix T 9 0 [rsV s, [.int .i64 lo], [.int .i64 hi]] = some [[.int .i64 (rInt s lo hi).1], rsV (rInt s lo hi).2] := by
  obtain ⟨b, w⟩ := s
  refine e9_0 0 ?_
  have h25 := s25 (b, w)
  have h26 := s26 b h.len h.byt
  have h27 := s27 (b, w)
  simp only [rsV] at h25 h27
  unfold u8s at h25 h26 h27
  cases w with
  | true =>
    unfold u8s
    simp only [F9_0, h25, rInt, rsV, u8s, o_add, o_sub, o_mul, o_quo, o_rem, o_and, o_or, o_eql, o_neq, o_lss, o_leq, o_gtr, o_geq, o_shl, o_shr, o_seql, o_sneq, o_beql, o_bneq, o_ieql, o_ineq, o_neql, o_nneq, o_not, o_neg, o_notv, o_pickT, o_pickF, o_pick, o_conv, o_len, o_lens, o_idxN, o_eix, o_ldiI, o_ldiI0, o_slcL, o_slcH, o_app, o_mk1, o_ifc, o_str, o_byt, c_int, c_bool, c_str, c_list, c_agg, c_iface, c_nilI, c_unit2, c_unit, c_true, i_te, g_T, g_F, g_u, b_norm, b_exitN, b_exitI, Nat.one_ne_zero, Nat.zero_ne_one, Nat.reduceEqDiff, b_ret, b_none, b_ite, a_0, a_1, a_2, a_3, a_4, a_5, a_6, a_7, a_8, a_9, a_10, a_11, a_12, a_13, a_14, a_15, a_16, a_17, a_18, a_19, a_20, a_21, a_22, a_23, a_24, f_c0, f_c1, f_c2, f_c3, f_c4, f_c5, f_c6, f_c7, f_c8, f_c9, f_c10, f_c11, f_c12, f_c13, f_c14, f_c15, f_c16, p_nil, p_cons, pk_of, Option.bind_some, Option.bind_none, List.getElem?_cons_zero, List.getElem?_cons_succ, decide_eq_true_eq, if_true, if_false, Bool.not_eq_true', Bool.false_eq_true, Bool.true_eq_false, reduceCtorEq, ne_eq, not_false_eq_true, not_true_eq_false, decide_true, decide_false, Int.toNat_natCast, Int.natCast_zero, Bool.not_true, Bool.not_false]
  | false =>
    cases hg : getS b with
    | none =>
      rw [hg] at h26
      simp only [getV] at h26
      unfold u8s
      simp only [F9_0, h25, h26, h27, rInt, rsV, u8s, hg, List.map_nil, o_add, o_sub, o_mul, o_quo, o_rem, o_and, o_or, o_eql, o_neq, o_lss, o_leq, o_gtr, o_geq, o_shl, o_shr, o_seql, o_sneq, o_beql, o_bneq, o_ieql, o_ineq, o_neql, o_nneq, o_not, o_neg, o_notv, o_pickT, o_pickF, o_pick, o_conv, o_len, o_lens, o_idxN, o_eix, o_ldiI, o_ldiI0, o_slcL, o_slcH, o_app, o_mk1, o_ifc, o_str, o_byt, c_int, c_bool, c_str, c_list, c_agg, c_iface, c_nilI, c_unit2, c_unit, c_true, i_te, g_T, g_F, g_u, b_norm, b_exitN, b_exitI, Nat.one_ne_zero, Nat.zero_ne_one, Nat.reduceEqDiff, b_ret, b_none, b_ite, a_0, a_1, a_2, a_3, a_4, a_5, a_6, a_7, a_8, a_9, a_10, a_11, a_12, a_13, a_14, a_15, a_16, a_17, a_18, a_19, a_20, a_21, a_22, a_23, a_24, f_c0, f_c1, f_c2, f_c3, f_c4, f_c5, f_c6, f_c7, f_c8, f_c9, f_c10, f_c11, f_c12, f_c13, f_c14, f_c15, f_c16, p_nil, p_cons, pk_of, Option.bind_some, Option.bind_none, List.getElem?_cons_zero, List.getElem?_cons_succ, decide_eq_true_eq, if_true, if_false, Bool.not_eq_true', Bool.false_eq_true, Bool.true_eq_false, reduceCtorEq, ne_eq, not_false_eq_true, not_true_eq_false, decide_true, decide_false, Int.toNat_natCast, Int.natCast_zero, Bool.not_true, Bool.not_false]
    | some p =>
      obtain ⟨n, k⟩ := p
      rw [hg] at h26
      simp only [getV] at h26
      obtain ⟨hk, hn, _⟩ := getS_ok hg
      have hS : ((0 : Int) ≤ (k : Int) ∧ (k : Int) ≤ (b.length : Int)) = True := eq_true (by omega)
      unfold u8s
      by_cases h1 : n < lo
      · simp only [F9_0, h25, h26, h27, rInt, rsV, u8s, hg, h1, List.map_nil, true_or, o_add, o_sub, o_mul, o_quo, o_rem, o_and, o_or, o_eql, o_neq, o_lss, o_leq, o_gtr, o_geq, o_shl, o_shr, o_seql, o_sneq, o_beql, o_bneq, o_ieql, o_ineq, o_neql, o_nneq, o_not, o_neg, o_notv, o_pickT, o_pickF, o_pick, o_conv, o_len, o_lens, o_idxN, o_eix, o_ldiI, o_ldiI0, o_slcL, o_slcH, o_app, o_mk1, o_ifc, o_str, o_byt, c_int, c_bool, c_str, c_list, c_agg, c_iface, c_nilI, c_unit2, c_unit, c_true, i_te, g_T, g_F, g_u, b_norm, b_exitN, b_exitI, Nat.one_ne_zero, Nat.zero_ne_one, Nat.reduceEqDiff, b_ret, b_none, b_ite, a_0, a_1, a_2, a_3, a_4, a_5, a_6, a_7, a_8, a_9, a_10, a_11, a_12, a_13, a_14, a_15, a_16, a_17, a_18, a_19, a_20, a_21, a_22, a_23, a_24, f_c0, f_c1, f_c2, f_c3, f_c4, f_c5, f_c6, f_c7, f_c8, f_c9, f_c10, f_c11, f_c12, f_c13, f_c14, f_c15, f_c16, p_nil, p_cons, pk_of, Option.bind_some, Option.bind_none, List.getElem?_cons_zero, List.getElem?_cons_succ, decide_eq_true_eq, if_true, if_false, Bool.not_eq_true', Bool.false_eq_true, Bool.true_eq_false, reduceCtorEq, ne_eq, not_false_eq_true, not_true_eq_false, decide_true, decide_false, Int.toNat_natCast, Int.natCast_zero, Bool.not_true, Bool.not_false]
      · by_cases h2 : hi < n
        · simp only [F9_0, h25, h26, h27, rInt, rsV, u8s, hg, h1, h2, List.map_nil, or_true, o_add, o_sub, o_mul, o_quo, o_rem, o_and, o_or, o_eql, o_neq, o_lss, o_leq, o_gtr, o_geq, o_shl, o_shr, o_seql, o_sneq, o_beql, o_bneq, o_ieql, o_ineq, o_neql, o_nneq, o_not, o_neg, o_notv, o_pickT, o_pickF, o_pick, o_conv, o_len, o_lens, o_idxN, o_eix, o_ldiI, o_ldiI0, o_slcL, o_slcH, o_app, o_mk1, o_ifc, o_str, o_byt, c_int, c_bool, c_str, c_list, c_agg, c_iface, c_nilI, c_unit2, c_unit, c_true, i_te, g_T, g_F, g_u, b_norm, b_exitN, b_exitI, Nat.one_ne_zero, Nat.zero_ne_one, Nat.reduceEqDiff, b_ret, b_none, b_ite, a_0, a_1, a_2, a_3, a_4, a_5, a_6, a_7, a_8, a_9, a_10, a_11, a_12, a_13, a_14, a_15, a_16, a_17, a_18, a_19, a_20, a_21, a_22, a_23, a_24, f_c0, f_c1, f_c2, f_c3, f_c4, f_c5, f_c6, f_c7, f_c8, f_c9, f_c10, f_c11, f_c12, f_c13, f_c14, f_c15, f_c16, p_nil, p_cons, pk_of, Option.bind_some, Option.bind_none, List.getElem?_cons_zero, List.getElem?_cons_succ, decide_eq_true_eq, if_true, if_false, Bool.not_eq_true', Bool.false_eq_true, Bool.true_eq_false, reduceCtorEq, ne_eq, not_false_eq_true, not_true_eq_false, decide_true, decide_false, Int.toNat_natCast, Int.natCast_zero, Bool.not_true, Bool.not_false]
        · simp only [F9_0, h25, h26, h27, rInt, rsV, u8s, hg, h1, h2, hS, List.length_map, List.map_drop, or_self, o_add, o_sub, o_mul, o_quo, o_rem, o_and, o_or, o_eql, o_neq, o_lss, o_leq, o_gtr, o_geq, o_shl, o_shr, o_seql, o_sneq, o_beql, o_bneq, o_ieql, o_ineq, o_neql, o_nneq, o_not, o_neg, o_notv, o_pickT, o_pickF, o_pick, o_conv, o_len, o_lens, o_idxN, o_eix, o_ldiI, o_ldiI0, o_slcL, o_slcH, o_app, o_mk1, o_ifc, o_str, o_byt, c_int, c_bool, c_str, c_list, c_agg, c_iface, c_nilI, c_unit2, c_unit, c_true, i_te, g_T, g_F, g_u, b_norm, b_exitN, b_exitI, Nat.one_ne_zero, Nat.zero_ne_one, Nat.reduceEqDiff, b_ret, b_none, b_ite, a_0, a_1, a_2, a_3, a_4, a_5, a_6, a_7, a_8, a_9, a_10, a_11, a_12, a_13, a_14, a_15, a_16, a_17, a_18, a_19, a_20, a_21, a_22, a_23, a_24, f_c0, f_c1, f_c2, f_c3, f_c4, f_c5, f_c6, f_c7, f_c8, f_c9, f_c10, f_c11, f_c12, f_c13, f_c14, f_c15, f_c16, p_nil, p_cons, pk_of, Option.bind_some, Option.bind_none, List.getElem?_cons_zero, List.getElem?_cons_succ, decide_eq_true_eq, if_true, if_false, Bool.not_eq_true', Bool.false_eq_true, Bool.true_eq_false, reduceCtorEq, ne_eq, not_false_eq_true, not_true_eq_false, decide_true, decide_false, Int.toNat_natCast, Int.natCast_zero, Bool.not_true, Bool.not_false]
def doneV (s : RS) : V := if s.2 = true ∨ s.1 ≠ [] then .iface 62 (.int .i64 2) else .nilI
theorem s13 (s : RS) : Fix T 13 0 [rsV s] = some [[doneV s]] := by
  obtain ⟨b, w⟩ := s
  refine e13_0 0 ?_
  have h25 := s25 (b, w)
  simp only [rsV] at h25
  unfold u8s at h25
  cases w with
  | true =>
    unfold u8s
    simp only [F13_0, h25, doneV, true_or, o_add, o_sub, o_mul, o_quo, o_rem, o_and, o_or, o_eql, o_neq, o_lss, o_leq, o_gtr, o_geq, o_shl, o_shr, o_seql, o_sneq, o_beql, o_bneq, o_ieql, o_ineq, o_neql, o_nneq, o_not, o_neg, o_notv, o_pickT, o_pickF, o_pick, o_conv, o_len, o_lens, o_idxN, o_eix, o_ldiI, o_ldiI0, o_slcL, o_slcH, o_app, o_mk1, o_ifc, o_str, o_byt, c_int, c_bool, c_str, c_list, c_agg, c_iface, c_nilI, c_unit2, c_unit, c_true, i_te, g_T, g_F, g_u, b_norm, b_exitN, b_exitI, Nat.one_ne_zero, Nat.zero_ne_one, Nat.reduceEqDiff, b_ret, b_none, b_ite, a_0, a_1, a_2, a_3, a_4, a_5, a_6, a_7, a_8, a_9, a_10, a_11, a_12, a_13, a_14, a_15, a_16, a_17, a_18, a_19, a_20, a_21, a_22, a_23, a_24, f_c0, f_c1, f_c2, f_c3, f_c4, f_c5, f_c6, f_c7, f_c8, f_c9, f_c10, f_c11, f_c12, f_c13, f_c14, f_c15, f_c16, p_nil, p_cons, pk_of, Option.bind_some, Option.bind_none, List.getElem?_cons_zero, List.getElem?_cons_succ, decide_eq_true_eq, if_true, if_false, Bool.not_eq_true', Bool.false_eq_true, Bool.true_eq_false, reduceCtorEq, ne_eq, not_false_eq_true, not_true_eq_false, decide_true, decide_false, Int.toNat_natCast, Int.natCast_zero, Bool.not_true, Bool.not_false]
  | false =>
    unfold u8s
    cases b with
    | nil =>
      simp only [List.map_nil] at h25
      have : ((0 : Int) < 0) = False := by simp
      simp only [F13_0, h25, doneV, this, List.map_nil, List.length_nil, or_self, o_add, o_sub, o_mul, o_quo, o_rem, o_and, o_or, o_eql, o_neq, o_lss, o_leq, o_gtr, o_geq, o_shl, o_shr, o_seql, o_sneq, o_beql, o_bneq, o_ieql, o_ineq, o_neql, o_nneq, o_not, o_neg, o_notv, o_pickT, o_pickF, o_pick, o_conv, o_len, o_lens, o_idxN, o_eix, o_ldiI, o_ldiI0, o_slcL, o_slcH, o_app, o_mk1, o_ifc, o_str, o_byt, c_int, c_bool, c_str, c_list, c_agg, c_iface, c_nilI, c_unit2, c_unit, c_true, i_te, g_T, g_F, g_u, b_norm, b_exitN, b_exitI, Nat.one_ne_zero, Nat.zero_ne_one, Nat.reduceEqDiff, b_ret, b_none, b_ite, a_0, a_1, a_2, a_3, a_4, a_5, a_6, a_7, a_8, a_9, a_10, a_11, a_12, a_13, a_14, a_15, a_16, a_17, a_18, a_19, a_20, a_21, a_22, a_23, a_24, f_c0, f_c1, f_c2, f_c3, f_c4, f_c5, f_c6, f_c7, f_c8, f_c9, f_c10, f_c11, f_c12, f_c13, f_c14, f_c15, f_c16, p_nil, p_cons, pk_of, Option.bind_some, Option.bind_none, List.getElem?_cons_zero, List.getElem?_cons_succ, decide_eq_true_eq, if_true, if_false, Bool.not_eq_true', Bool.false_eq_true, Bool.true_eq_false, reduceCtorEq, ne_eq, not_false_eq_true, not_true_eq_false, decide_true, decide_false, Int.toNat_natCast, Int.natCast_zero, Bool.not_true, Bool.not_false]
    | cons x r =>
      have : ((0 : Int) < (((x :: r).map (V.int .u8)).length : Int)) = True := eq_true (by simp only [List.map_cons, List.length_cons]; omega)
      simp only [F13_0, h25, doneV, this, or_true, o_add, o_sub, o_mul, o_quo, o_rem, o_and, o_or, o_eql, o_neq, o_lss, o_leq, o_gtr, o_geq, o_shl, o_shr, o_seql, o_sneq, o_beql, o_bneq, o_ieql, o_ineq, o_neql, o_nneq, o_not, o_neg, o_notv, o_pickT, o_pickF, o_pick, o_conv, o_len, o_lens, o_idxN, o_eix, o_ldiI, o_ldiI0, o_slcL, o_slcH, o_app, o_mk1, o_ifc, o_str, o_byt, c_int, c_bool, c_str, c_list, c_agg, c_iface, c_nilI, c_unit2, c_unit, c_true, i_te, g_T, g_F, g_u, b_norm, b_exitN, b_exitI, Nat.one_ne_zero, Nat.zero_ne_one, Nat.reduceEqDiff, b_ret, b_none, b_ite, a_0, a_1, a_2, a_3, a_4, a_5, a_6, a_7, a_8, a_9, a_10, a_11, a_12, a_13, a_14, a_15, a_16, a_17, a_18, a_19, a_20, a_21, a_22, a_23, a_24, f_c0, f_c1, f_c2, f_c3, f_c4, f_c5, f_c6, f_c7, f_c8, f_c9, f_c10, f_c11, f_c12, f_c13, f_c14, f_c15, f_c16, p_nil, p_cons, pk_of, Option.bind_some, Option.bind_none, List.getElem?_cons_zero, List.getElem?_cons_succ, decide_eq_true_eq, if_true, if_false, Bool.not_eq_true', Bool.false_eq_true, Bool.true_eq_false, reduceCtorEq, ne_eq, not_false_eq_true, not_true_eq_false, decide_true, decide_false, Int.toNat_natCast, Int.natCast_zero, Bool.not_true, Bool.not_false]
theorem s12 (k : Int) : Fix T 12 0 [[.iface 62 (.int .i64 k)]] = some [[.int .i64 k]] := gv12 (by simp [numφ])
theorem s12n : Fix T 12 0 [[.nilI]] = some [[.int .i64 0]] := gv12 rfl
theorem s16 (l : List Int) (h : l.length ≤ 140737488355328) : Fix T 16 0 [[u8s l]] = some [[.bool true, u8s l, .bool false]] := by
  refine e16_0 0 ?_
  have h24 := s24 l h
  unfold u8s at h24 ⊢
  simp only [F16_0, h24, o_add, o_sub, o_mul, o_quo, o_rem, o_and, o_or, o_eql, o_neq, o_lss, o_leq, o_gtr, o_geq, o_shl, o_shr, o_seql, o_sneq, o_beql, o_bneq, o_ieql, o_ineq, o_neql, o_nneq, o_not, o_neg, o_notv, o_pickT, o_pickF, o_pick, o_conv, o_len, o_lens, o_idxN, o_eix, o_ldiI, o_ldiI0, o_slcL, o_slcH, o_app, o_mk1, o_ifc, o_str, o_byt, c_int, c_bool, c_str, c_list, c_agg, c_iface, c_nilI, c_unit2, c_unit, c_true, i_te, g_T, g_F, g_u, b_norm, b_exitN, b_exitI, Nat.one_ne_zero, Nat.zero_ne_one, Nat.reduceEqDiff, b_ret, b_none, b_ite, a_0, a_1, a_2, a_3, a_4, a_5, a_6, a_7, a_8, a_9, a_10, a_11, a_12, a_13, a_14, a_15, a_16, a_17, a_18, a_19, a_20, a_21, a_22, a_23, a_24, f_c0, f_c1, f_c2, f_c3, f_c4, f_c5, f_c6, f_c7, f_c8, f_c9, f_c10, f_c11, f_c12, f_c13, f_c14, f_c15, f_c16, p_nil, p_cons, pk_of, Option.bind_some, Option.bind_none, List.getElem?_cons_zero, List.getElem?_cons_succ, decide_eq_true_eq, if_true, if_false, Bool.not_eq_true', Bool.false_eq_true, Bool.true_eq_false, reduceCtorEq, ne_eq, not_false_eq_true, not_true_eq_false, decide_true, decide_false, Int.toNat_natCast, Int.natCast_zero, Bool.not_true, Bool.not_false]
theorem s28w (m : Int) : Fix T 28 0 [rsV ([], true), [.int .i64 m]] = some [[.int .i64 0], rsV ([], true)] := by
  refine e28_0 0 ?_
  have h9 := s9 ([], true) 0 m (RsOK.nil _)
  have h25 := s25 ([], true)
  have h27 := s27 ([], true)
  simp only [rsV, rInt, u8s, List.map_nil, if_true] at h9 h25 h27 ⊢
  simp only [F28_0, h9, h25, h27, List.map_nil, o_add, o_sub, o_mul, o_quo, o_rem, o_and, o_or, o_eql, o_neq, o_lss, o_leq, o_gtr, o_geq, o_shl, o_shr, o_seql, o_sneq, o_beql, o_bneq, o_ieql, o_ineq, o_neql, o_nneq, o_not, o_neg, o_notv, o_pickT, o_pickF, o_pick, o_conv, o_len, o_lens, o_idxN, o_eix, o_ldiI, o_ldiI0, o_slcL, o_slcH, o_app, o_mk1, o_ifc, o_str, o_byt, c_int, c_bool, c_str, c_list, c_agg, c_iface, c_nilI, c_unit2, c_unit, c_true, i_te, g_T, g_F, g_u, b_norm, b_exitN, b_exitI, Nat.one_ne_zero, Nat.zero_ne_one, Nat.reduceEqDiff, b_ret, b_none, b_ite, a_0, a_1, a_2, a_3, a_4, a_5, a_6, a_7, a_8, a_9, a_10, a_11, a_12, a_13, a_14, a_15, a_16, a_17, a_18, a_19, a_20, a_21, a_22, a_23, a_24, f_c0, f_c1, f_c2, f_c3, f_c4, f_c5, f_c6, f_c7, f_c8, f_c9, f_c10, f_c11, f_c12, f_c13, f_c14, f_c15, f_c16, p_nil, p_cons, pk_of, Option.bind_some, Option.bind_none, List.getElem?_cons_zero, List.getElem?_cons_succ, decide_eq_true_eq, if_true, if_false, Bool.not_eq_true', Bool.false_eq_true, Bool.true_eq_false, reduceCtorEq, ne_eq, not_false_eq_true, not_true_eq_false, decide_true, decide_false, Int.toNat_natCast, Int.natCast_zero, Bool.not_true, Bool.not_false]
theorem s10w (m lo hi : Int) : Fix T 10 0 [rsV ([], true), [.int .i64 m], [.int .i64 lo], [.int .i64 hi]] = some [[.list 3 []], rsV ([], true)] := by
  refine e10_0 1 ?_
  have h28 := s28w m
  have h25 := s25 ([], true)
  simp only [rsV, u8s, List.map_nil] at h28 h25 ⊢
  have hb : F10_0_b0 (Fix T) 1 (.int .i64 lo) (.int .i64 hi) (.int .i64 0) [.unit, .bool true, .list 5 [], .list 3 [], .unit, .int .i64 0] = some (.exit 0 [1, 1, 1, 2, 1] [.unit, .list 3 [], .int .i64 0, .unit, .bool true, .list 5 []]) := by
    have : ((0 : Int) < 0) = False := by simp
    simp only [F10_0_b0, this, o_add, o_sub, o_mul, o_quo, o_rem, o_and, o_or, o_eql, o_neq, o_lss, o_leq, o_gtr, o_geq, o_shl, o_shr, o_seql, o_sneq, o_beql, o_bneq, o_ieql, o_ineq, o_neql, o_nneq, o_not, o_neg, o_notv, o_pickT, o_pickF, o_pick, o_conv, o_len, o_lens, o_idxN, o_eix, o_ldiI, o_ldiI0, o_slcL, o_slcH, o_app, o_mk1, o_ifc, o_str, o_byt, c_int, c_bool, c_str, c_list, c_agg, c_iface, c_nilI, c_unit2, c_unit, c_true, i_te, g_T, g_F, g_u, b_norm, b_exitN, b_exitI, Nat.one_ne_zero, Nat.zero_ne_one, Nat.reduceEqDiff, b_ret, b_none, b_ite, a_0, a_1, a_2, a_3, a_4, a_5, a_6, a_7, a_8, a_9, a_10, a_11, a_12, a_13, a_14, a_15, a_16, a_17, a_18, a_19, a_20, a_21, a_22, a_23, a_24, f_c0, f_c1, f_c2, f_c3, f_c4, f_c5, f_c6, f_c7, f_c8, f_c9, f_c10, f_c11, f_c12, f_c13, f_c14, f_c15, f_c16, p_nil, p_cons, pk_of, Option.bind_some, Option.bind_none, List.getElem?_cons_zero, List.getElem?_cons_succ, decide_eq_true_eq, if_true, if_false, Bool.not_eq_true', Bool.false_eq_true, Bool.true_eq_false, reduceCtorEq, ne_eq, not_false_eq_true, not_true_eq_false, decide_true, decide_false, Int.toNat_natCast, Int.natCast_zero, Bool.not_true, Bool.not_false]
  simp only [F10_0, h28, h25, lp_exit hb, o_add, o_sub, o_mul, o_quo, o_rem, o_and, o_or, o_eql, o_neq, o_lss, o_leq, o_gtr, o_geq, o_shl, o_shr, o_seql, o_sneq, o_beql, o_bneq, o_ieql, o_ineq, o_neql, o_nneq, o_not, o_neg, o_notv, o_pickT, o_pickF, o_pick, o_conv, o_len, o_lens, o_idxN, o_eix, o_ldiI, o_ldiI0, o_slcL, o_slcH, o_app, o_mk1, o_ifc, o_str, o_byt, c_int, c_bool, c_str, c_list, c_agg, c_iface, c_nilI, c_unit2, c_unit, c_true, i_te, g_T, g_F, g_u, b_norm, b_exitN, b_exitI, Nat.one_ne_zero, Nat.zero_ne_one, Nat.reduceEqDiff, b_ret, b_none, b_ite, a_0, a_1, a_2, a_3, a_4, a_5, a_6, a_7, a_8, a_9, a_10, a_11, a_12, a_13, a_14, a_15, a_16, a_17, a_18, a_19, a_20, a_21, a_22, a_23, a_24, f_c0, f_c1, f_c2, f_c3, f_c4, f_c5, f_c6, f_c7, f_c8, f_c9, f_c10, f_c11, f_c12, f_c13, f_c14, f_c15, f_c16, p_nil, p_cons, pk_of, Option.bind_some, Option.bind_none, List.getElem?_cons_zero, List.getElem?_cons_succ, decide_eq_true_eq, if_true, if_false, Bool.not_eq_true', Bool.false_eq_true, Bool.true_eq_false, reduceCtorEq, ne_eq, not_false_eq_true, not_true_eq_false, decide_true, decide_false, Int.toNat_natCast, Int.natCast_zero, Bool.not_true, Bool.not_false]
theorem s11w (m : Int) : Fix T 11 0 [rsV ([], true), [.int .i64 m]] = some [[.str ⟨#[]⟩], rsV ([], true)] := by
  refine e11_0 0 ?_
  have h28 := s28w m
  have h25 := s25 ([], true)
  simp only [rsV, u8s, List.map_nil] at h28 h25 ⊢
  simp only [F11_0, h28, h25, o_add, o_sub, o_mul, o_quo, o_rem, o_and, o_or, o_eql, o_neq, o_lss, o_leq, o_gtr, o_geq, o_shl, o_shr, o_seql, o_sneq, o_beql, o_bneq, o_ieql, o_ineq, o_neql, o_nneq, o_not, o_neg, o_notv, o_pickT, o_pickF, o_pick, o_conv, o_len, o_lens, o_idxN, o_eix, o_ldiI, o_ldiI0, o_slcL, o_slcH, o_app, o_mk1, o_ifc, o_str, o_byt, c_int, c_bool, c_str, c_list, c_agg, c_iface, c_nilI, c_unit2, c_unit, c_true, i_te, g_T, g_F, g_u, b_norm, b_exitN, b_exitI, Nat.one_ne_zero, Nat.zero_ne_one, Nat.reduceEqDiff, b_ret, b_none, b_ite, a_0, a_1, a_2, a_3, a_4, a_5, a_6, a_7, a_8, a_9, a_10, a_11, a_12, a_13, a_14, a_15, a_16, a_17, a_18, a_19, a_20, a_21, a_22, a_23, a_24, f_c0, f_c1, f_c2, f_c3, f_c4, f_c5, f_c6, f_c7, f_c8, f_c9, f_c10, f_c11, f_c12, f_c13, f_c14, f_c15, f_c16, p_nil, p_cons, pk_of, Option.bind_some, Option.bind_none, List.getElem?_cons_zero, List.getElem?_cons_succ, decide_eq_true_eq, if_true, if_false, Bool.not_eq_true', Bool.false_eq_true, Bool.true_eq_false, reduceCtorEq, ne_eq, not_false_eq_true, not_true_eq_false, decide_true, decide_false, Int.toNat_natCast, Int.natCast_zero, Bool.not_true, Bool.not_false]
theorem PackWrong_ok (l : List Int) (lo hi many : Int) (hl : l.length ≤ 140737488351232) (hb : ∀ x ∈ l, 0 ≤ x ∧ x < 256) : Fix T 5 0 [[u8s l], [.int .i64 lo], [.int .i64 hi], [.int .i64 many]] = some [[.bool true]] := by
  refine e5_0 0 ?_
  have h16 := s16 l (by omega)
  have h9 := s9 (l, false) 1 0 ⟨hl, hb⟩
  have hr : rInt (l, false) 1 0 = (0, ([], true)) := by
    unfold rInt
    cases getS l with
    | none => rfl
    | some p =>
      have : p.1 < 1 ∨ 0 < p.1 := by omega
      simp [this]
  have h9b := s9 ([], true) lo hi (RsOK.nil _)
  have hr2 : rInt ([], true) lo hi = (0, ([], true)) := rfl
  have h13 := s13 ([], true)
  have h12 := s12 2
  have h10 := s10w many lo hi
  have h11 := s11w many
  rw [hr] at h9
  rw [hr2] at h9b
  have hd : doneV ([], true) = .iface 62 (.int .i64 2) := rfl
  rw [hd] at h13
  have hs : (0 + l.length) * 1 ≤ 140737488355328 := by omega
  have hsc : (l.map (V.int .u8)).all scalarE = true := by simp [List.all_map, Function.comp_def, scalarE, scalarV]
  have hmk : ∀ f : V → TR, op1V (Fix T) (.mk 5 []) [] f = f (.list 5 []) := fun f => rfl
  simp only [rsV, u8s, List.map_nil] at h16 h9 h9b h13 h10 h11 ⊢
  simp only [F5_0, hmk, List.length_nil, List.length_map, List.nil_append, hs, hsc, h16, h9, h9b, h13, h12, h10, h11, sure_holds, implies_true, and_self, beq_self_eq_true, o_add, o_sub, o_mul, o_quo, o_rem, o_and, o_or, o_eql, o_neq, o_lss, o_leq, o_gtr, o_geq, o_shl, o_shr, o_seql, o_sneq, o_beql, o_bneq, o_ieql, o_ineq, o_neql, o_nneq, o_not, o_neg, o_notv, o_pickT, o_pickF, o_pick, o_conv, o_len, o_lens, o_idxN, o_eix, o_ldiI, o_ldiI0, o_slcL, o_slcH, o_app, o_mk1, o_ifc, o_str, o_byt, c_int, c_bool, c_str, c_list, c_agg, c_iface, c_nilI, c_unit2, c_unit, c_true, i_te, g_T, g_F, g_u, b_norm, b_exitN, b_exitI, Nat.one_ne_zero, Nat.zero_ne_one, Nat.reduceEqDiff, b_ret, b_none, b_ite, a_0, a_1, a_2, a_3, a_4, a_5, a_6, a_7, a_8, a_9, a_10, a_11, a_12, a_13, a_14, a_15, a_16, a_17, a_18, a_19, a_20, a_21, a_22, a_23, a_24, f_c0, f_c1, f_c2, f_c3, f_c4, f_c5, f_c6, f_c7, f_c8, f_c9, f_c10, f_c11, f_c12, f_c13, f_c14, f_c15, f_c16, p_nil, p_cons, pk_of, Option.bind_some, Option.bind_none, List.getElem?_cons_zero, List.getElem?_cons_succ, decide_eq_true_eq, if_true, if_false, Bool.not_eq_true', Bool.false_eq_true, Bool.true_eq_false, reduceCtorEq, ne_eq, not_false_eq_true, not_true_eq_false, decide_true, decide_false, Int.toNat_natCast, Int.natCast_zero, Bool.not_true, Bool.not_false]
end Go.Proofs.YtogfkdpgkloljaaDoorVs
set_option linter.unusedVariables false
set_option linter.unusedSimpArgs false
set_option maxRecDepth 100000
namespace Go.Proofs.YtogfkdpgkloljaaDoorVs
def i64s (l : List Int) : V := .list 3 (l.map (V.int .i64))
def encs (l : List Int) : List Int := (l.map enc).flatten
def R64 (x : Int) : Prop := -9223372036854775808 ≤ x ∧ x ≤ 9223372036854775807
theorem s32n (m : Int) (h : R64 m) : Fix T 32 0 [[.list 5 []], [.int .i64 m]] = some [[.list 5 ((enc m).map (V.int .u8))]] := by
  have := s32 [] m h.1 h.2 (by simp)
  simpa [u8s] using this
theorem s22_loop (n : Nat) (l : List Int) (hr : ∀ x ∈ l, R64 x) (hl : l.length < 2 ^ 62) : ∀ (d i fuel : Nat) (acc : List Int), l.length - i = d → i ≤ l.length → d < fuel → acc.length + 10 * d < 140737488355000 →
    lpV [1, 1, 1] (F22_0_b0 (Fix T) n (i64s l) (.int .i64 l.length)) fuel [u8s acc, .unit, .int .i64 i] = some (.exit 0 [1, 1, 1] [.int .i64 l.length, .unit, u8s (acc ++ encs (l.drop i))]) := by
  intro d
  induction d with
  | zero =>
    intro i fuel acc hd hi hf hb
    obtain ⟨fuel, rfl⟩ : ∃ m, fuel = m + 1 := ⟨fuel - 1, by omega⟩
    have : i = l.length := by omega
    subst this
    have h1 : ¬ ((l.length : Int) < l.length) := by omega
    rw [lp_exit (j := 0) (l' := [1, 1, 1]) (vs' := [.int .i64 l.length, .unit, u8s acc]) (by simp only [F22_0_b0, i64s, u8s, h1, o_add, o_sub, o_mul, o_quo, o_rem, o_and, o_or, o_eql, o_neq, o_lss, o_leq, o_gtr, o_geq, o_shl, o_shr, o_seql, o_sneq, o_beql, o_bneq, o_ieql, o_ineq, o_neql, o_nneq, o_not, o_neg, o_notv, o_pickT, o_pickF, o_pick, o_conv, o_len, o_lens, o_idxN, o_eix, o_ldiI, o_ldiI0, o_slcL, o_slcH, o_app, o_mk1, o_ifc, o_str, o_byt, c_int, c_bool, c_str, c_list, c_agg, c_iface, c_nilI, c_unit2, c_unit, c_true, i_te, g_T, g_F, g_u, b_norm, b_exitN, b_exitI, Nat.one_ne_zero, Nat.zero_ne_one, Nat.reduceEqDiff, b_ret, b_none, b_ite, a_0, a_1, a_2, a_3, a_4, a_5, a_6, a_7, a_8, a_9, a_10, a_11, a_12, a_13, a_14, a_15, a_16, a_17, a_18, a_19, a_20, a_21, a_22, a_23, a_24, f_c0, f_c1, f_c2, f_c3, f_c4, f_c5, f_c6, f_c7, f_c8, f_c9, f_c10, f_c11, f_c12, f_c13, f_c14, f_c15, f_c16, p_nil, p_cons, pk_of, Option.bind_some, Option.bind_none, List.getElem?_cons_zero, List.getElem?_cons_succ, decide_eq_true_eq, if_true, if_false, Bool.not_eq_true', Bool.false_eq_true, Bool.true_eq_false, reduceCtorEq, ne_eq, not_false_eq_true, not_true_eq_false, decide_true, decide_false, Int.toNat_natCast, Int.natCast_zero, Bool.not_true, Bool.not_false])]
    simp [encs]
  | succ d ih =>
    intro i fuel acc hd hi hf hb
    obtain ⟨fuel, rfl⟩ : ∃ m, fuel = m + 1 := ⟨fuel - 1, by omega⟩
    have hlt : i < l.length := by omega
    have h1 : ((i : Int) < l.length) := by omega
    have ea : (l.map (V.int .i64))[i]? = some (.int .i64 l[i]) := by simp [hlt]
    have hda : l.drop i = l[i] :: l.drop (i + 1) := List.drop_eq_getElem_cons hlt
    have hx := hr l[i] (List.getElem_mem hlt)
    have h32 := s32n l[i] hx
    have h10 := enc_len_10 l[i] hx.1 hx.2
    have hs : (acc.length + (enc l[i]).length) * 1 ≤ 140737488355328 := by omega
    have eb : acc.map (V.int .u8) ++ (enc l[i]).map (V.int .u8) = (acc ++ enc l[i]).map (V.int .u8) := by simp
    rw [lp_norm (vs' := [u8s (acc ++ enc l[i]), .unit, .int .i64 ((i + 1 : Nat) : Int)]) (by simp only [F22_0_b0, i64s, u8s, h1, ea, h32, hs, eb, w_succ (show i < 4611686018427387904 by omega), List.length_map, and_self, false_implies, o_add, o_sub, o_mul, o_quo, o_rem, o_and, o_or, o_eql, o_neq, o_lss, o_leq, o_gtr, o_geq, o_shl, o_shr, o_seql, o_sneq, o_beql, o_bneq, o_ieql, o_ineq, o_neql, o_nneq, o_not, o_neg, o_notv, o_pickT, o_pickF, o_pick, o_conv, o_len, o_lens, o_idxN, o_eix, o_ldiI, o_ldiI0, o_slcL, o_slcH, o_app, o_mk1, o_ifc, o_str, o_byt, c_int, c_bool, c_str, c_list, c_agg, c_iface, c_nilI, c_unit2, c_unit, c_true, i_te, g_T, g_F, g_u, b_norm, b_exitN, b_exitI, Nat.one_ne_zero, Nat.zero_ne_one, Nat.reduceEqDiff, b_ret, b_none, b_ite, a_0, a_1, a_2, a_3, a_4, a_5, a_6, a_7, a_8, a_9, a_10, a_11, a_12, a_13, a_14, a_15, a_16, a_17, a_18, a_19, a_20, a_21, a_22, a_23, a_24, f_c0, f_c1, f_c2, f_c3, f_c4, f_c5, f_c6, f_c7, f_c8, f_c9, f_c10, f_c11, f_c12, f_c13, f_c14, f_c15, f_c16, p_nil, p_cons, pk_of, Option.bind_some, Option.bind_none, List.getElem?_cons_zero, List.getElem?_cons_succ, decide_eq_true_eq, if_true, if_false, Bool.not_eq_true', Bool.false_eq_true, Bool.true_eq_false, reduceCtorEq, ne_eq, not_false_eq_true, not_true_eq_false, decide_true, decide_false, Int.toNat_natCast, Int.natCast_zero, Bool.not_true, Bool.not_false])]
    rw [ih (i + 1) fuel _ (by omega) (by omega) (by omega) (by simp; omega), show encs (l.drop i) = enc l[i] ++ encs (l.drop (i + 1)) from by rw [hda]; rfl, List.append_assoc]
theorem s22 (acc l : List Int) (hr : ∀ x ∈ l, R64 x) (hb : acc.length + 10 * l.length < 140737488355000) : Fix T 22 0 [[u8s acc], [i64s l]] = some [[u8s (acc ++ encs l)]] := by
  refine e22_0 (l.length + 1) ?_
  have h : lpV [1, 1, 1] (F22_0_b0 (Fix T) (l.length + 1) (i64s l) (.int .i64 l.length)) (l.length + 1) [u8s acc, .unit, .int .i64 0] = _ := s22_loop (l.length + 1) l hr (by omega) l.length 0 (l.length + 1) acc (by omega) (by omega) (by omega) (by omega)
  rw [List.drop_zero] at h
  unfold i64s u8s at h ⊢
  simp only [F22_0, h, List.length_map, o_add, o_sub, o_mul, o_quo, o_rem, o_and, o_or, o_eql, o_neq, o_lss, o_leq, o_gtr, o_geq, o_shl, o_shr, o_seql, o_sneq, o_beql, o_bneq, o_ieql, o_ineq, o_neql, o_nneq, o_not, o_neg, o_notv, o_pickT, o_pickF, o_pick, o_conv, o_len, o_lens, o_idxN, o_eix, o_ldiI, o_ldiI0, o_slcL, o_slcH, o_app, o_mk1, o_ifc, o_str, o_byt, c_int, c_bool, c_str, c_list, c_agg, c_iface, c_nilI, c_unit2, c_unit, c_true, i_te, g_T, g_F, g_u, b_norm, b_exitN, b_exitI, Nat.one_ne_zero, Nat.zero_ne_one, Nat.reduceEqDiff, b_ret, b_none, b_ite, a_0, a_1, a_2, a_3, a_4, a_5, a_6, a_7, a_8, a_9, a_10, a_11, a_12, a_13, a_14, a_15, a_16, a_17, a_18, a_19, a_20, a_21, a_22, a_23, a_24, f_c0, f_c1, f_c2, f_c3, f_c4, f_c5, f_c6, f_c7, f_c8, f_c9, f_c10, f_c11, f_c12, f_c13, f_c14, f_c15, f_c16, p_nil, p_cons, pk_of, Option.bind_some, Option.bind_none, List.getElem?_cons_zero, List.getElem?_cons_succ, decide_eq_true_eq, if_true, if_false, Bool.not_eq_true', Bool.false_eq_true, Bool.true_eq_false, reduceCtorEq, ne_eq, not_false_eq_true, not_true_eq_false, decide_true, decide_false, Int.toNat_natCast, Int.natCast_zero, Bool.not_true, Bool.not_false]
theorem s23 (acc l : List Int) (hr : ∀ x ∈ l, R64 x) (hb : acc.length + 10 * l.length + 10 < 140737488355000) : Fix T 23 0 [[u8s acc], [i64s l]] = some [[u8s (acc ++ enc l.length ++ encs l)]] := by
  refine e23_0 0 ?_
  have hn : R64 (l.length : Int) := by constructor <;> omega
  have h10 := enc_len_10 (l.length : Int) hn.1 hn.2
  have h1 := s22 acc [(l.length : Int)] (by simpa using hn) (by simp; omega)
  have h2 := s22 (acc ++ enc l.length) l hr (by simp; omega)
  have e1 : encs [(l.length : Int)] = enc l.length := by simp [encs]
  rw [e1] at h1
  unfold i64s u8s at h1 h2 ⊢
  simp only [List.map_cons, List.map_nil] at h1
  simp only [F23_0, h1, h2, List.length_map, o_add, o_sub, o_mul, o_quo, o_rem, o_and, o_or, o_eql, o_neq, o_lss, o_leq, o_gtr, o_geq, o_shl, o_shr, o_seql, o_sneq, o_beql, o_bneq, o_ieql, o_ineq, o_neql, o_nneq, o_not, o_neg, o_notv, o_pickT, o_pickF, o_pick, o_conv, o_len, o_lens, o_idxN, o_eix, o_ldiI, o_ldiI0, o_slcL, o_slcH, o_app, o_mk1, o_ifc, o_str, o_byt, c_int, c_bool, c_str, c_list, c_agg, c_iface, c_nilI, c_unit2, c_unit, c_true, i_te, g_T, g_F, g_u, b_norm, b_exitN, b_exitI, Nat.one_ne_zero, Nat.zero_ne_one, Nat.reduceEqDiff, b_ret, b_none, b_ite, a_0, a_1, a_2, a_3, a_4, a_5, a_6, a_7, a_8, a_9, a_10, a_11, a_12, a_13, a_14, a_15, a_16, a_17, a_18, a_19, a_20, a_21, a_22, a_23, a_24, f_c0, f_c1, f_c2, f_c3, f_c4, f_c5, f_c6, f_c7, f_c8, f_c9, f_c10, f_c11, f_c12, f_c13, f_c14, f_c15, f_c16, p_nil, p_cons, pk_of, Option.bind_some, Option.bind_none, List.getElem?_cons_zero, List.getElem?_cons_succ, decide_eq_true_eq, if_true, if_false, Bool.not_eq_true', Bool.false_eq_true, Bool.true_eq_false, reduceCtorEq, ne_eq, not_false_eq_true, not_true_eq_false, decide_true, decide_false, Int.toNat_natCast, Int.natCast_zero, Bool.not_true, Bool.not_false]
def strB (s : ByteArray) : List Int := s.data.toList.map fun b => (b.toNat : Int)
theorem o_aps' {Φ : Funs} {e : TypeId} {xs : List V} {s : ByteArray} {f : V → TR} : op1V Φ (.aps e 1) [[.list e xs], [.str s]] f = if xs.length + s.size ≤ 140737488355328 then f (.list e (xs ++ (strB s).map (V.int .u8))) else none := by
  have e1 : (strB s).map (V.int .u8) = s.data.toList.map fun b => V.int .u8 b.toNat := by simp [strB]
  rw [e1]
  by_cases h : xs.length + s.size ≤ 140737488355328
  · simp only [op1V, VF.sem, Nat.mul_one, h, and_self, if_true]; rfl
  · simp only [op1V, VF.sem, Nat.mul_one, h, and_false, if_false]; rfl
theorem s7 (acc : List Int) (s : ByteArray) (hb : acc.length + s.size + 10 < 140737488355000) : Fix T 7 0 [[u8s acc], [.str s]] = some [[u8s (acc ++ enc s.size ++ strB s)]] := by
  refine e7_0 0 ?_
  have hn : R64 (s.size : Int) := by constructor <;> omega
  have h10 := enc_len_10 (s.size : Int) hn.1 hn.2
  have h1 := s22 acc [(s.size : Int)] (by simpa using hn) (by simp; omega)
  have e1 : encs [(s.size : Int)] = enc s.size := by simp [encs]
  rw [e1] at h1
  have hs : (acc ++ enc (s.size : Int)).length + s.size ≤ 140737488355328 := by simp; omega
  have eb : (acc ++ enc (s.size : Int)).map (V.int .u8) ++ (strB s).map (V.int .u8) = (acc ++ enc s.size ++ strB s).map (V.int .u8) := by simp
  unfold i64s at h1
  unfold u8s at h1 ⊢
  simp only [List.map_cons, List.map_nil] at h1
  simp only [F7_0, h1, o_aps', hs, eb, List.length_map, o_add, o_sub, o_mul, o_quo, o_rem, o_and, o_or, o_eql, o_neq, o_lss, o_leq, o_gtr, o_geq, o_shl, o_shr, o_seql, o_sneq, o_beql, o_bneq, o_ieql, o_ineq, o_neql, o_nneq, o_not, o_neg, o_notv, o_pickT, o_pickF, o_pick, o_conv, o_len, o_lens, o_idxN, o_eix, o_ldiI, o_ldiI0, o_slcL, o_slcH, o_app, o_mk1, o_ifc, o_str, o_byt, c_int, c_bool, c_str, c_list, c_agg, c_iface, c_nilI, c_unit2, c_unit, c_true, i_te, g_T, g_F, g_u, b_norm, b_exitN, b_exitI, Nat.one_ne_zero, Nat.zero_ne_one, Nat.reduceEqDiff, b_ret, b_none, b_ite, a_0, a_1, a_2, a_3, a_4, a_5, a_6, a_7, a_8, a_9, a_10, a_11, a_12, a_13, a_14, a_15, a_16, a_17, a_18, a_19, a_20, a_21, a_22, a_23, a_24, f_c0, f_c1, f_c2, f_c3, f_c4, f_c5, f_c6, f_c7, f_c8, f_c9, f_c10, f_c11, f_c12, f_c13, f_c14, f_c15, f_c16, p_nil, p_cons, pk_of, Option.bind_some, Option.bind_none, List.getElem?_cons_zero, List.getElem?_cons_succ, decide_eq_true_eq, if_true, if_false, Bool.not_eq_true', Bool.false_eq_true, Bool.true_eq_false, reduceCtorEq, ne_eq, not_false_eq_true, not_true_eq_false, decide_true, decide_false, Int.toNat_natCast, Int.natCast_zero, Bool.not_true, Bool.not_false]
theorem s8 (acc : List Int) (hb : acc.length < 140737488355000) : Fix T 8 0 [[u8s acc]] = some [[u8s acc]] := by
  refine e8_0 0 ?_
  have h := s24 acc (by omega)
  unfold u8s at h ⊢
  simp only [F8_0, h, o_add, o_sub, o_mul, o_quo, o_rem, o_and, o_or, o_eql, o_neq, o_lss, o_leq, o_gtr, o_geq, o_shl, o_shr, o_seql, o_sneq, o_beql, o_bneq, o_ieql, o_ineq, o_neql, o_nneq, o_not, o_neg, o_notv, o_pickT, o_pickF, o_pick, o_conv, o_len, o_lens, o_idxN, o_eix, o_ldiI, o_ldiI0, o_slcL, o_slcH, o_app, o_mk1, o_ifc, o_str, o_byt, c_int, c_bool, c_str, c_list, c_agg, c_iface, c_nilI, c_unit2, c_unit, c_true, i_te, g_T, g_F, g_u, b_norm, b_exitN, b_exitI, Nat.one_ne_zero, Nat.zero_ne_one, Nat.reduceEqDiff, b_ret, b_none, b_ite, a_0, a_1, a_2, a_3, a_4, a_5, a_6, a_7, a_8, a_9, a_10, a_11, a_12, a_13, a_14, a_15, a_16, a_17, a_18, a_19, a_20, a_21, a_22, a_23, a_24, f_c0, f_c1, f_c2, f_c3, f_c4, f_c5, f_c6, f_c7, f_c8, f_c9, f_c10, f_c11, f_c12, f_c13, f_c14, f_c15, f_c16, p_nil, p_cons, pk_of, Option.bind_some, Option.bind_none, List.getElem?_cons_zero, List.getElem?_cons_succ, decide_eq_true_eq, if_true, if_false, Bool.not_eq_true', Bool.false_eq_true, Bool.true_eq_false, reduceCtorEq, ne_eq, not_false_eq_true, not_true_eq_false, decide_true, decide_false, Int.toNat_natCast, Int.natCast_zero, Bool.not_true, Bool.not_false]
/-- a field, as its values -/
structure Fld where
  k : Int
  n : Int
  l : List Int
  s : ByteArray
  many : Int
  lo : Int
  hi : Int
def Fld.vs (f : Fld) : List V := [.int .u8 f.k, .int .i64 f.n, i64s f.l, .str f.s, .int .i64 f.many, .int .i64 f.lo, .int .i64 f.hi]
structure Fld.OK (f : Fld) : Prop where
  k : 0 ≤ f.k ∧ f.k < 256
  n : R64 f.n
  l : ∀ x ∈ f.l, R64 x
  ll : f.l.length < 2 ^ 62
  ss : f.s.size < 2 ^ 62
  many : R64 f.many
  lo : R64 f.lo
  hi : R64 f.hi
/-- what a field is written as -/
def Fld.enc (f : Fld) : List Int := if f.k = 0 then Go.Proofs.YtogfkdpgkloljaaDoorVs.enc f.n else if f.k = 1 then Go.Proofs.YtogfkdpgkloljaaDoorVs.enc f.l.length ++ encs f.l else Go.Proofs.YtogfkdpgkloljaaDoorVs.enc f.s.size ++ strB f.s
theorem s6 (acc : List Int) (f : Fld) (h : f.OK) (hb : acc.length + 10 * f.l.length + f.s.size + 10 < 140737488355000) : Fix T 6 0 [[u8s acc], f.vs] = some [[u8s (acc ++ f.enc)]] := by
  obtain ⟨k, n, l, s, many, lo, hi⟩ := f
  refine e6_0 0 ?_
  simp only at hb
  have hn : R64 n := h.n
  have h1 := s22 acc [n] (by simpa using hn) (by simp; omega)
  have h2 := s23 acc l h.l (by omega)
  have h3 := s7 acc s (by omega)
  have e1 : encs [n] = enc n := by simp [encs]
  rw [e1] at h1
  unfold i64s at h1
  simp only [List.map_cons, List.map_nil] at h1
  unfold Fld.enc
  by_cases hk : k = 0
  · subst hk
    unfold i64s u8s at *
    simp only [F6_0, h1, h2, h3, o_add, o_sub, o_mul, o_quo, o_rem, o_and, o_or, o_eql, o_neq, o_lss, o_leq, o_gtr, o_geq, o_shl, o_shr, o_seql, o_sneq, o_beql, o_bneq, o_ieql, o_ineq, o_neql, o_nneq, o_not, o_neg, o_notv, o_pickT, o_pickF, o_pick, o_conv, o_len, o_lens, o_idxN, o_eix, o_ldiI, o_ldiI0, o_slcL, o_slcH, o_app, o_mk1, o_ifc, o_str, o_byt, c_int, c_bool, c_str, c_list, c_agg, c_iface, c_nilI, c_unit2, c_unit, c_true, i_te, g_T, g_F, g_u, b_norm, b_exitN, b_exitI, Nat.one_ne_zero, Nat.zero_ne_one, Nat.reduceEqDiff, b_ret, b_none, b_ite, a_0, a_1, a_2, a_3, a_4, a_5, a_6, a_7, a_8, a_9, a_10, a_11, a_12, a_13, a_14, a_15, a_16, a_17, a_18, a_19, a_20, a_21, a_22, a_23, a_24, f_c0, f_c1, f_c2, f_c3, f_c4, f_c5, f_c6, f_c7, f_c8, f_c9, f_c10, f_c11, f_c12, f_c13, f_c14, f_c15, f_c16, p_nil, p_cons, pk_of, Option.bind_some, Option.bind_none, List.getElem?_cons_zero, List.getElem?_cons_succ, decide_eq_true_eq, if_true, if_false, Bool.not_eq_true', Bool.false_eq_true, Bool.true_eq_false, reduceCtorEq, ne_eq, not_false_eq_true, not_true_eq_false, decide_true, decide_false, Int.toNat_natCast, Int.natCast_zero, Bool.not_true, Bool.not_false]
  · by_cases hk1 : k = 1
    · subst hk1
      unfold i64s u8s at *
      simp only [F6_0, h1, h2, h3, o_add, o_sub, o_mul, o_quo, o_rem, o_and, o_or, o_eql, o_neq, o_lss, o_leq, o_gtr, o_geq, o_shl, o_shr, o_seql, o_sneq, o_beql, o_bneq, o_ieql, o_ineq, o_neql, o_nneq, o_not, o_neg, o_notv, o_pickT, o_pickF, o_pick, o_conv, o_len, o_lens, o_idxN, o_eix, o_ldiI, o_ldiI0, o_slcL, o_slcH, o_app, o_mk1, o_ifc, o_str, o_byt, c_int, c_bool, c_str, c_list, c_agg, c_iface, c_nilI, c_unit2, c_unit, c_true, i_te, g_T, g_F, g_u, b_norm, b_exitN, b_exitI, Nat.one_ne_zero, Nat.zero_ne_one, Nat.reduceEqDiff, b_ret, b_none, b_ite, a_0, a_1, a_2, a_3, a_4, a_5, a_6, a_7, a_8, a_9, a_10, a_11, a_12, a_13, a_14, a_15, a_16, a_17, a_18, a_19, a_20, a_21, a_22, a_23, a_24, f_c0, f_c1, f_c2, f_c3, f_c4, f_c5, f_c6, f_c7, f_c8, f_c9, f_c10, f_c11, f_c12, f_c13, f_c14, f_c15, f_c16, p_nil, p_cons, pk_of, Option.bind_some, Option.bind_none, List.getElem?_cons_zero, List.getElem?_cons_succ, decide_eq_true_eq, if_true, if_false, Bool.not_eq_true', Bool.false_eq_true, Bool.true_eq_false, reduceCtorEq, ne_eq, not_false_eq_true, not_true_eq_false, decide_true, decide_false, Int.toNat_natCast, Int.natCast_zero, Bool.not_true, Bool.not_false]
      simp
    · unfold i64s u8s at *
      simp only [F6_0, h1, h2, h3, hk, hk1, o_add, o_sub, o_mul, o_quo, o_rem, o_and, o_or, o_eql, o_neq, o_lss, o_leq, o_gtr, o_geq, o_shl, o_shr, o_seql, o_sneq, o_beql, o_bneq, o_ieql, o_ineq, o_neql, o_nneq, o_not, o_neg, o_notv, o_pickT, o_pickF, o_pick, o_conv, o_len, o_lens, o_idxN, o_eix, o_ldiI, o_ldiI0, o_slcL, o_slcH, o_app, o_mk1, o_ifc, o_str, o_byt, c_int, c_bool, c_str, c_list, c_agg, c_iface, c_nilI, c_unit2, c_unit, c_true, i_te, g_T, g_F, g_u, b_norm, b_exitN, b_exitI, Nat.one_ne_zero, Nat.zero_ne_one, Nat.reduceEqDiff, b_ret, b_none, b_ite, a_0, a_1, a_2, a_3, a_4, a_5, a_6, a_7, a_8, a_9, a_10, a_11, a_12, a_13, a_14, a_15, a_16, a_17, a_18, a_19, a_20, a_21, a_22, a_23, a_24, f_c0, f_c1, f_c2, f_c3, f_c4, f_c5, f_c6, f_c7, f_c8, f_c9, f_c10, f_c11, f_c12, f_c13, f_c14, f_c15, f_c16, p_nil, p_cons, pk_of, Option.bind_some, Option.bind_none, List.getElem?_cons_zero, List.getElem?_cons_succ, decide_eq_true_eq, if_true, if_false, Bool.not_eq_true', Bool.false_eq_true, Bool.true_eq_false, reduceCtorEq, ne_eq, not_false_eq_true, not_true_eq_false, decide_true, decide_false, Int.toNat_natCast, Int.natCast_zero, Bool.not_true, Bool.not_false]
      simp
end Go.Proofs.YtogfkdpgkloljaaDoorVs
set_option linter.unusedVariables false
set_option linter.unusedSimpArgs false
set_option maxRecDepth 100000
namespace Go.Proofs.YtogfkdpgkloljaaDoorVs
theorem tmod128 (n : Int) : Int.tmod n 128 = n % 128 ∨ (Int.tmod n 128 < 0 ∧ Int.tmod n 128 + 128 = n % 128) := by
  rcases Int.le_total 0 n with h | h
  · left; exact Int.tmod_eq_emod_of_nonneg h
  · have h1 := @Int.tmod_eq_emod n 128
    by_cases hd : (128 : Int) ∣ n
    · left; rw [h1]; simp [hd]
    · by_cases h0 : 0 ≤ n
      · left; exact Int.tmod_eq_emod_of_nonneg h0
      · right
        rw [h1, if_neg (by simp [hd, h0])]
        have := Int.emod_lt_of_pos n (show (0 : Int) < 128 by decide)
        have e : ((Int.natAbs 128 : Nat) : Int) = 128 := rfl
        rw [e]
        omega
theorem tdiv128 (q : Int) : Int.tdiv (128 * q) 128 = q := Int.mul_tdiv_cancel_left q (by decide)
theorem ref_rnd (n : Nat) (m : Int) (hm : R64 m) (acc : List Int) (hl : acc.length < 140737488355328) (i : Nat) (hi : i ≤ 9) :
    F30_0_b0 (Fix T) n [.int .i64 m, .unit, .list 5 [], u8s acc, .unit, .int .i64 i] = if -64 ≤ m ∧ m < 64 then some (.ret [[u8s (acc ++ [m % 128])]]) else some (.norm [1, 1, 1, 1, 1, 1] [.int .i64 (m / 128), .unit, .list 5 [], u8s (acc ++ [m % 128 + 128]), .unit, .int .i64 ((i + 1 : Nat) : Int)]) := by
  obtain ⟨hm1, hm2⟩ := hm
  have h10 : ((i : Int) < 10) := by omega
  have h128 : ¬ ((128 : Int) = 0) := by decide
  have w1 : IntKind.i64.wrap (m - m % 128) = 128 * (m / 128) := by rw [w_i64 (by omega)]; omega
  have w2 : IntKind.i64.wrap (m / 128) = m / 128 := w_i64 (by omega)
  have w3 : IntKind.i64.wrap (m % 128 + 128) = m % 128 + 128 := w_i64 (by omega)
  have w4 : IntKind.u8.wrap (m % 128 + 128) = m % 128 + 128 := u8_wrap (by omega)
  have w5 : Int.tmod (m % 128) 128 = m % 128 := by rw [Int.tmod_eq_emod_of_nonneg (by omega)]; omega
  have ws := w_succ (show i < 4611686018427387904 by omega)
  have hs : (acc.length + 1) * 1 ≤ 140737488355328 := by omega
  have ea : acc.map (V.int .u8) ++ [V.int .u8 (m % 128)] = (acc ++ [m % 128]).map (V.int .u8) := by simp
  have eb : acc.map (V.int .u8) ++ [V.int .u8 (m % 128 + 128)] = (acc ++ [m % 128 + 128]).map (V.int .u8) := by simp
  have h00 : ¬ (m % 128 < 0) := by omega
  unfold u8s
  rcases tmod128 m with e | ⟨e1, e2⟩
  · by_cases h9 : (i : Int) = 9 <;> by_cases a1 : m / 128 = 0 <;> by_cases a2 : m / 128 = -1 <;> by_cases a3 : m % 128 < 64 <;> by_cases hc : -64 ≤ m ∧ m < 64 <;>
      first
        | (exfalso; omega)
        | ((first | have b9 := eq_false h9 | have b9 := eq_true h9)
           (first | have b1 := eq_false a1 | have b1 := eq_true a1)
           (first | have b2 := eq_false a2 | have b2 := eq_true a2)
           (first | have b3 := eq_false a3 | have b3 := eq_true a3)
           (first | have b4 : (64 ≤ m % 128) = False := eq_false (by omega) | have b4 : (64 ≤ m % 128) = True := eq_true (by omega))
           simp only [F30_0_b0, e, h00, h10, h128, w1, w2, w3, w4, w5, wrapmod, tdiv128, b9, b1, b2, b3, b4, hc, hs, ea, eb, ws, List.length_map, List.length_singleton, List.length_cons, List.length_nil, Nat.zero_add, and_self, false_implies, o_add, o_sub, o_mul, o_quo, o_rem, o_and, o_or, o_eql, o_neq, o_lss, o_leq, o_gtr, o_geq, o_shl, o_shr, o_seql, o_sneq, o_beql, o_bneq, o_ieql, o_ineq, o_neql, o_nneq, o_not, o_neg, o_notv, o_pickT, o_pickF, o_pick, o_conv, o_len, o_lens, o_idxN, o_eix, o_ldiI, o_ldiI0, o_slcL, o_slcH, o_app, o_mk1, o_ifc, o_str, o_byt, c_int, c_bool, c_str, c_list, c_agg, c_iface, c_nilI, c_unit2, c_unit, c_true, i_te, g_T, g_F, g_u, b_norm, b_exitN, b_exitI, Nat.one_ne_zero, Nat.zero_ne_one, Nat.reduceEqDiff, b_ret, b_none, b_ite, a_0, a_1, a_2, a_3, a_4, a_5, a_6, a_7, a_8, a_9, a_10, a_11, a_12, a_13, a_14, a_15, a_16, a_17, a_18, a_19, a_20, a_21, a_22, a_23, a_24, f_c0, f_c1, f_c2, f_c3, f_c4, f_c5, f_c6, f_c7, f_c8, f_c9, f_c10, f_c11, f_c12, f_c13, f_c14, f_c15, f_c16, p_nil, p_cons, pk_of, Option.bind_some, Option.bind_none, List.getElem?_cons_zero, List.getElem?_cons_succ, decide_eq_true_eq, if_true, if_false, Bool.not_eq_true', Bool.false_eq_true, Bool.true_eq_false, reduceCtorEq, ne_eq, not_false_eq_true, not_true_eq_false, decide_true, decide_false, Int.toNat_natCast, Int.natCast_zero, Bool.not_true, Bool.not_false])
  · have w6 : IntKind.i64.wrap (m.tmod 128 + 128) = m % 128 := by rw [e2, w_i64 (by omega)]
    by_cases h9 : (i : Int) = 9 <;> by_cases a1 : m / 128 = 0 <;> by_cases a2 : m / 128 = -1 <;> by_cases a3 : m % 128 < 64 <;> by_cases hc : -64 ≤ m ∧ m < 64 <;>
      first
        | (exfalso; omega)
        | ((first | have b9 := eq_false h9 | have b9 := eq_true h9)
           (first | have b1 := eq_false a1 | have b1 := eq_true a1)
           (first | have b2 := eq_false a2 | have b2 := eq_true a2)
           (first | have b3 := eq_false a3 | have b3 := eq_true a3)
           (first | have b4 : (64 ≤ m % 128) = False := eq_false (by omega) | have b4 : (64 ≤ m % 128) = True := eq_true (by omega))
           simp only [F30_0_b0, e1, w6, h00, h10, h128, w1, w2, w3, w4, w5, wrapmod, tdiv128, b9, b1, b2, b3, b4, hc, hs, ea, eb, ws, List.length_map, List.length_singleton, List.length_cons, List.length_nil, Nat.zero_add, and_self, false_implies, o_add, o_sub, o_mul, o_quo, o_rem, o_and, o_or, o_eql, o_neq, o_lss, o_leq, o_gtr, o_geq, o_shl, o_shr, o_seql, o_sneq, o_beql, o_bneq, o_ieql, o_ineq, o_neql, o_nneq, o_not, o_neg, o_notv, o_pickT, o_pickF, o_pick, o_conv, o_len, o_lens, o_idxN, o_eix, o_ldiI, o_ldiI0, o_slcL, o_slcH, o_app, o_mk1, o_ifc, o_str, o_byt, c_int, c_bool, c_str, c_list, c_agg, c_iface, c_nilI, c_unit2, c_unit, c_true, i_te, g_T, g_F, g_u, b_norm, b_exitN, b_exitI, Nat.one_ne_zero, Nat.zero_ne_one, Nat.reduceEqDiff, b_ret, b_none, b_ite, a_0, a_1, a_2, a_3, a_4, a_5, a_6, a_7, a_8, a_9, a_10, a_11, a_12, a_13, a_14, a_15, a_16, a_17, a_18, a_19, a_20, a_21, a_22, a_23, a_24, f_c0, f_c1, f_c2, f_c3, f_c4, f_c5, f_c6, f_c7, f_c8, f_c9, f_c10, f_c11, f_c12, f_c13, f_c14, f_c15, f_c16, p_nil, p_cons, pk_of, Option.bind_some, Option.bind_none, List.getElem?_cons_zero, List.getElem?_cons_succ, decide_eq_true_eq, if_true, if_false, Bool.not_eq_true', Bool.false_eq_true, Bool.true_eq_false, reduceCtorEq, ne_eq, not_false_eq_true, not_true_eq_false, decide_true, decide_false, Int.toNat_natCast, Int.natCast_zero, Bool.not_true, Bool.not_false])
end Go.Proofs.YtogfkdpgkloljaaDoorVs
set_option linter.unusedVariables false
set_option linter.unusedSimpArgs false
set_option maxRecDepth 100000
namespace Go.Proofs.YtogfkdpgkloljaaDoorVs
theorem ref_loop (n : Nat) : ∀ (d : Nat) (m : Int), -(64 * 128 ^ d) ≤ m → m < 64 * 128 ^ d → R64 m → ∀ (fuel i : Nat) (acc : List Int), d < fuel → i + d ≤ 9 → acc.length + d < 140737488355328 →
    lpV [1, 1, 1, 1, 1, 1] (F30_0_b0 (Fix T) n) fuel [.int .i64 m, .unit, .list 5 [], u8s acc, .unit, .int .i64 i] = some (.ret [[u8s (acc ++ enc m)]]) := by
  intro d
  induction d with
  | zero =>
    intro m h1 h2 hm fuel i acc hf hi hl
    obtain ⟨fuel, rfl⟩ : ∃ k, fuel = k + 1 := ⟨fuel - 1, by omega⟩
    have h := ref_rnd n m hm acc (by omega) i (by omega)
    have hc : -64 ≤ m ∧ m < 64 := by omega
    rw [if_pos hc] at h
    rw [lp_ret h, enc_small hc]
  | succ d ih =>
    intro m h1 h2 hm fuel i acc hf hi hl
    obtain ⟨fuel, rfl⟩ : ∃ k, fuel = k + 1 := ⟨fuel - 1, by omega⟩
    have h := ref_rnd n m hm acc (by omega) i (by omega)
    by_cases hc : -64 ≤ m ∧ m < 64
    · rw [if_pos hc] at h
      rw [lp_ret h, enc_small hc]
    · rw [if_neg hc] at h
      obtain ⟨hm1, hm2⟩ := hm
      rw [lp_norm h, ih (m / 128) (by rw [Int.pow_succ] at h1; omega) (by rw [Int.pow_succ] at h2; omega) ⟨by omega, by omega⟩ fuel (i + 1) _ (by omega) (by omega) (by simp; omega), enc_big hc]
      simp
theorem u8_scalar (l : List Int) : (l.map (V.int .u8)).all scalarE = true := by simp [List.all_map, Function.comp_def, scalarE, scalarV]
theorem s30 (acc : List Int) (m : Int) (hm : R64 m) (hl : acc.length < 140737488355000) : Fix T 30 0 [[u8s acc], [.int .i64 m]] = some [[u8s (acc ++ enc m)]] := by
  refine e30_0 10 ?_
  have hp : (64 : Int) * 128 ^ 9 = 590295810358705651712 := by decide
  obtain ⟨hm1, hm2⟩ := id hm
  have h : lpV [1, 1, 1, 1, 1, 1] (F30_0_b0 (Fix T) 10) 10 [.int .i64 m, .unit, .list 5 [], u8s acc, .unit, .int .i64 0] = _ := ref_loop 10 9 m (by omega) (by omega) hm 10 0 acc (by omega) (by omega) (by omega)
  have hs := u8_scalar acc
  have hs2 : (0 + acc.length) * 1 ≤ 140737488355328 := by omega
  unfold u8s at h ⊢
  simp only [F30_0, h, hs, hs2, List.length_map, List.length_nil, List.nil_append, implies_true, and_self, o_add, o_sub, o_mul, o_quo, o_rem, o_and, o_or, o_eql, o_neq, o_lss, o_leq, o_gtr, o_geq, o_shl, o_shr, o_seql, o_sneq, o_beql, o_bneq, o_ieql, o_ineq, o_neql, o_nneq, o_not, o_neg, o_notv, o_pickT, o_pickF, o_pick, o_conv, o_len, o_lens, o_idxN, o_eix, o_ldiI, o_ldiI0, o_slcL, o_slcH, o_app, o_mk1, o_ifc, o_str, o_byt, c_int, c_bool, c_str, c_list, c_agg, c_iface, c_nilI, c_unit2, c_unit, c_true, i_te, g_T, g_F, g_u, b_norm, b_exitN, b_exitI, Nat.one_ne_zero, Nat.zero_ne_one, Nat.reduceEqDiff, b_ret, b_none, b_ite, a_0, a_1, a_2, a_3, a_4, a_5, a_6, a_7, a_8, a_9, a_10, a_11, a_12, a_13, a_14, a_15, a_16, a_17, a_18, a_19, a_20, a_21, a_22, a_23, a_24, f_c0, f_c1, f_c2, f_c3, f_c4, f_c5, f_c6, f_c7, f_c8, f_c9, f_c10, f_c11, f_c12, f_c13, f_c14, f_c15, f_c16, p_nil, p_cons, pk_of, Option.bind_some, Option.bind_none, List.getElem?_cons_zero, List.getElem?_cons_succ, decide_eq_true_eq, if_true, if_false, Bool.not_eq_true', Bool.false_eq_true, Bool.true_eq_false, reduceCtorEq, ne_eq, not_false_eq_true, not_true_eq_false, decide_true, decide_false, Int.toNat_natCast, Int.natCast_zero, Bool.not_true, Bool.not_false]
theorem s17_loop (n : Nat) (l : List Int) (hr : ∀ x ∈ l, R64 x) (hl : l.length < 2 ^ 62) : ∀ (d i fuel : Nat) (acc : List Int), l.length - i = d → i ≤ l.length → d < fuel → acc.length + 10 * d < 140737488355000 →
    lpV [1, 1, 1] (F17_0_b0 (Fix T) n (i64s l)) fuel [.unit, u8s acc, .int .i64 i] = some (.exit 1 [1, 1, 1] [.unit, u8s (acc ++ encs (l.drop i)), .int .i64 l.length]) := by
  intro d
  induction d with
  | zero =>
    intro i fuel acc hd hi hf hb
    obtain ⟨fuel, rfl⟩ : ∃ m, fuel = m + 1 := ⟨fuel - 1, by omega⟩
    have : i = l.length := by omega
    subst this
    have h1 : ¬ ((l.length : Int) < l.length) := by omega
    rw [lp_exit (j := 1) (l' := [1, 1, 1]) (vs' := [.unit, u8s acc, .int .i64 l.length]) (by simp only [F17_0_b0, i64s, u8s, h1, List.length_map, o_add, o_sub, o_mul, o_quo, o_rem, o_and, o_or, o_eql, o_neq, o_lss, o_leq, o_gtr, o_geq, o_shl, o_shr, o_seql, o_sneq, o_beql, o_bneq, o_ieql, o_ineq, o_neql, o_nneq, o_not, o_neg, o_notv, o_pickT, o_pickF, o_pick, o_conv, o_len, o_lens, o_idxN, o_eix, o_ldiI, o_ldiI0, o_slcL, o_slcH, o_app, o_mk1, o_ifc, o_str, o_byt, c_int, c_bool, c_str, c_list, c_agg, c_iface, c_nilI, c_unit2, c_unit, c_true, i_te, g_T, g_F, g_u, b_norm, b_exitN, b_exitI, Nat.one_ne_zero, Nat.zero_ne_one, Nat.reduceEqDiff, b_ret, b_none, b_ite, a_0, a_1, a_2, a_3, a_4, a_5, a_6, a_7, a_8, a_9, a_10, a_11, a_12, a_13, a_14, a_15, a_16, a_17, a_18, a_19, a_20, a_21, a_22, a_23, a_24, f_c0, f_c1, f_c2, f_c3, f_c4, f_c5, f_c6, f_c7, f_c8, f_c9, f_c10, f_c11, f_c12, f_c13, f_c14, f_c15, f_c16, p_nil, p_cons, pk_of, Option.bind_some, Option.bind_none, List.getElem?_cons_zero, List.getElem?_cons_succ, decide_eq_true_eq, if_true, if_false, Bool.not_eq_true', Bool.false_eq_true, Bool.true_eq_false, reduceCtorEq, ne_eq, not_false_eq_true, not_true_eq_false, decide_true, decide_false, Int.toNat_natCast, Int.natCast_zero, Bool.not_true, Bool.not_false])]
    simp [encs]
  | succ d ih =>
    intro i fuel acc hd hi hf hb
    obtain ⟨fuel, rfl⟩ : ∃ m, fuel = m + 1 := ⟨fuel - 1, by omega⟩
    have hlt : i < l.length := by omega
    have h1 : ((i : Int) < l.length) := by omega
    have ea : (l.map (V.int .i64))[i]? = some (.int .i64 l[i]) := by simp [hlt]
    have hda : l.drop i = l[i] :: l.drop (i + 1) := List.drop_eq_getElem_cons hlt
    have hx := hr l[i] (List.getElem_mem hlt)
    have h30 := s30 acc l[i] hx (by omega)
    have h10 := enc_len_10 l[i] hx.1 hx.2
    unfold u8s at h30
    rw [lp_norm (vs' := [.unit, u8s (acc ++ enc l[i]), .int .i64 ((i + 1 : Nat) : Int)]) (by simp only [F17_0_b0, i64s, u8s, h1, ea, h30, w_succ (show i < 4611686018427387904 by omega), List.length_map, and_self, false_implies, o_add, o_sub, o_mul, o_quo, o_rem, o_and, o_or, o_eql, o_neq, o_lss, o_leq, o_gtr, o_geq, o_shl, o_shr, o_seql, o_sneq, o_beql, o_bneq, o_ieql, o_ineq, o_neql, o_nneq, o_not, o_neg, o_notv, o_pickT, o_pickF, o_pick, o_conv, o_len, o_lens, o_idxN, o_eix, o_ldiI, o_ldiI0, o_slcL, o_slcH, o_app, o_mk1, o_ifc, o_str, o_byt, c_int, c_bool, c_str, c_list, c_agg, c_iface, c_nilI, c_unit2, c_unit, c_true, i_te, g_T, g_F, g_u, b_norm, b_exitN, b_exitI, Nat.one_ne_zero, Nat.zero_ne_one, Nat.reduceEqDiff, b_ret, b_none, b_ite, a_0, a_1, a_2, a_3, a_4, a_5, a_6, a_7, a_8, a_9, a_10, a_11, a_12, a_13, a_14, a_15, a_16, a_17, a_18, a_19, a_20, a_21, a_22, a_23, a_24, f_c0, f_c1, f_c2, f_c3, f_c4, f_c5, f_c6, f_c7, f_c8, f_c9, f_c10, f_c11, f_c12, f_c13, f_c14, f_c15, f_c16, p_nil, p_cons, pk_of, Option.bind_some, Option.bind_none, List.getElem?_cons_zero, List.getElem?_cons_succ, decide_eq_true_eq, if_true, if_false, Bool.not_eq_true', Bool.false_eq_true, Bool.true_eq_false, reduceCtorEq, ne_eq, not_false_eq_true, not_true_eq_false, decide_true, decide_false, Int.toNat_natCast, Int.natCast_zero, Bool.not_true, Bool.not_false])]
    rw [ih (i + 1) fuel _ (by omega) (by omega) (by omega) (by simp; omega), show encs (l.drop i) = enc l[i] ++ encs (l.drop (i + 1)) from by rw [hda]; rfl, List.append_assoc]
theorem s17 (acc : List Int) (f : Fld) (h : f.OK) (hb : acc.length + 10 * f.l.length + f.s.size + 10 < 140737488355000) : Fix T 17 0 [[u8s acc], f.vs] = some [[u8s (acc ++ f.enc)]] := by
  obtain ⟨k, n, l, s, many, lo, hi⟩ := f
  refine e17_0 (l.length + 1) ?_
  simp only at hb
  have hl : R64 (l.length : Int) := by constructor <;> omega
  have hz : R64 (s.size : Int) := by constructor <;> omega
  have l10 := enc_len_10 (l.length : Int) hl.1 hl.2
  have z10 := enc_len_10 (s.size : Int) hz.1 hz.2
  have h1 := s30 acc n h.n (by omega)
  have h2 := s30 acc l.length hl (by omega)
  have h3 := s30 acc s.size hz (by omega)
  have h4 : lpV [1, 1, 1] (F17_0_b0 (Fix T) (l.length + 1) (i64s l)) (l.length + 1) [.unit, u8s (acc ++ enc l.length), .int .i64 0] = _ := s17_loop (l.length + 1) l h.l (by omega) l.length 0 (l.length + 1) (acc ++ enc l.length) (by omega) (by omega) (by omega) (by simp; omega)
  rw [List.drop_zero] at h4
  have e1 : (s.data.toList.map fun b => V.int .u8 b.toNat) = (strB s).map (V.int .u8) := by simp [strB]
  have e2 : (strB s).length = s.size := by simp [strB]
  have hs1 : s.size ≤ 140737488355328 := by omega
  have hs2 : ((acc ++ enc (s.size : Int)).length + s.size) * 1 ≤ 140737488355328 := by simp; omega
  have eb : (acc ++ enc (s.size : Int)).map (V.int .u8) ++ (strB s).map (V.int .u8) = (acc ++ enc s.size ++ strB s).map (V.int .u8) := by simp
  unfold Fld.enc
  dsimp only
  by_cases hk : k = 0
  · subst hk
    unfold i64s u8s at *
    simp only [F17_0, h1, o_add, o_sub, o_mul, o_quo, o_rem, o_and, o_or, o_eql, o_neq, o_lss, o_leq, o_gtr, o_geq, o_shl, o_shr, o_seql, o_sneq, o_beql, o_bneq, o_ieql, o_ineq, o_neql, o_nneq, o_not, o_neg, o_notv, o_pickT, o_pickF, o_pick, o_conv, o_len, o_lens, o_idxN, o_eix, o_ldiI, o_ldiI0, o_slcL, o_slcH, o_app, o_mk1, o_ifc, o_str, o_byt, c_int, c_bool, c_str, c_list, c_agg, c_iface, c_nilI, c_unit2, c_unit, c_true, i_te, g_T, g_F, g_u, b_norm, b_exitN, b_exitI, Nat.one_ne_zero, Nat.zero_ne_one, Nat.reduceEqDiff, b_ret, b_none, b_ite, a_0, a_1, a_2, a_3, a_4, a_5, a_6, a_7, a_8, a_9, a_10, a_11, a_12, a_13, a_14, a_15, a_16, a_17, a_18, a_19, a_20, a_21, a_22, a_23, a_24, f_c0, f_c1, f_c2, f_c3, f_c4, f_c5, f_c6, f_c7, f_c8, f_c9, f_c10, f_c11, f_c12, f_c13, f_c14, f_c15, f_c16, p_nil, p_cons, pk_of, Option.bind_some, Option.bind_none, List.getElem?_cons_zero, List.getElem?_cons_succ, decide_eq_true_eq, if_true, if_false, Bool.not_eq_true', Bool.false_eq_true, Bool.true_eq_false, reduceCtorEq, ne_eq, not_false_eq_true, not_true_eq_false, decide_true, decide_false, Int.toNat_natCast, Int.natCast_zero, Bool.not_true, Bool.not_false]
  · by_cases hk1 : k = 1
    · subst hk1
      unfold i64s u8s at *
      simp only [F17_0, List.length_map, h2, h4, o_add, o_sub, o_mul, o_quo, o_rem, o_and, o_or, o_eql, o_neq, o_lss, o_leq, o_gtr, o_geq, o_shl, o_shr, o_seql, o_sneq, o_beql, o_bneq, o_ieql, o_ineq, o_neql, o_nneq, o_not, o_neg, o_notv, o_pickT, o_pickF, o_pick, o_conv, o_len, o_lens, o_idxN, o_eix, o_ldiI, o_ldiI0, o_slcL, o_slcH, o_app, o_mk1, o_ifc, o_str, o_byt, c_int, c_bool, c_str, c_list, c_agg, c_iface, c_nilI, c_unit2, c_unit, c_true, i_te, g_T, g_F, g_u, b_norm, b_exitN, b_exitI, Nat.one_ne_zero, Nat.zero_ne_one, Nat.reduceEqDiff, b_ret, b_none, b_ite, a_0, a_1, a_2, a_3, a_4, a_5, a_6, a_7, a_8, a_9, a_10, a_11, a_12, a_13, a_14, a_15, a_16, a_17, a_18, a_19, a_20, a_21, a_22, a_23, a_24, f_c0, f_c1, f_c2, f_c3, f_c4, f_c5, f_c6, f_c7, f_c8, f_c9, f_c10, f_c11, f_c12, f_c13, f_c14, f_c15, f_c16, p_nil, p_cons, pk_of, Option.bind_some, Option.bind_none, List.getElem?_cons_zero, List.getElem?_cons_succ, decide_eq_true_eq, if_true, if_false, Bool.not_eq_true', Bool.false_eq_true, Bool.true_eq_false, reduceCtorEq, ne_eq, not_false_eq_true, not_true_eq_false, decide_true, decide_false, Int.toNat_natCast, Int.natCast_zero, Bool.not_true, Bool.not_false]
      simp
    · unfold i64s u8s at *
      simp only [F17_0, h3, hk, hk1, e1, e2, hs1, hs2, eb, List.length_map, and_self, false_implies, o_add, o_sub, o_mul, o_quo, o_rem, o_and, o_or, o_eql, o_neq, o_lss, o_leq, o_gtr, o_geq, o_shl, o_shr, o_seql, o_sneq, o_beql, o_bneq, o_ieql, o_ineq, o_neql, o_nneq, o_not, o_neg, o_notv, o_pickT, o_pickF, o_pick, o_conv, o_len, o_lens, o_idxN, o_eix, o_ldiI, o_ldiI0, o_slcL, o_slcH, o_app, o_mk1, o_ifc, o_str, o_byt, c_int, c_bool, c_str, c_list, c_agg, c_iface, c_nilI, c_unit2, c_unit, c_true, i_te, g_T, g_F, g_u, b_norm, b_exitN, b_exitI, Nat.one_ne_zero, Nat.zero_ne_one, Nat.reduceEqDiff, b_ret, b_none, b_ite, a_0, a_1, a_2, a_3, a_4, a_5, a_6, a_7, a_8, a_9, a_10, a_11, a_12, a_13, a_14, a_15, a_16, a_17, a_18, a_19, a_20, a_21, a_22, a_23, a_24, f_c0, f_c1, f_c2, f_c3, f_c4, f_c5, f_c6, f_c7, f_c8, f_c9, f_c10, f_c11, f_c12, f_c13, f_c14, f_c15, f_c16, p_nil, p_cons, pk_of, Option.bind_some, Option.bind_none, List.getElem?_cons_zero, List.getElem?_cons_succ, decide_eq_true_eq, if_true, if_false, Bool.not_eq_true', Bool.false_eq_true, Bool.true_eq_false, reduceCtorEq, ne_eq, not_false_eq_true, not_true_eq_false, decide_true, decide_false, Int.toNat_natCast, Int.natCast_zero, Bool.not_true, Bool.not_false]
      simp
end Go.Proofs.YtogfkdpgkloljaaDoorVs
