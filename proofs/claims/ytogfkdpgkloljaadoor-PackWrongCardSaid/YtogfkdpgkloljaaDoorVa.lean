/-
  What varint.Put, varint.Get and slices.Equal answer, as plain functions on lists of numbers. Conditions: each lemma's own premises.
-/
import Derived.Test.YtogfkdpgkloljaaDoorVtS
import Derived.Test.YtogfkdpgkloljaaDoorVt
set_option linter.unusedVariables false
set_option linter.unusedSimpArgs false
set_option maxRecDepth 100000
namespace Go.Proofs.YtogfkdpgkloljaaDoorVs
def u8s (l : List Int) : V := .list 5 (l.map (V.int .u8))
theorem s33_loop (n : Nat) (a b : List Int) (hl : a.length = b.length) (hm : a.length < 2 ^ 62) : ∀ (d i fuel : Nat), a.length - i = d → i ≤ a.length → d < fuel →
    lpV [1, 1] (F33_0_b0 (Fix T) n (u8s a) (u8s b) (.int .i64 a.length)) fuel [.bool false, .int .i64 i] = if a.drop i = b.drop i then some (.exit 0 [1, 1] [.bool false, .int .i64 a.length]) else some (.ret [[.bool false]]) := by
  intro d
  induction d with
  | zero =>
    intro i fuel hd hi hf
    obtain ⟨fuel, rfl⟩ : ∃ m, fuel = m + 1 := ⟨fuel - 1, by omega⟩
    have : i = a.length := by omega
    subst this
    have h1 : ¬ ((a.length : Int) < a.length) := by omega
    rw [lp_exit (j := 0) (l' := [1, 1]) (vs' := [.bool false, .int .i64 a.length]) (by simp only [F33_0_b0, u8s, h1, o_add, o_sub, o_mul, o_quo, o_rem, o_and, o_or, o_eql, o_neq, o_lss, o_leq, o_gtr, o_geq, o_shl, o_shr, o_seql, o_sneq, o_beql, o_bneq, o_ieql, o_ineq, o_neql, o_nneq, o_not, o_neg, o_notv, o_pickT, o_pickF, o_pick, o_conv, o_len, o_lens, o_idxN, o_eix, o_ldiI, o_ldiI0, o_slcL, o_slcH, o_app, o_mk1, o_ifc, o_str, o_byt, c_int, c_bool, c_str, c_list, c_agg, c_iface, c_nilI, c_unit2, c_unit, c_true, i_te, g_T, g_F, g_u, b_norm, b_exitN, b_exitI, b_ret, b_none, b_ite, a_0, a_1, a_2, a_3, a_4, a_5, a_6, a_7, a_8, a_9, a_10, a_11, a_12, a_13, a_14, a_15, a_16, a_17, a_18, a_19, a_20, a_21, a_22, a_23, a_24, f_c0, f_c1, f_c2, f_c3, f_c4, f_c5, f_c6, f_c7, f_c8, f_c9, f_c10, f_c11, f_c12, f_c13, f_c14, f_c15, f_c16, p_nil, p_cons, pk_of, Option.bind_some, Option.bind_none, List.getElem?_cons_zero, List.getElem?_cons_succ, decide_eq_true_eq, if_true, if_false, Bool.not_eq_true', Bool.false_eq_true, ne_eq, not_false_eq_true, not_true_eq_false, decide_true, decide_false, Int.toNat_natCast, Bool.not_true, Bool.not_false])]
    rw [List.drop_of_length_le (by omega), List.drop_of_length_le (by omega), if_pos rfl]
  | succ d ih =>
    intro i fuel hd hi hf
    obtain ⟨fuel, rfl⟩ : ∃ m, fuel = m + 1 := ⟨fuel - 1, by omega⟩
    have hlt : i < a.length := by omega
    have h1 : ((i : Int) < a.length) := by omega
    have ea : (a.map (V.int .u8))[i]? = some (.int .u8 a[i]) := by simp [hlt]
    have eb : (b.map (V.int .u8))[i]? = some (.int .u8 b[i]) := by simp [show i < b.length by omega]
    have hda : a.drop i = a[i] :: a.drop (i + 1) := List.drop_eq_getElem_cons hlt
    have hdb : b.drop i = b[i] :: b.drop (i + 1) := List.drop_eq_getElem_cons (by omega)
    by_cases hab : a[i] = b[i]
    · rw [lp_norm (vs' := [.bool false, .int .i64 ((i + 1 : Nat) : Int)]) (by simp only [F33_0_b0, u8s, h1, ea, eb, w_succ (show i < 4611686018427387904 by omega), hab, o_add, o_sub, o_mul, o_quo, o_rem, o_and, o_or, o_eql, o_neq, o_lss, o_leq, o_gtr, o_geq, o_shl, o_shr, o_seql, o_sneq, o_beql, o_bneq, o_ieql, o_ineq, o_neql, o_nneq, o_not, o_neg, o_notv, o_pickT, o_pickF, o_pick, o_conv, o_len, o_lens, o_idxN, o_eix, o_ldiI, o_ldiI0, o_slcL, o_slcH, o_app, o_mk1, o_ifc, o_str, o_byt, c_int, c_bool, c_str, c_list, c_agg, c_iface, c_nilI, c_unit2, c_unit, c_true, i_te, g_T, g_F, g_u, b_norm, b_exitN, b_exitI, b_ret, b_none, b_ite, a_0, a_1, a_2, a_3, a_4, a_5, a_6, a_7, a_8, a_9, a_10, a_11, a_12, a_13, a_14, a_15, a_16, a_17, a_18, a_19, a_20, a_21, a_22, a_23, a_24, f_c0, f_c1, f_c2, f_c3, f_c4, f_c5, f_c6, f_c7, f_c8, f_c9, f_c10, f_c11, f_c12, f_c13, f_c14, f_c15, f_c16, p_nil, p_cons, pk_of, Option.bind_some, Option.bind_none, List.getElem?_cons_zero, List.getElem?_cons_succ, decide_eq_true_eq, if_true, if_false, Bool.not_eq_true', Bool.false_eq_true, ne_eq, not_false_eq_true, not_true_eq_false, decide_true, decide_false, Int.toNat_natCast, Bool.not_true, Bool.not_false])]
      rw [ih (i + 1) fuel (by omega) (by omega) (by omega)]
      simp only [hda, hdb, hab, List.cons.injEq, true_and]
    · rw [lp_ret (rs := [[.bool false]]) (by simp only [F33_0_b0, u8s, h1, ea, eb, hab, o_add, o_sub, o_mul, o_quo, o_rem, o_and, o_or, o_eql, o_neq, o_lss, o_leq, o_gtr, o_geq, o_shl, o_shr, o_seql, o_sneq, o_beql, o_bneq, o_ieql, o_ineq, o_neql, o_nneq, o_not, o_neg, o_notv, o_pickT, o_pickF, o_pick, o_conv, o_len, o_lens, o_idxN, o_eix, o_ldiI, o_ldiI0, o_slcL, o_slcH, o_app, o_mk1, o_ifc, o_str, o_byt, c_int, c_bool, c_str, c_list, c_agg, c_iface, c_nilI, c_unit2, c_unit, c_true, i_te, g_T, g_F, g_u, b_norm, b_exitN, b_exitI, b_ret, b_none, b_ite, a_0, a_1, a_2, a_3, a_4, a_5, a_6, a_7, a_8, a_9, a_10, a_11, a_12, a_13, a_14, a_15, a_16, a_17, a_18, a_19, a_20, a_21, a_22, a_23, a_24, f_c0, f_c1, f_c2, f_c3, f_c4, f_c5, f_c6, f_c7, f_c8, f_c9, f_c10, f_c11, f_c12, f_c13, f_c14, f_c15, f_c16, p_nil, p_cons, pk_of, Option.bind_some, Option.bind_none, List.getElem?_cons_zero, List.getElem?_cons_succ, decide_eq_true_eq, if_true, if_false, Bool.not_eq_true', Bool.false_eq_true, ne_eq, not_false_eq_true, not_true_eq_false, decide_true, decide_false, Int.toNat_natCast, Bool.not_true, Bool.not_false])]
      rw [if_neg (fun e => by rw [hda, hdb] at e; exact hab (List.cons.inj e).1)]
theorem s33 (a b : List Int) (hm : a.length < 2 ^ 62) : Fix T 33 0 [[u8s a], [u8s b]] = some [[.bool (decide (a = b))]] := by
  refine e33_0 (a.length + 1) ?_
  by_cases hl : a.length = b.length
  · have h : lpV [1, 1] (F33_0_b0 (Fix T) (a.length + 1) (u8s a) (u8s b) (.int .i64 a.length)) (a.length + 1) [.bool false, .int .i64 0] = _ := s33_loop (a.length + 1) a b hl hm a.length 0 (a.length + 1) rfl (by omega) (by omega)
    have h0 : ((a.length : Int) = b.length) = True := eq_true (by omega)
    unfold u8s at h ⊢
    simp only [F33_0, h0, List.length_map, h, o_add, o_sub, o_mul, o_quo, o_rem, o_and, o_or, o_eql, o_neq, o_lss, o_leq, o_gtr, o_geq, o_shl, o_shr, o_seql, o_sneq, o_beql, o_bneq, o_ieql, o_ineq, o_neql, o_nneq, o_not, o_neg, o_notv, o_pickT, o_pickF, o_pick, o_conv, o_len, o_lens, o_idxN, o_eix, o_ldiI, o_ldiI0, o_slcL, o_slcH, o_app, o_mk1, o_ifc, o_str, o_byt, c_int, c_bool, c_str, c_list, c_agg, c_iface, c_nilI, c_unit2, c_unit, c_true, i_te, g_T, g_F, g_u, b_norm, b_exitN, b_exitI, b_ret, b_none, b_ite, a_0, a_1, a_2, a_3, a_4, a_5, a_6, a_7, a_8, a_9, a_10, a_11, a_12, a_13, a_14, a_15, a_16, a_17, a_18, a_19, a_20, a_21, a_22, a_23, a_24, f_c0, f_c1, f_c2, f_c3, f_c4, f_c5, f_c6, f_c7, f_c8, f_c9, f_c10, f_c11, f_c12, f_c13, f_c14, f_c15, f_c16, p_nil, p_cons, pk_of, Option.bind_some, Option.bind_none, List.getElem?_cons_zero, List.getElem?_cons_succ, decide_eq_true_eq, if_true, if_false, Bool.not_eq_true', Bool.false_eq_true, ne_eq, not_false_eq_true, not_true_eq_false, decide_true, decide_false, Int.toNat_natCast, Bool.not_true, Bool.not_false]
    by_cases hab : a = b
    · simp only [hab, o_add, o_sub, o_mul, o_quo, o_rem, o_and, o_or, o_eql, o_neq, o_lss, o_leq, o_gtr, o_geq, o_shl, o_shr, o_seql, o_sneq, o_beql, o_bneq, o_ieql, o_ineq, o_neql, o_nneq, o_not, o_neg, o_notv, o_pickT, o_pickF, o_pick, o_conv, o_len, o_lens, o_idxN, o_eix, o_ldiI, o_ldiI0, o_slcL, o_slcH, o_app, o_mk1, o_ifc, o_str, o_byt, c_int, c_bool, c_str, c_list, c_agg, c_iface, c_nilI, c_unit2, c_unit, c_true, i_te, g_T, g_F, g_u, b_norm, b_exitN, b_exitI, b_ret, b_none, b_ite, a_0, a_1, a_2, a_3, a_4, a_5, a_6, a_7, a_8, a_9, a_10, a_11, a_12, a_13, a_14, a_15, a_16, a_17, a_18, a_19, a_20, a_21, a_22, a_23, a_24, f_c0, f_c1, f_c2, f_c3, f_c4, f_c5, f_c6, f_c7, f_c8, f_c9, f_c10, f_c11, f_c12, f_c13, f_c14, f_c15, f_c16, p_nil, p_cons, pk_of, Option.bind_some, Option.bind_none, List.getElem?_cons_zero, List.getElem?_cons_succ, decide_eq_true_eq, if_true, if_false, Bool.not_eq_true', Bool.false_eq_true, ne_eq, not_false_eq_true, not_true_eq_false, decide_true, decide_false, Int.toNat_natCast, Bool.not_true, Bool.not_false]
    · simp only [List.drop_zero, if_neg hab, hab, o_add, o_sub, o_mul, o_quo, o_rem, o_and, o_or, o_eql, o_neq, o_lss, o_leq, o_gtr, o_geq, o_shl, o_shr, o_seql, o_sneq, o_beql, o_bneq, o_ieql, o_ineq, o_neql, o_nneq, o_not, o_neg, o_notv, o_pickT, o_pickF, o_pick, o_conv, o_len, o_lens, o_idxN, o_eix, o_ldiI, o_ldiI0, o_slcL, o_slcH, o_app, o_mk1, o_ifc, o_str, o_byt, c_int, c_bool, c_str, c_list, c_agg, c_iface, c_nilI, c_unit2, c_unit, c_true, i_te, g_T, g_F, g_u, b_norm, b_exitN, b_exitI, b_ret, b_none, b_ite, a_0, a_1, a_2, a_3, a_4, a_5, a_6, a_7, a_8, a_9, a_10, a_11, a_12, a_13, a_14, a_15, a_16, a_17, a_18, a_19, a_20, a_21, a_22, a_23, a_24, f_c0, f_c1, f_c2, f_c3, f_c4, f_c5, f_c6, f_c7, f_c8, f_c9, f_c10, f_c11, f_c12, f_c13, f_c14, f_c15, f_c16, p_nil, p_cons, pk_of, Option.bind_some, Option.bind_none, List.getElem?_cons_zero, List.getElem?_cons_succ, decide_eq_true_eq, if_true, if_false, Bool.not_eq_true', Bool.false_eq_true, ne_eq, not_false_eq_true, not_true_eq_false, decide_true, decide_false, Int.toNat_natCast, Bool.not_true, Bool.not_false]
  · have h0 : ((a.length : Int) = b.length) = False := eq_false (by omega)
    have : a ≠ b := fun h => hl (by rw [h])
    unfold u8s
    simp only [F33_0, h0, List.length_map, this, o_add, o_sub, o_mul, o_quo, o_rem, o_and, o_or, o_eql, o_neq, o_lss, o_leq, o_gtr, o_geq, o_shl, o_shr, o_seql, o_sneq, o_beql, o_bneq, o_ieql, o_ineq, o_neql, o_nneq, o_not, o_neg, o_notv, o_pickT, o_pickF, o_pick, o_conv, o_len, o_lens, o_idxN, o_eix, o_ldiI, o_ldiI0, o_slcL, o_slcH, o_app, o_mk1, o_ifc, o_str, o_byt, c_int, c_bool, c_str, c_list, c_agg, c_iface, c_nilI, c_unit2, c_unit, c_true, i_te, g_T, g_F, g_u, b_norm, b_exitN, b_exitI, b_ret, b_none, b_ite, a_0, a_1, a_2, a_3, a_4, a_5, a_6, a_7, a_8, a_9, a_10, a_11, a_12, a_13, a_14, a_15, a_16, a_17, a_18, a_19, a_20, a_21, a_22, a_23, a_24, f_c0, f_c1, f_c2, f_c3, f_c4, f_c5, f_c6, f_c7, f_c8, f_c9, f_c10, f_c11, f_c12, f_c13, f_c14, f_c15, f_c16, p_nil, p_cons, pk_of, Option.bind_some, Option.bind_none, List.getElem?_cons_zero, List.getElem?_cons_succ, decide_eq_true_eq, if_true, if_false, Bool.not_eq_true', Bool.false_eq_true, ne_eq, not_false_eq_true, not_true_eq_false, decide_true, decide_false, Int.toNat_natCast, Bool.not_true, Bool.not_false]
end Go.Proofs.YtogfkdpgkloljaaDoorVs
