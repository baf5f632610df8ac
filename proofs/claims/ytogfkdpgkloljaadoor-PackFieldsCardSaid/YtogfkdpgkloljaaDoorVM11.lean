/-
  Several texts in one: Are two lists the same; how many things are next. No condition but each lemma's own premises. | What a Reader answers: texts, numbers behind their count. No condition but each lemma's own premises. | What 'read' and 'same' answer. No condition but each lemma's own premises. | What 'great' answers. No condition but each lemma's own premises. | What a list of fields is written as. No condition but each lemma's own premises. | What was put is read. No condition but each lemma's own premises. | What was put is read: lists. No condition but each lemma's own premises. | What was put is read: fields. No condition but each lemma's own premises. | What is read of a text cut short. No condition but each lemma's own premises. | A Reader's state stays one; PackBack's second loop. No condition but each lemma's own premises. | PackBack's second loop. No condition but each lemma's own premises. | PackBack's answer. No condition but each lemma's own premises. | PackBack's answer: the law. No condition but each lemma's own premises. | What the document's Get answers. No condition but each lemma's own premises.
-/
import Derived.Test.YtogfkdpgkloljaaDoorVM10
set_option linter.unusedVariables false
set_option linter.unusedSimpArgs false
set_option maxRecDepth 100000
namespace Go.Proofs.YtogfkdpgkloljaaDoorVs
theorem s21_loop (n : Nat) (a b : List Int) (hl : a.length = b.length) (hm : a.length < 2 ^ 62) : ∀ (d i fuel : Nat), a.length - i = d → i ≤ a.length → d < fuel →
    lpV [1, 1] (F21_0_b0 (Fix T) n (i64s a) (i64s b)) fuel [.bool false, .int .i64 i] = if a.drop i = b.drop i then some (.exit 0 [1, 1] [.bool false, .int .i64 a.length]) else some (.ret [[.bool false]]) := by
  intro d
  induction d with
  | zero =>
    intro i fuel hd hi hf
    obtain ⟨fuel, rfl⟩ : ∃ m, fuel = m + 1 := ⟨fuel - 1, by omega⟩
    have : i = a.length := by omega
    subst this
    have h1 : ¬ ((a.length : Int) < a.length) := by omega
    rw [lp_exit (j := 0) (l' := [1, 1]) (vs' := [.bool false, .int .i64 a.length]) (by simp only [F21_0_b0, i64s, h1, List.length_map, o_add, o_sub, o_mul, o_quo, o_rem, o_and, o_or, o_eql, o_neq, o_lss, o_leq, o_gtr, o_geq, o_shl, o_shr, o_seql, o_sneq, o_beql, o_bneq, o_ieql, o_ineq, o_neql, o_nneq, o_not, o_neg, o_notv, o_pickT, o_pickF, o_pick, o_conv, o_len, o_lens, o_idxN, o_eix, o_ldiI, o_ldiI0, o_slcL, o_slcH, o_app, o_mk1, o_ifc, o_str, o_byt, c_int, c_bool, c_str, c_list, c_agg, c_iface, c_nilI, c_unit2, c_unit, c_true, i_te, g_T, g_F, g_u, b_norm, b_exitN, b_exitI, Nat.one_ne_zero, Nat.zero_ne_one, Nat.reduceEqDiff, b_ret, b_none, b_ite, a_0, a_1, a_2, a_3, a_4, a_5, a_6, a_7, a_8, a_9, a_10, a_11, a_12, a_13, a_14, a_15, a_16, a_17, a_18, a_19, a_20, a_21, a_22, a_23, a_24, f_c0, f_c1, f_c2, f_c3, f_c4, f_c5, f_c6, f_c7, f_c8, f_c9, f_c10, f_c11, f_c12, f_c13, f_c14, f_c15, f_c16, p_nil, p_cons, pk_of, Option.bind_some, Option.bind_none, List.getElem?_cons_zero, List.getElem?_cons_succ, decide_eq_true_eq, if_true, if_false, Bool.not_eq_true', Bool.false_eq_true, Bool.true_eq_false, reduceCtorEq, ne_eq, not_false_eq_true, not_true_eq_false, decide_true, decide_false, Int.toNat_natCast, Int.natCast_zero, Bool.not_true, Bool.not_false])]
    rw [List.drop_of_length_le (by omega), List.drop_of_length_le (by omega), if_pos rfl]
  | succ d ih =>
    intro i fuel hd hi hf
    obtain ⟨fuel, rfl⟩ : ∃ m, fuel = m + 1 := ⟨fuel - 1, by omega⟩
    have hlt : i < a.length := by omega
    have h1 : ((i : Int) < a.length) := by omega
    have ea : (a.map (V.int .i64))[i]? = some (.int .i64 a[i]) := by simp [hlt]
    have eb : (b.map (V.int .i64))[i]? = some (.int .i64 b[i]) := by simp [show i < b.length by omega]
    have hda : a.drop i = a[i] :: a.drop (i + 1) := List.drop_eq_getElem_cons hlt
    have hdb : b.drop i = b[i] :: b.drop (i + 1) := List.drop_eq_getElem_cons (by omega)
    by_cases hab : a[i] = b[i]
    · rw [lp_norm (vs' := [.bool false, .int .i64 ((i + 1 : Nat) : Int)]) (by simp only [F21_0_b0, i64s, h1, ea, eb, List.length_map, w_succ (show i < 4611686018427387904 by omega), hab, o_add, o_sub, o_mul, o_quo, o_rem, o_and, o_or, o_eql, o_neq, o_lss, o_leq, o_gtr, o_geq, o_shl, o_shr, o_seql, o_sneq, o_beql, o_bneq, o_ieql, o_ineq, o_neql, o_nneq, o_not, o_neg, o_notv, o_pickT, o_pickF, o_pick, o_conv, o_len, o_lens, o_idxN, o_eix, o_ldiI, o_ldiI0, o_slcL, o_slcH, o_app, o_mk1, o_ifc, o_str, o_byt, c_int, c_bool, c_str, c_list, c_agg, c_iface, c_nilI, c_unit2, c_unit, c_true, i_te, g_T, g_F, g_u, b_norm, b_exitN, b_exitI, Nat.one_ne_zero, Nat.zero_ne_one, Nat.reduceEqDiff, b_ret, b_none, b_ite, a_0, a_1, a_2, a_3, a_4, a_5, a_6, a_7, a_8, a_9, a_10, a_11, a_12, a_13, a_14, a_15, a_16, a_17, a_18, a_19, a_20, a_21, a_22, a_23, a_24, f_c0, f_c1, f_c2, f_c3, f_c4, f_c5, f_c6, f_c7, f_c8, f_c9, f_c10, f_c11, f_c12, f_c13, f_c14, f_c15, f_c16, p_nil, p_cons, pk_of, Option.bind_some, Option.bind_none, List.getElem?_cons_zero, List.getElem?_cons_succ, decide_eq_true_eq, if_true, if_false, Bool.not_eq_true', Bool.false_eq_true, Bool.true_eq_false, reduceCtorEq, ne_eq, not_false_eq_true, not_true_eq_false, decide_true, decide_false, Int.toNat_natCast, Int.natCast_zero, Bool.not_true, Bool.not_false])]
      rw [ih (i + 1) fuel (by omega) (by omega) (by omega)]
      simp only [hda, hdb, hab, List.cons.injEq, true_and]
    · rw [lp_ret (rs := [[.bool false]]) (by simp only [F21_0_b0, i64s, h1, ea, eb, List.length_map, hab, o_add, o_sub, o_mul, o_quo, o_rem, o_and, o_or, o_eql, o_neq, o_lss, o_leq, o_gtr, o_geq, o_shl, o_shr, o_seql, o_sneq, o_beql, o_bneq, o_ieql, o_ineq, o_neql, o_nneq, o_not, o_neg, o_notv, o_pickT, o_pickF, o_pick, o_conv, o_len, o_lens, o_idxN, o_eix, o_ldiI, o_ldiI0, o_slcL, o_slcH, o_app, o_mk1, o_ifc, o_str, o_byt, c_int, c_bool, c_str, c_list, c_agg, c_iface, c_nilI, c_unit2, c_unit, c_true, i_te, g_T, g_F, g_u, b_norm, b_exitN, b_exitI, Nat.one_ne_zero, Nat.zero_ne_one, Nat.reduceEqDiff, b_ret, b_none, b_ite, a_0, a_1, a_2, a_3, a_4, a_5, a_6, a_7, a_8, a_9, a_10, a_11, a_12, a_13, a_14, a_15, a_16, a_17, a_18, a_19, a_20, a_21, a_22, a_23, a_24, f_c0, f_c1, f_c2, f_c3, f_c4, f_c5, f_c6, f_c7, f_c8, f_c9, f_c10, f_c11, f_c12, f_c13, f_c14, f_c15, f_c16, p_nil, p_cons, pk_of, Option.bind_some, Option.bind_none, List.getElem?_cons_zero, List.getElem?_cons_succ, decide_eq_true_eq, if_true, if_false, Bool.not_eq_true', Bool.false_eq_true, Bool.true_eq_false, reduceCtorEq, ne_eq, not_false_eq_true, not_true_eq_false, decide_true, decide_false, Int.toNat_natCast, Int.natCast_zero, Bool.not_true, Bool.not_false])]
      rw [if_neg (fun e => by rw [hda, hdb] at e; exact hab (List.cons.inj e).1)]
theorem s21 (a b : List Int) (hm : a.length < 2 ^ 62) : Fix T 21 0 [[i64s a], [i64s b]] = some [[.bool (decide (a = b))]] := by
  refine e21_0 (a.length + 1) ?_
  by_cases hl : a.length = b.length
  · have h : lpV [1, 1] (F21_0_b0 (Fix T) (a.length + 1) (i64s a) (i64s b)) (a.length + 1) [.bool false, .int .i64 0] = _ := s21_loop (a.length + 1) a b hl hm a.length 0 (a.length + 1) rfl (by omega) (by omega)
    have h0 : ((a.length : Int) = b.length) = True := eq_true (by omega)
    unfold i64s at h ⊢
    simp only [F21_0, h0, List.length_map, h, o_add, o_sub, o_mul, o_quo, o_rem, o_and, o_or, o_eql, o_neq, o_lss, o_leq, o_gtr, o_geq, o_shl, o_shr, o_seql, o_sneq, o_beql, o_bneq, o_ieql, o_ineq, o_neql, o_nneq, o_not, o_neg, o_notv, o_pickT, o_pickF, o_pick, o_conv, o_len, o_lens, o_idxN, o_eix, o_ldiI, o_ldiI0, o_slcL, o_slcH, o_app, o_mk1, o_ifc, o_str, o_byt, c_int, c_bool, c_str, c_list, c_agg, c_iface, c_nilI, c_unit2, c_unit, c_true, i_te, g_T, g_F, g_u, b_norm, b_exitN, b_exitI, Nat.one_ne_zero, Nat.zero_ne_one, Nat.reduceEqDiff, b_ret, b_none, b_ite, a_0, a_1, a_2, a_3, a_4, a_5, a_6, a_7, a_8, a_9, a_10, a_11, a_12, a_13, a_14, a_15, a_16, a_17, a_18, a_19, a_20, a_21, a_22, a_23, a_24, f_c0, f_c1, f_c2, f_c3, f_c4, f_c5, f_c6, f_c7, f_c8, f_c9, f_c10, f_c11, f_c12, f_c13, f_c14, f_c15, f_c16, p_nil, p_cons, pk_of, Option.bind_some, Option.bind_none, List.getElem?_cons_zero, List.getElem?_cons_succ, decide_eq_true_eq, if_true, if_false, Bool.not_eq_true', Bool.false_eq_true, Bool.true_eq_false, reduceCtorEq, ne_eq, not_false_eq_true, not_true_eq_false, decide_true, decide_false, Int.toNat_natCast, Int.natCast_zero, Bool.not_true, Bool.not_false]
    by_cases hab : a = b
    · simp only [hab, o_add, o_sub, o_mul, o_quo, o_rem, o_and, o_or, o_eql, o_neq, o_lss, o_leq, o_gtr, o_geq, o_shl, o_shr, o_seql, o_sneq, o_beql, o_bneq, o_ieql, o_ineq, o_neql, o_nneq, o_not, o_neg, o_notv, o_pickT, o_pickF, o_pick, o_conv, o_len, o_lens, o_idxN, o_eix, o_ldiI, o_ldiI0, o_slcL, o_slcH, o_app, o_mk1, o_ifc, o_str, o_byt, c_int, c_bool, c_str, c_list, c_agg, c_iface, c_nilI, c_unit2, c_unit, c_true, i_te, g_T, g_F, g_u, b_norm, b_exitN, b_exitI, Nat.one_ne_zero, Nat.zero_ne_one, Nat.reduceEqDiff, b_ret, b_none, b_ite, a_0, a_1, a_2, a_3, a_4, a_5, a_6, a_7, a_8, a_9, a_10, a_11, a_12, a_13, a_14, a_15, a_16, a_17, a_18, a_19, a_20, a_21, a_22, a_23, a_24, f_c0, f_c1, f_c2, f_c3, f_c4, f_c5, f_c6, f_c7, f_c8, f_c9, f_c10, f_c11, f_c12, f_c13, f_c14, f_c15, f_c16, p_nil, p_cons, pk_of, Option.bind_some, Option.bind_none, List.getElem?_cons_zero, List.getElem?_cons_succ, decide_eq_true_eq, if_true, if_false, Bool.not_eq_true', Bool.false_eq_true, Bool.true_eq_false, reduceCtorEq, ne_eq, not_false_eq_true, not_true_eq_false, decide_true, decide_false, Int.toNat_natCast, Int.natCast_zero, Bool.not_true, Bool.not_false]
    · simp only [List.drop_zero, if_neg hab, hab, o_add, o_sub, o_mul, o_quo, o_rem, o_and, o_or, o_eql, o_neq, o_lss, o_leq, o_gtr, o_geq, o_shl, o_shr, o_seql, o_sneq, o_beql, o_bneq, o_ieql, o_ineq, o_neql, o_nneq, o_not, o_neg, o_notv, o_pickT, o_pickF, o_pick, o_conv, o_len, o_lens, o_idxN, o_eix, o_ldiI, o_ldiI0, o_slcL, o_slcH, o_app, o_mk1, o_ifc, o_str, o_byt, c_int, c_bool, c_str, c_list, c_agg, c_iface, c_nilI, c_unit2, c_unit, c_true, i_te, g_T, g_F, g_u, b_norm, b_exitN, b_exitI, Nat.one_ne_zero, Nat.zero_ne_one, Nat.reduceEqDiff, b_ret, b_none, b_ite, a_0, a_1, a_2, a_3, a_4, a_5, a_6, a_7, a_8, a_9, a_10, a_11, a_12, a_13, a_14, a_15, a_16, a_17, a_18, a_19, a_20, a_21, a_22, a_23, a_24, f_c0, f_c1, f_c2, f_c3, f_c4, f_c5, f_c6, f_c7, f_c8, f_c9, f_c10, f_c11, f_c12, f_c13, f_c14, f_c15, f_c16, p_nil, p_cons, pk_of, Option.bind_some, Option.bind_none, List.getElem?_cons_zero, List.getElem?_cons_succ, decide_eq_true_eq, if_true, if_false, Bool.not_eq_true', Bool.false_eq_true, Bool.true_eq_false, reduceCtorEq, ne_eq, not_false_eq_true, not_true_eq_false, decide_true, decide_false, Int.toNat_natCast, Int.natCast_zero, Bool.not_true, Bool.not_false]
  · have h0 : ((a.length : Int) = b.length) = False := eq_false (by omega)
    have : a ≠ b := fun h => hl (by rw [h])
    unfold i64s
    simp only [F21_0, h0, List.length_map, this, o_add, o_sub, o_mul, o_quo, o_rem, o_and, o_or, o_eql, o_neq, o_lss, o_leq, o_gtr, o_geq, o_shl, o_shr, o_seql, o_sneq, o_beql, o_bneq, o_ieql, o_ineq, o_neql, o_nneq, o_not, o_neg, o_notv, o_pickT, o_pickF, o_pick, o_conv, o_len, o_lens, o_idxN, o_eix, o_ldiI, o_ldiI0, o_slcL, o_slcH, o_app, o_mk1, o_ifc, o_str, o_byt, c_int, c_bool, c_str, c_list, c_agg, c_iface, c_nilI, c_unit2, c_unit, c_true, i_te, g_T, g_F, g_u, b_norm, b_exitN, b_exitI, Nat.one_ne_zero, Nat.zero_ne_one, Nat.reduceEqDiff, b_ret, b_none, b_ite, a_0, a_1, a_2, a_3, a_4, a_5, a_6, a_7, a_8, a_9, a_10, a_11, a_12, a_13, a_14, a_15, a_16, a_17, a_18, a_19, a_20, a_21, a_22, a_23, a_24, f_c0, f_c1, f_c2, f_c3, f_c4, f_c5, f_c6, f_c7, f_c8, f_c9, f_c10, f_c11, f_c12, f_c13, f_c14, f_c15, f_c16, p_nil, p_cons, pk_of, Option.bind_some, Option.bind_none, List.getElem?_cons_zero, List.getElem?_cons_succ, decide_eq_true_eq, if_true, if_false, Bool.not_eq_true', Bool.false_eq_true, Bool.true_eq_false, reduceCtorEq, ne_eq, not_false_eq_true, not_true_eq_false, decide_true, decide_false, Int.toNat_natCast, Int.natCast_zero, Bool.not_true, Bool.not_false]
/-- how many things are next -/
def rCount (s : RS) (many : Int) : Int × RS := if (rInt s 0 many).2.2 = true ∨ (((rInt s 0 many).2.1.length : Nat) : Int) < (rInt s 0 many).1 then (0, ([], true)) else rInt s 0 many
theorem RsOK.count {s : RS} (h : RsOK s) (many : Int) : RsOK (rCount s many).2 := by
  unfold rCount
  split
  · exact RsOK.nil _
  · exact h.int _ _
theorem s28 (s : RS) (many : Int) (h : RsOK s) : Fix T 28 0 [rsV s, [.int .i64 many]] = some [[.int .i64 (rCount s many).1], rsV (rCount s many).2] := by
  refine e28_0 0 ?_
  have h9 := s9 s 0 many h
  unfold rCount
  generalize rInt s 0 many = q at *
  obtain ⟨n, b, w⟩ := q
  obtain ⟨b0, w0⟩ := s
  have h25 := s25 (b, w)
  have h27 := s27 (b, w)
  simp only [rsV] at h9 h25 h27 ⊢
  unfold u8s at *
  cases w with
  | true => simp only [F28_0, h9, h25, h27, List.map_nil, true_or, if_true, o_add, o_sub, o_mul, o_quo, o_rem, o_and, o_or, o_eql, o_neq, o_lss, o_leq, o_gtr, o_geq, o_shl, o_shr, o_seql, o_sneq, o_beql, o_bneq, o_ieql, o_ineq, o_neql, o_nneq, o_not, o_neg, o_notv, o_pickT, o_pickF, o_pick, o_conv, o_len, o_lens, o_idxN, o_eix, o_ldiI, o_ldiI0, o_slcL, o_slcH, o_app, o_mk1, o_ifc, o_str, o_byt, c_int, c_bool, c_str, c_list, c_agg, c_iface, c_nilI, c_unit2, c_unit, c_true, i_te, g_T, g_F, g_u, b_norm, b_exitN, b_exitI, Nat.one_ne_zero, Nat.zero_ne_one, Nat.reduceEqDiff, b_ret, b_none, b_ite, a_0, a_1, a_2, a_3, a_4, a_5, a_6, a_7, a_8, a_9, a_10, a_11, a_12, a_13, a_14, a_15, a_16, a_17, a_18, a_19, a_20, a_21, a_22, a_23, a_24, f_c0, f_c1, f_c2, f_c3, f_c4, f_c5, f_c6, f_c7, f_c8, f_c9, f_c10, f_c11, f_c12, f_c13, f_c14, f_c15, f_c16, p_nil, p_cons, pk_of, Option.bind_some, Option.bind_none, List.getElem?_cons_zero, List.getElem?_cons_succ, decide_eq_true_eq, if_true, if_false, Bool.not_eq_true', Bool.false_eq_true, Bool.true_eq_false, reduceCtorEq, ne_eq, not_false_eq_true, not_true_eq_false, decide_true, decide_false, Int.toNat_natCast, Int.natCast_zero, Bool.not_true, Bool.not_false]
  | false =>
    by_cases hn : (b.length : Int) < n
    · simp only [F28_0, h9, h25, h27, hn, List.length_map, List.map_nil, or_true, if_true, o_add, o_sub, o_mul, o_quo, o_rem, o_and, o_or, o_eql, o_neq, o_lss, o_leq, o_gtr, o_geq, o_shl, o_shr, o_seql, o_sneq, o_beql, o_bneq, o_ieql, o_ineq, o_neql, o_nneq, o_not, o_neg, o_notv, o_pickT, o_pickF, o_pick, o_conv, o_len, o_lens, o_idxN, o_eix, o_ldiI, o_ldiI0, o_slcL, o_slcH, o_app, o_mk1, o_ifc, o_str, o_byt, c_int, c_bool, c_str, c_list, c_agg, c_iface, c_nilI, c_unit2, c_unit, c_true, i_te, g_T, g_F, g_u, b_norm, b_exitN, b_exitI, Nat.one_ne_zero, Nat.zero_ne_one, Nat.reduceEqDiff, b_ret, b_none, b_ite, a_0, a_1, a_2, a_3, a_4, a_5, a_6, a_7, a_8, a_9, a_10, a_11, a_12, a_13, a_14, a_15, a_16, a_17, a_18, a_19, a_20, a_21, a_22, a_23, a_24, f_c0, f_c1, f_c2, f_c3, f_c4, f_c5, f_c6, f_c7, f_c8, f_c9, f_c10, f_c11, f_c12, f_c13, f_c14, f_c15, f_c16, p_nil, p_cons, pk_of, Option.bind_some, Option.bind_none, List.getElem?_cons_zero, List.getElem?_cons_succ, decide_eq_true_eq, if_true, if_false, Bool.not_eq_true', Bool.false_eq_true, Bool.true_eq_false, reduceCtorEq, ne_eq, not_false_eq_true, not_true_eq_false, decide_true, decide_false, Int.toNat_natCast, Int.natCast_zero, Bool.not_true, Bool.not_false]
    · simp only [F28_0, h9, h25, h27, hn, List.length_map, List.map_nil, Bool.false_eq_true, or_self, if_false, o_add, o_sub, o_mul, o_quo, o_rem, o_and, o_or, o_eql, o_neq, o_lss, o_leq, o_gtr, o_geq, o_shl, o_shr, o_seql, o_sneq, o_beql, o_bneq, o_ieql, o_ineq, o_neql, o_nneq, o_not, o_neg, o_notv, o_pickT, o_pickF, o_pick, o_conv, o_len, o_lens, o_idxN, o_eix, o_ldiI, o_ldiI0, o_slcL, o_slcH, o_app, o_mk1, o_ifc, o_str, o_byt, c_int, c_bool, c_str, c_list, c_agg, c_iface, c_nilI, c_unit2, c_unit, c_true, i_te, g_T, g_F, g_u, b_norm, b_exitN, b_exitI, Nat.one_ne_zero, Nat.zero_ne_one, Nat.reduceEqDiff, b_ret, b_none, b_ite, a_0, a_1, a_2, a_3, a_4, a_5, a_6, a_7, a_8, a_9, a_10, a_11, a_12, a_13, a_14, a_15, a_16, a_17, a_18, a_19, a_20, a_21, a_22, a_23, a_24, f_c0, f_c1, f_c2, f_c3, f_c4, f_c5, f_c6, f_c7, f_c8, f_c9, f_c10, f_c11, f_c12, f_c13, f_c14, f_c15, f_c16, p_nil, p_cons, pk_of, Option.bind_some, Option.bind_none, List.getElem?_cons_zero, List.getElem?_cons_succ, decide_eq_true_eq, if_true, if_false, Bool.not_eq_true', Bool.false_eq_true, Bool.true_eq_false, reduceCtorEq, ne_eq, not_false_eq_true, not_true_eq_false, decide_true, decide_false, Int.toNat_natCast, Int.natCast_zero, Bool.not_true, Bool.not_false]
end Go.Proofs.YtogfkdpgkloljaaDoorVs
set_option linter.unusedVariables false
set_option linter.unusedSimpArgs false
set_option maxRecDepth 100000
namespace Go.Proofs.YtogfkdpgkloljaaDoorVs
theorem rCount_rng (s : RS) (many : Int) : (rCount s many).2.2 = false → 0 ≤ (rCount s many).1 ∧ (rCount s many).1 ≤ (((rCount s many).2.1.length : Nat) : Int) := by
  unfold rCount
  split
  · intro h; cases h
  · rename_i hn
    intro hw
    refine ⟨?_, by omega⟩
    unfold rInt at hw ⊢
    split
    · omega
    · split
      · split
        · omega
        · rename_i hlo
          simp only at hlo ⊢
          omega
      · omega
def rText (s : RS) (many : Int) : ByteArray × RS := if (rCount s many).2.2 = true then (⟨#[]⟩, (rCount s many).2) else (strOfNums ((rCount s many).2.1.take (rCount s many).1.toNat), ((rCount s many).2.1.drop (rCount s many).1.toNat, false))
theorem s11 (s : RS) (many : Int) (h : RsOK s) : Fix T 11 0 [rsV s, [.int .i64 many]] = some [[.str (rText s many).1], rsV (rText s many).2] := by
  refine e11_0 0 ?_
  have h28 := s28 s many h
  have hr := rCount_rng s many
  unfold rText
  generalize rCount s many = q at *
  obtain ⟨n, b, w⟩ := q
  obtain ⟨b0, w0⟩ := s
  have h25 := s25 (b, w)
  simp only [rsV] at h28 h25 ⊢
  unfold u8s at *
  cases w with
  | true => simp only [F11_0, h28, h25, if_true, o_add, o_sub, o_mul, o_quo, o_rem, o_and, o_or, o_eql, o_neq, o_lss, o_leq, o_gtr, o_geq, o_shl, o_shr, o_seql, o_sneq, o_beql, o_bneq, o_ieql, o_ineq, o_neql, o_nneq, o_not, o_neg, o_notv, o_pickT, o_pickF, o_pick, o_conv, o_len, o_lens, o_idxN, o_eix, o_ldiI, o_ldiI0, o_slcL, o_slcH, o_app, o_mk1, o_ifc, o_str, o_byt, c_int, c_bool, c_str, c_list, c_agg, c_iface, c_nilI, c_unit2, c_unit, c_true, i_te, g_T, g_F, g_u, b_norm, b_exitN, b_exitI, Nat.one_ne_zero, Nat.zero_ne_one, Nat.reduceEqDiff, b_ret, b_none, b_ite, a_0, a_1, a_2, a_3, a_4, a_5, a_6, a_7, a_8, a_9, a_10, a_11, a_12, a_13, a_14, a_15, a_16, a_17, a_18, a_19, a_20, a_21, a_22, a_23, a_24, f_c0, f_c1, f_c2, f_c3, f_c4, f_c5, f_c6, f_c7, f_c8, f_c9, f_c10, f_c11, f_c12, f_c13, f_c14, f_c15, f_c16, p_nil, p_cons, pk_of, Option.bind_some, Option.bind_none, List.getElem?_cons_zero, List.getElem?_cons_succ, decide_eq_true_eq, if_true, if_false, Bool.not_eq_true', Bool.false_eq_true, Bool.true_eq_false, reduceCtorEq, ne_eq, not_false_eq_true, not_true_eq_false, decide_true, decide_false, Int.toNat_natCast, Int.natCast_zero, Bool.not_true, Bool.not_false]
  | false =>
    have hn := hr rfl
    have hn' : 0 ≤ n ∧ n ≤ b.length := hn
    have e1 : (b.map (V.int .u8)).take n.toNat = (b.take n.toNat).map (V.int .u8) := by simp
    have e2 : (b.map (V.int .u8)).drop n.toNat = (b.drop n.toNat).map (V.int .u8) := by simp
    simp only [F11_0, h28, h25, hn', e1, e2, List.length_map, and_self, Bool.false_eq_true, if_false, o_add, o_sub, o_mul, o_quo, o_rem, o_and, o_or, o_eql, o_neq, o_lss, o_leq, o_gtr, o_geq, o_shl, o_shr, o_seql, o_sneq, o_beql, o_bneq, o_ieql, o_ineq, o_neql, o_nneq, o_not, o_neg, o_notv, o_pickT, o_pickF, o_pick, o_conv, o_len, o_lens, o_idxN, o_eix, o_ldiI, o_ldiI0, o_slcL, o_slcH, o_app, o_mk1, o_ifc, o_str, o_byt, c_int, c_bool, c_str, c_list, c_agg, c_iface, c_nilI, c_unit2, c_unit, c_true, i_te, g_T, g_F, g_u, b_norm, b_exitN, b_exitI, Nat.one_ne_zero, Nat.zero_ne_one, Nat.reduceEqDiff, b_ret, b_none, b_ite, a_0, a_1, a_2, a_3, a_4, a_5, a_6, a_7, a_8, a_9, a_10, a_11, a_12, a_13, a_14, a_15, a_16, a_17, a_18, a_19, a_20, a_21, a_22, a_23, a_24, f_c0, f_c1, f_c2, f_c3, f_c4, f_c5, f_c6, f_c7, f_c8, f_c9, f_c10, f_c11, f_c12, f_c13, f_c14, f_c15, f_c16, p_nil, p_cons, pk_of, Option.bind_some, Option.bind_none, List.getElem?_cons_zero, List.getElem?_cons_succ, decide_eq_true_eq, if_true, if_false, Bool.not_eq_true', Bool.false_eq_true, Bool.true_eq_false, reduceCtorEq, ne_eq, not_false_eq_true, not_true_eq_false, decide_true, decide_false, Int.toNat_natCast, Int.natCast_zero, Bool.not_true, Bool.not_false]
def rLoop (lo hi : Int) : Nat → RS → List Int × RS
  | 0, s => ([], s)
  | k + 1, s => ((rInt s lo hi).1 :: (rLoop lo hi k (rInt s lo hi).2).1, (rLoop lo hi k (rInt s lo hi).2).2)
theorem s10_loop (n : Nat) (lo hi : Int) (N : Nat) (hN : N ≤ 1000000) : ∀ (k i fuel : Nat) (s : RS) (out : List Int), i + k = N → k < fuel → RsOK s → out.length = i →
    lpV [2, 1, 1, 1, 1] (F10_0_b0 (Fix T) n (.int .i64 lo) (.int .i64 hi) (.int .i64 N)) fuel [.unit, .bool s.2, u8s s.1, i64s out, .unit, .int .i64 i] =
      some (.exit 0 [1, 1, 1, 2, 1] [.unit, i64s (out ++ (rLoop lo hi k s).1), .int .i64 N, .unit, .bool (rLoop lo hi k s).2.2, u8s (rLoop lo hi k s).2.1]) := by
  intro k
  induction k with
  | zero =>
    intro i fuel s out hi' hf hs ho
    obtain ⟨fuel, rfl⟩ : ∃ m, fuel = m + 1 := ⟨fuel - 1, by omega⟩
    obtain rfl : i = N := by omega
    have h1 : ¬ ((i : Int) < i) := by omega
    rw [lp_exit (j := 0) (l' := [1, 1, 1, 2, 1]) (vs' := [.unit, i64s out, .int .i64 i, .unit, .bool s.2, u8s s.1]) (by simp only [F10_0_b0, i64s, u8s, h1, o_add, o_sub, o_mul, o_quo, o_rem, o_and, o_or, o_eql, o_neq, o_lss, o_leq, o_gtr, o_geq, o_shl, o_shr, o_seql, o_sneq, o_beql, o_bneq, o_ieql, o_ineq, o_neql, o_nneq, o_not, o_neg, o_notv, o_pickT, o_pickF, o_pick, o_conv, o_len, o_lens, o_idxN, o_eix, o_ldiI, o_ldiI0, o_slcL, o_slcH, o_app, o_mk1, o_ifc, o_str, o_byt, c_int, c_bool, c_str, c_list, c_agg, c_iface, c_nilI, c_unit2, c_unit, c_true, i_te, g_T, g_F, g_u, b_norm, b_exitN, b_exitI, Nat.one_ne_zero, Nat.zero_ne_one, Nat.reduceEqDiff, b_ret, b_none, b_ite, a_0, a_1, a_2, a_3, a_4, a_5, a_6, a_7, a_8, a_9, a_10, a_11, a_12, a_13, a_14, a_15, a_16, a_17, a_18, a_19, a_20, a_21, a_22, a_23, a_24, f_c0, f_c1, f_c2, f_c3, f_c4, f_c5, f_c6, f_c7, f_c8, f_c9, f_c10, f_c11, f_c12, f_c13, f_c14, f_c15, f_c16, p_nil, p_cons, pk_of, Option.bind_some, Option.bind_none, List.getElem?_cons_zero, List.getElem?_cons_succ, decide_eq_true_eq, if_true, if_false, Bool.not_eq_true', Bool.false_eq_true, Bool.true_eq_false, reduceCtorEq, ne_eq, not_false_eq_true, not_true_eq_false, decide_true, decide_false, Int.toNat_natCast, Int.natCast_zero, Bool.not_true, Bool.not_false])]
    simp [rLoop]
  | succ k ih =>
    intro i fuel s out hi' hf hs ho
    obtain ⟨fuel, rfl⟩ : ∃ m, fuel = m + 1 := ⟨fuel - 1, by omega⟩
    have h1 : ((i : Int) < N) := by omega
    have h9 := s9 s lo hi hs
    have hs2 := hs.int lo hi
    simp only [rLoop]
    obtain ⟨b, w⟩ := s
    generalize rInt (b, w) lo hi = q at *
    obtain ⟨m, b', w'⟩ := q
    simp only [rsV] at h9
    unfold u8s at h9
    have ea : out.map (V.int .i64) ++ [V.int .i64 m] = (out ++ [m]).map (V.int .i64) := by simp
    have hsz : (out.length + 1) * 8 ≤ 140737488355328 := by omega
    rw [lp_norm (vs' := [.unit, .bool w', u8s b', i64s (out ++ [m]), .unit, .int .i64 ((i + 1 : Nat) : Int)]) (by simp only [F10_0_b0, i64s, u8s, h1, h9, ea, hsz, w_succ (show i < 4611686018427387904 by omega), List.length_map, List.length_singleton, List.length_cons, List.length_nil, Nat.zero_add, and_self, false_implies, o_add, o_sub, o_mul, o_quo, o_rem, o_and, o_or, o_eql, o_neq, o_lss, o_leq, o_gtr, o_geq, o_shl, o_shr, o_seql, o_sneq, o_beql, o_bneq, o_ieql, o_ineq, o_neql, o_nneq, o_not, o_neg, o_notv, o_pickT, o_pickF, o_pick, o_conv, o_len, o_lens, o_idxN, o_eix, o_ldiI, o_ldiI0, o_slcL, o_slcH, o_app, o_mk1, o_ifc, o_str, o_byt, c_int, c_bool, c_str, c_list, c_agg, c_iface, c_nilI, c_unit2, c_unit, c_true, i_te, g_T, g_F, g_u, b_norm, b_exitN, b_exitI, Nat.one_ne_zero, Nat.zero_ne_one, Nat.reduceEqDiff, b_ret, b_none, b_ite, a_0, a_1, a_2, a_3, a_4, a_5, a_6, a_7, a_8, a_9, a_10, a_11, a_12, a_13, a_14, a_15, a_16, a_17, a_18, a_19, a_20, a_21, a_22, a_23, a_24, f_c0, f_c1, f_c2, f_c3, f_c4, f_c5, f_c6, f_c7, f_c8, f_c9, f_c10, f_c11, f_c12, f_c13, f_c14, f_c15, f_c16, p_nil, p_cons, pk_of, Option.bind_some, Option.bind_none, List.getElem?_cons_zero, List.getElem?_cons_succ, decide_eq_true_eq, if_true, if_false, Bool.not_eq_true', Bool.false_eq_true, Bool.true_eq_false, reduceCtorEq, ne_eq, not_false_eq_true, not_true_eq_false, decide_true, decide_false, Int.toNat_natCast, Int.natCast_zero, Bool.not_true, Bool.not_false])]
    have := ih (i + 1) fuel (b', w') (out ++ [m]) (by omega) (by omega) hs2 (by simp; omega)
    rw [this]
    simp
def rInts (s : RS) (many lo hi : Int) : List Int × RS :=
  if (rLoop lo hi (rCount s many).1.toNat (rCount s many).2).2.2 = true then ([], (rLoop lo hi (rCount s many).1.toNat (rCount s many).2).2) else rLoop lo hi (rCount s many).1.toNat (rCount s many).2
theorem s10 (s : RS) (many lo hi : Int) (h : RsOK s) (hl : s.1.length ≤ 1000000) (hc : 0 ≤ (rCount s many).1 ∧ (rCount s many).1 ≤ 1000000) : Fix T 10 0 [rsV s, [.int .i64 many], [.int .i64 lo], [.int .i64 hi]] = some [[i64s (rInts s many lo hi).1], rsV (rInts s many lo hi).2] := by
  refine e10_0 1000001 ?_
  have h28 := s28 s many h
  have hok := RsOK.count h many
  unfold rInts
  generalize rCount s many = q at *
  obtain ⟨n, t⟩ := q
  obtain ⟨hc1, hc2⟩ := hc
  simp only at hc1 hc2 hok
  obtain ⟨N, rfl⟩ := Int.eq_ofNat_of_zero_le hc1
  have hlp : lpV [2, 1, 1, 1, 1] (F10_0_b0 (Fix T) 1000001 (.int .i64 lo) (.int .i64 hi) (.int .i64 N)) 1000001 [.unit, .bool t.2, u8s t.1, i64s [], .unit, .int .i64 0] = _ := s10_loop 1000001 lo hi N (by omega) N 0 1000001 t [] (by omega) (by omega) hok rfl
  simp only [Int.toNat_natCast]
  generalize rLoop lo hi N t = r at *
  obtain ⟨out, b', w'⟩ := r
  obtain ⟨b, w⟩ := t
  obtain ⟨b0, w0⟩ := s
  have h25 := s25 (b', w')
  simp only [rsV] at h28 h25 ⊢
  simp only [List.nil_append] at hlp
  unfold i64s u8s at *
  try simp only [List.map_nil] at hlp
  cases w' with
  | true => simp only [F10_0, h28, hlp, h25, if_true, List.map_nil, o_add, o_sub, o_mul, o_quo, o_rem, o_and, o_or, o_eql, o_neq, o_lss, o_leq, o_gtr, o_geq, o_shl, o_shr, o_seql, o_sneq, o_beql, o_bneq, o_ieql, o_ineq, o_neql, o_nneq, o_not, o_neg, o_notv, o_pickT, o_pickF, o_pick, o_conv, o_len, o_lens, o_idxN, o_eix, o_ldiI, o_ldiI0, o_slcL, o_slcH, o_app, o_mk1, o_ifc, o_str, o_byt, c_int, c_bool, c_str, c_list, c_agg, c_iface, c_nilI, c_unit2, c_unit, c_true, i_te, g_T, g_F, g_u, b_norm, b_exitN, b_exitI, Nat.one_ne_zero, Nat.zero_ne_one, Nat.reduceEqDiff, b_ret, b_none, b_ite, a_0, a_1, a_2, a_3, a_4, a_5, a_6, a_7, a_8, a_9, a_10, a_11, a_12, a_13, a_14, a_15, a_16, a_17, a_18, a_19, a_20, a_21, a_22, a_23, a_24, f_c0, f_c1, f_c2, f_c3, f_c4, f_c5, f_c6, f_c7, f_c8, f_c9, f_c10, f_c11, f_c12, f_c13, f_c14, f_c15, f_c16, p_nil, p_cons, pk_of, Option.bind_some, Option.bind_none, List.getElem?_cons_zero, List.getElem?_cons_succ, decide_eq_true_eq, if_true, if_false, Bool.not_eq_true', Bool.false_eq_true, Bool.true_eq_false, reduceCtorEq, ne_eq, not_false_eq_true, not_true_eq_false, decide_true, decide_false, Int.toNat_natCast, Int.natCast_zero, Bool.not_true, Bool.not_false]
  | false => simp only [F10_0, h28, hlp, h25, Bool.false_eq_true, if_false, o_add, o_sub, o_mul, o_quo, o_rem, o_and, o_or, o_eql, o_neq, o_lss, o_leq, o_gtr, o_geq, o_shl, o_shr, o_seql, o_sneq, o_beql, o_bneq, o_ieql, o_ineq, o_neql, o_nneq, o_not, o_neg, o_notv, o_pickT, o_pickF, o_pick, o_conv, o_len, o_lens, o_idxN, o_eix, o_ldiI, o_ldiI0, o_slcL, o_slcH, o_app, o_mk1, o_ifc, o_str, o_byt, c_int, c_bool, c_str, c_list, c_agg, c_iface, c_nilI, c_unit2, c_unit, c_true, i_te, g_T, g_F, g_u, b_norm, b_exitN, b_exitI, Nat.one_ne_zero, Nat.zero_ne_one, Nat.reduceEqDiff, b_ret, b_none, b_ite, a_0, a_1, a_2, a_3, a_4, a_5, a_6, a_7, a_8, a_9, a_10, a_11, a_12, a_13, a_14, a_15, a_16, a_17, a_18, a_19, a_20, a_21, a_22, a_23, a_24, f_c0, f_c1, f_c2, f_c3, f_c4, f_c5, f_c6, f_c7, f_c8, f_c9, f_c10, f_c11, f_c12, f_c13, f_c14, f_c15, f_c16, p_nil, p_cons, pk_of, Option.bind_some, Option.bind_none, List.getElem?_cons_zero, List.getElem?_cons_succ, decide_eq_true_eq, if_true, if_false, Bool.not_eq_true', Bool.false_eq_true, Bool.true_eq_false, reduceCtorEq, ne_eq, not_false_eq_true, not_true_eq_false, decide_true, decide_false, Int.toNat_natCast, Int.natCast_zero, Bool.not_true, Bool.not_false]
end Go.Proofs.YtogfkdpgkloljaaDoorVs
set_option linter.unusedVariables false
set_option linter.unusedSimpArgs false
set_option maxRecDepth 100000
namespace Go.Proofs.YtogfkdpgkloljaaDoorVs
theorem rInt_len (s : RS) (lo hi : Int) : (rInt s lo hi).2.1.length ≤ s.1.length := by
  unfold rInt
  split
  · exact Nat.le_refl _
  · split
    · split
      · simp
      · simp
    · simp
theorem rCount_len (s : RS) (many : Int) : (rCount s many).2.1.length ≤ s.1.length := by
  unfold rCount
  split
  · simp
  · exact rInt_len _ _ _
theorem rCount_bnd (s : RS) (many : Int) : 0 ≤ (rCount s many).1 ∧ (rCount s many).1 ≤ ((s.1.length : Nat) : Int) := by
  have h1 := rCount_rng s many
  have h2 := rCount_len s many
  cases hw : (rCount s many).2.2 with
  | false =>
    obtain ⟨h3, h4⟩ := h1 hw
    omega
  | true =>
    unfold rCount at hw ⊢
    split
    · simp
    · rename_i hn
      rw [if_neg hn] at hw
      exact absurd (Or.inl hw) hn
theorem s10' (s : RS) (many lo hi : Int) (h : RsOK s) (hl : s.1.length ≤ 1000000) : Fix T 10 0 [rsV s, [.int .i64 many], [.int .i64 lo], [.int .i64 hi]] = some [[i64s (rInts s many lo hi).1], rsV (rInts s many lo hi).2] :=
  s10 s many lo hi h hl (by have := rCount_bnd s many; omega)
def rField (s : RS) (f : Fld) : Fld × RS :=
  if f.k = 0 then (⟨f.k, (rInt s f.lo f.hi).1, [], ⟨#[]⟩, 0, 0, 0⟩, (rInt s f.lo f.hi).2)
  else if f.k = 1 then (⟨f.k, 0, (rInts s f.many f.lo f.hi).1, ⟨#[]⟩, 0, 0, 0⟩, (rInts s f.many f.lo f.hi).2)
  else (⟨f.k, 0, [], (rText s f.many).1, 0, 0, 0⟩, (rText s f.many).2)
theorem s20 (s : RS) (f : Fld) (h : RsOK s) (hl : s.1.length ≤ 1000000) : Fix T 20 0 [rsV s, f.vs] = some [(rField s f).1.vs, rsV (rField s f).2] := by
  obtain ⟨k, n, l, t, many, lo, hi⟩ := f
  refine e20_0 0 ?_
  have h9 := s9 s lo hi h
  have h10 := s10' s many lo hi h hl
  have h11 := s11 s many h
  unfold rField
  dsimp only
  obtain ⟨b, w⟩ := s
  by_cases hk : k = 0
  · subst hk
    generalize rInt (b, w) lo hi = q at *
    obtain ⟨m, b', w'⟩ := q
    simp only [rsV, Fld.vs, i64s, u8s, if_true] at *
    simp only [F20_0, h9, List.map_nil, o_add, o_sub, o_mul, o_quo, o_rem, o_and, o_or, o_eql, o_neq, o_lss, o_leq, o_gtr, o_geq, o_shl, o_shr, o_seql, o_sneq, o_beql, o_bneq, o_ieql, o_ineq, o_neql, o_nneq, o_not, o_neg, o_notv, o_pickT, o_pickF, o_pick, o_conv, o_len, o_lens, o_idxN, o_eix, o_ldiI, o_ldiI0, o_slcL, o_slcH, o_app, o_mk1, o_ifc, o_str, o_byt, c_int, c_bool, c_str, c_list, c_agg, c_iface, c_nilI, c_unit2, c_unit, c_true, i_te, g_T, g_F, g_u, b_norm, b_exitN, b_exitI, Nat.one_ne_zero, Nat.zero_ne_one, Nat.reduceEqDiff, b_ret, b_none, b_ite, a_0, a_1, a_2, a_3, a_4, a_5, a_6, a_7, a_8, a_9, a_10, a_11, a_12, a_13, a_14, a_15, a_16, a_17, a_18, a_19, a_20, a_21, a_22, a_23, a_24, f_c0, f_c1, f_c2, f_c3, f_c4, f_c5, f_c6, f_c7, f_c8, f_c9, f_c10, f_c11, f_c12, f_c13, f_c14, f_c15, f_c16, p_nil, p_cons, pk_of, Option.bind_some, Option.bind_none, List.getElem?_cons_zero, List.getElem?_cons_succ, decide_eq_true_eq, if_true, if_false, Bool.not_eq_true', Bool.false_eq_true, Bool.true_eq_false, reduceCtorEq, ne_eq, not_false_eq_true, not_true_eq_false, decide_true, decide_false, Int.toNat_natCast, Int.natCast_zero, Bool.not_true, Bool.not_false]
  · by_cases hk1 : k = 1
    · subst hk1
      generalize rInts (b, w) many lo hi = q at *
      obtain ⟨m, b', w'⟩ := q
      simp only [rsV, Fld.vs, i64s, u8s, hk, if_true, if_false] at h10 ⊢
      have h01 : ((1 : Int) = 0) = False := by simp
      simp only [F20_0, h10, h01, List.map_nil, o_add, o_sub, o_mul, o_quo, o_rem, o_and, o_or, o_eql, o_neq, o_lss, o_leq, o_gtr, o_geq, o_shl, o_shr, o_seql, o_sneq, o_beql, o_bneq, o_ieql, o_ineq, o_neql, o_nneq, o_not, o_neg, o_notv, o_pickT, o_pickF, o_pick, o_conv, o_len, o_lens, o_idxN, o_eix, o_ldiI, o_ldiI0, o_slcL, o_slcH, o_app, o_mk1, o_ifc, o_str, o_byt, c_int, c_bool, c_str, c_list, c_agg, c_iface, c_nilI, c_unit2, c_unit, c_true, i_te, g_T, g_F, g_u, b_norm, b_exitN, b_exitI, Nat.one_ne_zero, Nat.zero_ne_one, Nat.reduceEqDiff, b_ret, b_none, b_ite, a_0, a_1, a_2, a_3, a_4, a_5, a_6, a_7, a_8, a_9, a_10, a_11, a_12, a_13, a_14, a_15, a_16, a_17, a_18, a_19, a_20, a_21, a_22, a_23, a_24, f_c0, f_c1, f_c2, f_c3, f_c4, f_c5, f_c6, f_c7, f_c8, f_c9, f_c10, f_c11, f_c12, f_c13, f_c14, f_c15, f_c16, p_nil, p_cons, pk_of, Option.bind_some, Option.bind_none, List.getElem?_cons_zero, List.getElem?_cons_succ, decide_eq_true_eq, if_true, if_false, Bool.not_eq_true', Bool.false_eq_true, Bool.true_eq_false, reduceCtorEq, ne_eq, not_false_eq_true, not_true_eq_false, decide_true, decide_false, Int.toNat_natCast, Int.natCast_zero, Bool.not_true, Bool.not_false]
    · generalize rText (b, w) many = q at *
      obtain ⟨m, b', w'⟩ := q
      simp only [rsV, Fld.vs, i64s, u8s, hk, hk1, if_false] at h11 ⊢
      simp only [F20_0, h11, hk, hk1, List.map_nil, o_add, o_sub, o_mul, o_quo, o_rem, o_and, o_or, o_eql, o_neq, o_lss, o_leq, o_gtr, o_geq, o_shl, o_shr, o_seql, o_sneq, o_beql, o_bneq, o_ieql, o_ineq, o_neql, o_nneq, o_not, o_neg, o_notv, o_pickT, o_pickF, o_pick, o_conv, o_len, o_lens, o_idxN, o_eix, o_ldiI, o_ldiI0, o_slcL, o_slcH, o_app, o_mk1, o_ifc, o_str, o_byt, c_int, c_bool, c_str, c_list, c_agg, c_iface, c_nilI, c_unit2, c_unit, c_true, i_te, g_T, g_F, g_u, b_norm, b_exitN, b_exitI, Nat.one_ne_zero, Nat.zero_ne_one, Nat.reduceEqDiff, b_ret, b_none, b_ite, a_0, a_1, a_2, a_3, a_4, a_5, a_6, a_7, a_8, a_9, a_10, a_11, a_12, a_13, a_14, a_15, a_16, a_17, a_18, a_19, a_20, a_21, a_22, a_23, a_24, f_c0, f_c1, f_c2, f_c3, f_c4, f_c5, f_c6, f_c7, f_c8, f_c9, f_c10, f_c11, f_c12, f_c13, f_c14, f_c15, f_c16, p_nil, p_cons, pk_of, Option.bind_some, Option.bind_none, List.getElem?_cons_zero, List.getElem?_cons_succ, decide_eq_true_eq, if_true, if_false, Bool.not_eq_true', Bool.false_eq_true, Bool.true_eq_false, reduceCtorEq, ne_eq, not_false_eq_true, not_true_eq_false, decide_true, decide_false, Int.toNat_natCast, Int.natCast_zero, Bool.not_true, Bool.not_false]
theorem s19 (a b : Fld) (hm : a.l.length < 2 ^ 62) : Fix T 19 0 [a.vs, b.vs] = some [[.bool (decide (a.k = b.k ∧ a.n = b.n ∧ a.l = b.l) && (a.s.toList == b.s.toList))]] := by
  obtain ⟨k, n, l, t, many, lo, hi⟩ := a
  obtain ⟨k', n', l', t', many', lo', hi'⟩ := b
  refine e19_0 0 ?_
  have h := s21 l l' hm
  dsimp only
  unfold i64s at *
  by_cases hk : k = k' <;> by_cases hn : n = n' <;> by_cases hl : l = l' <;>
    ((first | have bk := eq_false hk | have bk := eq_true hk)
     (first | have bn := eq_false hn | have bn := eq_true hn)
     (first | have bl := eq_false hl | have bl := eq_true hl)
     clear hk hn hl
     simp only [F19_0, h, bk, bn, bl, and_self, and_true, true_and, false_and, and_false, decide_true, decide_false, Bool.true_and, Bool.false_and, o_add, o_sub, o_mul, o_quo, o_rem, o_and, o_or, o_eql, o_neq, o_lss, o_leq, o_gtr, o_geq, o_shl, o_shr, o_seql, o_sneq, o_beql, o_bneq, o_ieql, o_ineq, o_neql, o_nneq, o_not, o_neg, o_notv, o_pickT, o_pickF, o_pick, o_conv, o_len, o_lens, o_idxN, o_eix, o_ldiI, o_ldiI0, o_slcL, o_slcH, o_app, o_mk1, o_ifc, o_str, o_byt, c_int, c_bool, c_str, c_list, c_agg, c_iface, c_nilI, c_unit2, c_unit, c_true, i_te, g_T, g_F, g_u, b_norm, b_exitN, b_exitI, Nat.one_ne_zero, Nat.zero_ne_one, Nat.reduceEqDiff, b_ret, b_none, b_ite, a_0, a_1, a_2, a_3, a_4, a_5, a_6, a_7, a_8, a_9, a_10, a_11, a_12, a_13, a_14, a_15, a_16, a_17, a_18, a_19, a_20, a_21, a_22, a_23, a_24, f_c0, f_c1, f_c2, f_c3, f_c4, f_c5, f_c6, f_c7, f_c8, f_c9, f_c10, f_c11, f_c12, f_c13, f_c14, f_c15, f_c16, p_nil, p_cons, pk_of, Option.bind_some, Option.bind_none, List.getElem?_cons_zero, List.getElem?_cons_succ, decide_eq_true_eq, if_true, if_false, Bool.not_eq_true', Bool.false_eq_true, Bool.true_eq_false, reduceCtorEq, ne_eq, not_false_eq_true, not_true_eq_false, decide_true, decide_false, Int.toNat_natCast, Int.natCast_zero, Bool.not_true, Bool.not_false])
end Go.Proofs.YtogfkdpgkloljaaDoorVs
set_option linter.unusedVariables false
set_option linter.unusedSimpArgs false
set_option maxRecDepth 100000
namespace Go.Proofs.YtogfkdpgkloljaaDoorVs
def flds (l : List Fld) : V := .list 29 (l.map fun f => V.agg f.vs)
theorem o_ldi2 {Φ : Funs} {f : Fld} {k : V → TR} : op1V Φ (.ldi 2 1 false [false]) [[.agg f.vs]] k = k (.list 3 (f.l.map (V.int .i64))) := by
  simp [op1V, VF.sem, vsub, k1, maskOk, Fld.vs, i64s]
theorem o_ldi3 {Φ : Funs} {f : Fld} {k : V → TR} : op1V Φ (.ldi 3 1 false [true]) [[.agg f.vs]] k = k (.str f.s) := by
  simp [op1V, VF.sem, vsub, k1, maskOk, Fld.vs, i64s, scalarE, scalarV]
def bad (f : Fld) : Bool := decide (60 < f.l.length) || decide (300 < f.s.size)
def gr (l : List Fld) : Bool := (l.take 20).any bad || decide (20 < l.length)
theorem s14_loop (n : Nat) (l : List Fld) : ∀ (d i fuel : Nat), min 20 l.length - i = d → i ≤ min 20 l.length → d < fuel →
    lpV [1, 1] (F14_0_b0 (Fix T) n (flds l)) fuel [.bool false, .int .i64 i] = if ((l.take 20).drop i).any bad = true then some (.ret [[.bool true]]) else some (.exit 0 [1, 1] [.bool false, .int .i64 (min 20 l.length : Nat)]) := by
  intro d
  induction d with
  | zero =>
    intro i fuel hd hi hf
    obtain ⟨fuel, rfl⟩ : ∃ m, fuel = m + 1 := ⟨fuel - 1, by omega⟩
    obtain rfl : i = min 20 l.length := by omega
    have hz : (l.take 20).drop (min 20 l.length) = [] := List.drop_of_length_le (by simp)
    rw [hz]
    by_cases h : ((min 20 l.length : Nat) : Int) < l.length
    · have h2 : ¬ ((min 20 l.length : Nat) : Int) < 20 := by omega
      have b1 := eq_true h
      have b2 := eq_false h2
      rw [lp_exit (j := 0) (l' := [1, 1]) (vs' := [.bool false, .int .i64 (min 20 l.length : Nat)]) (by simp only [F14_0_b0, flds, b1, b2, List.length_map, o_add, o_sub, o_mul, o_quo, o_rem, o_and, o_or, o_eql, o_neq, o_lss, o_leq, o_gtr, o_geq, o_shl, o_shr, o_seql, o_sneq, o_beql, o_bneq, o_ieql, o_ineq, o_neql, o_nneq, o_not, o_neg, o_notv, o_pickT, o_pickF, o_pick, o_conv, o_len, o_lens, o_idxN, o_eix, o_ldiI, o_ldiI0, o_slcL, o_slcH, o_app, o_mk1, o_ifc, o_str, o_byt, c_int, c_bool, c_str, c_list, c_agg, c_iface, c_nilI, c_unit2, c_unit, c_true, i_te, g_T, g_F, g_u, b_norm, b_exitN, b_exitI, Nat.one_ne_zero, Nat.zero_ne_one, Nat.reduceEqDiff, b_ret, b_none, b_ite, a_0, a_1, a_2, a_3, a_4, a_5, a_6, a_7, a_8, a_9, a_10, a_11, a_12, a_13, a_14, a_15, a_16, a_17, a_18, a_19, a_20, a_21, a_22, a_23, a_24, f_c0, f_c1, f_c2, f_c3, f_c4, f_c5, f_c6, f_c7, f_c8, f_c9, f_c10, f_c11, f_c12, f_c13, f_c14, f_c15, f_c16, p_nil, p_cons, pk_of, Option.bind_some, Option.bind_none, List.getElem?_cons_zero, List.getElem?_cons_succ, decide_eq_true_eq, if_true, if_false, Bool.not_eq_true', Bool.false_eq_true, Bool.true_eq_false, reduceCtorEq, ne_eq, not_false_eq_true, not_true_eq_false, decide_true, decide_false, Int.toNat_natCast, Int.natCast_zero, Bool.not_true, Bool.not_false])]
      simp
    · have b1 := eq_false h
      rw [lp_exit (j := 0) (l' := [1, 1]) (vs' := [.bool false, .int .i64 (min 20 l.length : Nat)]) (by simp only [F14_0_b0, flds, b1, List.length_map, o_add, o_sub, o_mul, o_quo, o_rem, o_and, o_or, o_eql, o_neq, o_lss, o_leq, o_gtr, o_geq, o_shl, o_shr, o_seql, o_sneq, o_beql, o_bneq, o_ieql, o_ineq, o_neql, o_nneq, o_not, o_neg, o_notv, o_pickT, o_pickF, o_pick, o_conv, o_len, o_lens, o_idxN, o_eix, o_ldiI, o_ldiI0, o_slcL, o_slcH, o_app, o_mk1, o_ifc, o_str, o_byt, c_int, c_bool, c_str, c_list, c_agg, c_iface, c_nilI, c_unit2, c_unit, c_true, i_te, g_T, g_F, g_u, b_norm, b_exitN, b_exitI, Nat.one_ne_zero, Nat.zero_ne_one, Nat.reduceEqDiff, b_ret, b_none, b_ite, a_0, a_1, a_2, a_3, a_4, a_5, a_6, a_7, a_8, a_9, a_10, a_11, a_12, a_13, a_14, a_15, a_16, a_17, a_18, a_19, a_20, a_21, a_22, a_23, a_24, f_c0, f_c1, f_c2, f_c3, f_c4, f_c5, f_c6, f_c7, f_c8, f_c9, f_c10, f_c11, f_c12, f_c13, f_c14, f_c15, f_c16, p_nil, p_cons, pk_of, Option.bind_some, Option.bind_none, List.getElem?_cons_zero, List.getElem?_cons_succ, decide_eq_true_eq, if_true, if_false, Bool.not_eq_true', Bool.false_eq_true, Bool.true_eq_false, reduceCtorEq, ne_eq, not_false_eq_true, not_true_eq_false, decide_true, decide_false, Int.toNat_natCast, Int.natCast_zero, Bool.not_true, Bool.not_false])]
      simp
  | succ d ih =>
    intro i fuel hd hi hf
    obtain ⟨fuel, rfl⟩ : ∃ m, fuel = m + 1 := ⟨fuel - 1, by omega⟩
    have hlt : i < l.length := by omega
    have b1 : ((i : Int) < l.length) = True := eq_true (by omega)
    have b2 : ((i : Int) < 20) = True := eq_true (by omega)
    have ea : (l.map fun f => V.agg f.vs)[i]? = some (.agg l[i].vs) := by simp [hlt]
    have hda : (l.take 20).drop i = l[i] :: (l.take 20).drop (i + 1) := by
      rw [List.drop_eq_getElem_cons (by simp; omega)]
      simp
    rw [hda]
    by_cases h1 : (60 : Int) < l[i].l.length
    · have b3 := eq_true h1
      have hbd : bad l[i] = true := by simp [bad]; omega
      rw [lp_ret (rs := [[.bool true]]) (by simp only [F14_0_b0, flds, b1, b2, b3, ea, o_ldi2, o_ldi3, List.length_map, o_add, o_sub, o_mul, o_quo, o_rem, o_and, o_or, o_eql, o_neq, o_lss, o_leq, o_gtr, o_geq, o_shl, o_shr, o_seql, o_sneq, o_beql, o_bneq, o_ieql, o_ineq, o_neql, o_nneq, o_not, o_neg, o_notv, o_pickT, o_pickF, o_pick, o_conv, o_len, o_lens, o_idxN, o_eix, o_ldiI, o_ldiI0, o_slcL, o_slcH, o_app, o_mk1, o_ifc, o_str, o_byt, c_int, c_bool, c_str, c_list, c_agg, c_iface, c_nilI, c_unit2, c_unit, c_true, i_te, g_T, g_F, g_u, b_norm, b_exitN, b_exitI, Nat.one_ne_zero, Nat.zero_ne_one, Nat.reduceEqDiff, b_ret, b_none, b_ite, a_0, a_1, a_2, a_3, a_4, a_5, a_6, a_7, a_8, a_9, a_10, a_11, a_12, a_13, a_14, a_15, a_16, a_17, a_18, a_19, a_20, a_21, a_22, a_23, a_24, f_c0, f_c1, f_c2, f_c3, f_c4, f_c5, f_c6, f_c7, f_c8, f_c9, f_c10, f_c11, f_c12, f_c13, f_c14, f_c15, f_c16, p_nil, p_cons, pk_of, Option.bind_some, Option.bind_none, List.getElem?_cons_zero, List.getElem?_cons_succ, decide_eq_true_eq, if_true, if_false, Bool.not_eq_true', Bool.false_eq_true, Bool.true_eq_false, reduceCtorEq, ne_eq, not_false_eq_true, not_true_eq_false, decide_true, decide_false, Int.toNat_natCast, Int.natCast_zero, Bool.not_true, Bool.not_false])]
      simp [hbd]
    · have b3 := eq_false h1
      by_cases h2 : (300 : Int) < l[i].s.size
      · have b4 := eq_true h2
        have hbd : bad l[i] = true := by simp [bad]; omega
        rw [lp_ret (rs := [[.bool true]]) (by simp only [F14_0_b0, flds, b1, b2, b3, b4, ea, o_ldi2, o_ldi3, List.length_map, o_add, o_sub, o_mul, o_quo, o_rem, o_and, o_or, o_eql, o_neq, o_lss, o_leq, o_gtr, o_geq, o_shl, o_shr, o_seql, o_sneq, o_beql, o_bneq, o_ieql, o_ineq, o_neql, o_nneq, o_not, o_neg, o_notv, o_pickT, o_pickF, o_pick, o_conv, o_len, o_lens, o_idxN, o_eix, o_ldiI, o_ldiI0, o_slcL, o_slcH, o_app, o_mk1, o_ifc, o_str, o_byt, c_int, c_bool, c_str, c_list, c_agg, c_iface, c_nilI, c_unit2, c_unit, c_true, i_te, g_T, g_F, g_u, b_norm, b_exitN, b_exitI, Nat.one_ne_zero, Nat.zero_ne_one, Nat.reduceEqDiff, b_ret, b_none, b_ite, a_0, a_1, a_2, a_3, a_4, a_5, a_6, a_7, a_8, a_9, a_10, a_11, a_12, a_13, a_14, a_15, a_16, a_17, a_18, a_19, a_20, a_21, a_22, a_23, a_24, f_c0, f_c1, f_c2, f_c3, f_c4, f_c5, f_c6, f_c7, f_c8, f_c9, f_c10, f_c11, f_c12, f_c13, f_c14, f_c15, f_c16, p_nil, p_cons, pk_of, Option.bind_some, Option.bind_none, List.getElem?_cons_zero, List.getElem?_cons_succ, decide_eq_true_eq, if_true, if_false, Bool.not_eq_true', Bool.false_eq_true, Bool.true_eq_false, reduceCtorEq, ne_eq, not_false_eq_true, not_true_eq_false, decide_true, decide_false, Int.toNat_natCast, Int.natCast_zero, Bool.not_true, Bool.not_false])]
        simp [hbd]
      · have b4 := eq_false h2
        have hbd : bad l[i] = false := by simp [bad]; omega
        rw [lp_norm (vs' := [.bool false, .int .i64 ((i + 1 : Nat) : Int)]) (by simp only [F14_0_b0, flds, b1, b2, b3, b4, ea, o_ldi2, o_ldi3, w_succ (show i < 4611686018427387904 by omega), List.length_map, o_add, o_sub, o_mul, o_quo, o_rem, o_and, o_or, o_eql, o_neq, o_lss, o_leq, o_gtr, o_geq, o_shl, o_shr, o_seql, o_sneq, o_beql, o_bneq, o_ieql, o_ineq, o_neql, o_nneq, o_not, o_neg, o_notv, o_pickT, o_pickF, o_pick, o_conv, o_len, o_lens, o_idxN, o_eix, o_ldiI, o_ldiI0, o_slcL, o_slcH, o_app, o_mk1, o_ifc, o_str, o_byt, c_int, c_bool, c_str, c_list, c_agg, c_iface, c_nilI, c_unit2, c_unit, c_true, i_te, g_T, g_F, g_u, b_norm, b_exitN, b_exitI, Nat.one_ne_zero, Nat.zero_ne_one, Nat.reduceEqDiff, b_ret, b_none, b_ite, a_0, a_1, a_2, a_3, a_4, a_5, a_6, a_7, a_8, a_9, a_10, a_11, a_12, a_13, a_14, a_15, a_16, a_17, a_18, a_19, a_20, a_21, a_22, a_23, a_24, f_c0, f_c1, f_c2, f_c3, f_c4, f_c5, f_c6, f_c7, f_c8, f_c9, f_c10, f_c11, f_c12, f_c13, f_c14, f_c15, f_c16, p_nil, p_cons, pk_of, Option.bind_some, Option.bind_none, List.getElem?_cons_zero, List.getElem?_cons_succ, decide_eq_true_eq, if_true, if_false, Bool.not_eq_true', Bool.false_eq_true, Bool.true_eq_false, reduceCtorEq, ne_eq, not_false_eq_true, not_true_eq_false, decide_true, decide_false, Int.toNat_natCast, Int.natCast_zero, Bool.not_true, Bool.not_false])]
        rw [ih (i + 1) fuel (by omega) (by omega) (by omega)]
        simp only [List.any_cons, hbd, Bool.false_or]
theorem s14 (l : List Fld) (hl : l.length < 2 ^ 62) : Fix T 14 0 [[flds l]] = some [[.bool (gr l)]] := by
  refine e14_0 21 ?_
  have h : lpV [1, 1] (F14_0_b0 (Fix T) 21 (flds l)) 21 [.bool false, .int .i64 0] = _ := s14_loop 21 l (min 20 l.length) 0 21 (by omega) (by omega) (by omega)
  rw [List.drop_zero] at h
  unfold gr
  unfold flds at *
  cases hb : (l.take 20).any bad with
  | true =>
    rw [if_pos hb] at h
    simp only [F14_0, h, Bool.true_or, o_add, o_sub, o_mul, o_quo, o_rem, o_and, o_or, o_eql, o_neq, o_lss, o_leq, o_gtr, o_geq, o_shl, o_shr, o_seql, o_sneq, o_beql, o_bneq, o_ieql, o_ineq, o_neql, o_nneq, o_not, o_neg, o_notv, o_pickT, o_pickF, o_pick, o_conv, o_len, o_lens, o_idxN, o_eix, o_ldiI, o_ldiI0, o_slcL, o_slcH, o_app, o_mk1, o_ifc, o_str, o_byt, c_int, c_bool, c_str, c_list, c_agg, c_iface, c_nilI, c_unit2, c_unit, c_true, i_te, g_T, g_F, g_u, b_norm, b_exitN, b_exitI, Nat.one_ne_zero, Nat.zero_ne_one, Nat.reduceEqDiff, b_ret, b_none, b_ite, a_0, a_1, a_2, a_3, a_4, a_5, a_6, a_7, a_8, a_9, a_10, a_11, a_12, a_13, a_14, a_15, a_16, a_17, a_18, a_19, a_20, a_21, a_22, a_23, a_24, f_c0, f_c1, f_c2, f_c3, f_c4, f_c5, f_c6, f_c7, f_c8, f_c9, f_c10, f_c11, f_c12, f_c13, f_c14, f_c15, f_c16, p_nil, p_cons, pk_of, Option.bind_some, Option.bind_none, List.getElem?_cons_zero, List.getElem?_cons_succ, decide_eq_true_eq, if_true, if_false, Bool.not_eq_true', Bool.false_eq_true, Bool.true_eq_false, reduceCtorEq, ne_eq, not_false_eq_true, not_true_eq_false, decide_true, decide_false, Int.toNat_natCast, Int.natCast_zero, Bool.not_true, Bool.not_false]
  | false =>
    rw [if_neg (by rw [hb]; simp)] at h
    have e : decide ((20 : Int) < l.length) = decide (20 < l.length) := by simp; omega
    simp only [F14_0, h, List.length_map, Bool.false_or, o_add, o_sub, o_mul, o_quo, o_rem, o_and, o_or, o_eql, o_neq, o_lss, o_leq, o_gtr, o_geq, o_shl, o_shr, o_seql, o_sneq, o_beql, o_bneq, o_ieql, o_ineq, o_neql, o_nneq, o_not, o_neg, o_notv, o_pickT, o_pickF, o_pick, o_conv, o_len, o_lens, o_idxN, o_eix, o_ldiI, o_ldiI0, o_slcL, o_slcH, o_app, o_mk1, o_ifc, o_str, o_byt, c_int, c_bool, c_str, c_list, c_agg, c_iface, c_nilI, c_unit2, c_unit, c_true, i_te, g_T, g_F, g_u, b_norm, b_exitN, b_exitI, Nat.one_ne_zero, Nat.zero_ne_one, Nat.reduceEqDiff, b_ret, b_none, b_ite, a_0, a_1, a_2, a_3, a_4, a_5, a_6, a_7, a_8, a_9, a_10, a_11, a_12, a_13, a_14, a_15, a_16, a_17, a_18, a_19, a_20, a_21, a_22, a_23, a_24, f_c0, f_c1, f_c2, f_c3, f_c4, f_c5, f_c6, f_c7, f_c8, f_c9, f_c10, f_c11, f_c12, f_c13, f_c14, f_c15, f_c16, p_nil, p_cons, pk_of, Option.bind_some, Option.bind_none, List.getElem?_cons_zero, List.getElem?_cons_succ, decide_eq_true_eq, if_true, if_false, Bool.not_eq_true', Bool.false_eq_true, Bool.true_eq_false, reduceCtorEq, ne_eq, not_false_eq_true, not_true_eq_false, decide_true, decide_false, Int.toNat_natCast, Int.natCast_zero, Bool.not_true, Bool.not_false]
    exact congrArg (fun b => some (TO.ret [[V.bool b]])) e
end Go.Proofs.YtogfkdpgkloljaaDoorVs
set_option linter.unusedVariables false
set_option linter.unusedSimpArgs false
set_option maxRecDepth 100000
namespace Go.Proofs.YtogfkdpgkloljaaDoorVs
theorem o_ldi7 {Φ : Funs} {f : Fld} {k : V → V → V → V → V → V → V → TR} : opnV Φ (.ldi 0 7 true [true, true, false, true, true, true, true]) [[.agg f.vs]] 7 k = k (.int .u8 f.k) (.int .i64 f.n) (i64s f.l) (.str f.s) (.int .i64 f.many) (.int .i64 f.lo) (.int .i64 f.hi) := by
  rw [o_n7]
  simp [VF.sem, vsub, k1, maskOk, Fld.vs, i64s, scalarE, scalarV]
  rfl
theorem encs_len : ∀ (l : List Int), (∀ x ∈ l, R64 x) → (encs l).length ≤ 10 * l.length
  | [], _ => by simp [encs]
  | x :: r, h => by
    have h1 := encs_len r (fun y hy => h y (List.mem_cons_of_mem _ hy))
    have h2 := h x List.mem_cons_self
    have h3 := enc_len_10 x h2.1 h2.2
    have e : encs (x :: r) = enc x ++ encs r := rfl
    rw [e]
    simp
    omega
/-- a field that is not too much -/
structure Fld.Sm (f : Fld) : Prop where
  ok : f.OK
  l : f.l.length ≤ 60
  s : f.s.size ≤ 300
theorem Fld.Sm.enc_len {f : Fld} (h : f.Sm) : f.enc.length ≤ 1000 := by
  have h1 := encs_len f.l h.ok.l
  have h2 := enc_len_10 f.n h.ok.n.1 h.ok.n.2
  have h3 := h.l
  have h4 := h.s
  have h5 := enc_len_10 (f.l.length : Int) (by omega) (by omega)
  have h6 := enc_len_10 (f.s.size : Int) (by omega) (by omega)
  have h7 : (strB f.s).length = f.s.size := by simp [strB]
  unfold Fld.enc
  split
  · omega
  · split <;> simp <;> omega
def allE (l : List Fld) : List Int := (l.map Fld.enc).flatten
theorem s4_write (n : Nat) (l : List Fld) (hs : ∀ f ∈ l, f.Sm) (hl : l.length ≤ 20) : ∀ (d i fuel : Nat) (acc : List Int), l.length - i = d → i ≤ l.length → d < fuel → acc.length ≤ 1000 * i →
    lpV [1, 1, 1] (F4_0_b0 (Fix T) n (flds l)) fuel [.unit, u8s acc, .int .i64 i] = some (.exit 0 [1, 1, 1] [.int .i64 l.length, .unit, u8s (acc ++ allE (l.drop i))]) := by
  intro d
  induction d with
  | zero =>
    intro i fuel acc hd hi hf hb
    obtain ⟨fuel, rfl⟩ : ∃ m, fuel = m + 1 := ⟨fuel - 1, by omega⟩
    obtain rfl : i = l.length := by omega
    have b1 : ((l.length : Int) < l.length) = False := eq_false (by omega)
    rw [lp_exit (j := 0) (l' := [1, 1, 1]) (vs' := [.int .i64 l.length, .unit, u8s acc]) (by simp only [F4_0_b0, flds, b1, List.length_map, o_add, o_sub, o_mul, o_quo, o_rem, o_and, o_or, o_eql, o_neq, o_lss, o_leq, o_gtr, o_geq, o_shl, o_shr, o_seql, o_sneq, o_beql, o_bneq, o_ieql, o_ineq, o_neql, o_nneq, o_not, o_neg, o_notv, o_pickT, o_pickF, o_pick, o_conv, o_len, o_lens, o_idxN, o_eix, o_ldiI, o_ldiI0, o_slcL, o_slcH, o_app, o_mk1, o_ifc, o_str, o_byt, c_int, c_bool, c_str, c_list, c_agg, c_iface, c_nilI, c_unit2, c_unit, c_true, i_te, g_T, g_F, g_u, b_norm, b_exitN, b_exitI, Nat.one_ne_zero, Nat.zero_ne_one, Nat.reduceEqDiff, b_ret, b_none, b_ite, a_0, a_1, a_2, a_3, a_4, a_5, a_6, a_7, a_8, a_9, a_10, a_11, a_12, a_13, a_14, a_15, a_16, a_17, a_18, a_19, a_20, a_21, a_22, a_23, a_24, f_c0, f_c1, f_c2, f_c3, f_c4, f_c5, f_c6, f_c7, f_c8, f_c9, f_c10, f_c11, f_c12, f_c13, f_c14, f_c15, f_c16, p_nil, p_cons, pk_of, Option.bind_some, Option.bind_none, List.getElem?_cons_zero, List.getElem?_cons_succ, decide_eq_true_eq, if_true, if_false, Bool.not_eq_true', Bool.false_eq_true, Bool.true_eq_false, reduceCtorEq, ne_eq, not_false_eq_true, not_true_eq_false, decide_true, decide_false, Int.toNat_natCast, Int.natCast_zero, Bool.not_true, Bool.not_false])]
    simp [allE]
  | succ d ih =>
    intro i fuel acc hd hi hf hb
    obtain ⟨fuel, rfl⟩ : ∃ m, fuel = m + 1 := ⟨fuel - 1, by omega⟩
    have hlt : i < l.length := by omega
    have b1 : ((i : Int) < l.length) = True := eq_true (by omega)
    have ea : (l.map fun f => V.agg f.vs)[i]? = some (.agg l[i].vs) := by simp [hlt]
    have hda : l.drop i = l[i] :: l.drop (i + 1) := List.drop_eq_getElem_cons hlt
    have hf1 := hs l[i] (List.getElem_mem hlt)
    have h10 := hf1.enc_len
    have h60 := hf1.l
    have h300 := hf1.s
    have h6 := s6 acc l[i] hf1.ok (by omega)
    unfold Fld.vs i64s u8s at h6
    rw [lp_norm (vs' := [.unit, u8s (acc ++ l[i].enc), .int .i64 ((i + 1 : Nat) : Int)]) (by simp only [F4_0_b0, flds, b1, ea, o_ldi7, h6, i64s, u8s, w_succ (show i < 4611686018427387904 by omega), List.length_map, o_add, o_sub, o_mul, o_quo, o_rem, o_and, o_or, o_eql, o_neq, o_lss, o_leq, o_gtr, o_geq, o_shl, o_shr, o_seql, o_sneq, o_beql, o_bneq, o_ieql, o_ineq, o_neql, o_nneq, o_not, o_neg, o_notv, o_pickT, o_pickF, o_pick, o_conv, o_len, o_lens, o_idxN, o_eix, o_ldiI, o_ldiI0, o_slcL, o_slcH, o_app, o_mk1, o_ifc, o_str, o_byt, c_int, c_bool, c_str, c_list, c_agg, c_iface, c_nilI, c_unit2, c_unit, c_true, i_te, g_T, g_F, g_u, b_norm, b_exitN, b_exitI, Nat.one_ne_zero, Nat.zero_ne_one, Nat.reduceEqDiff, b_ret, b_none, b_ite, a_0, a_1, a_2, a_3, a_4, a_5, a_6, a_7, a_8, a_9, a_10, a_11, a_12, a_13, a_14, a_15, a_16, a_17, a_18, a_19, a_20, a_21, a_22, a_23, a_24, f_c0, f_c1, f_c2, f_c3, f_c4, f_c5, f_c6, f_c7, f_c8, f_c9, f_c10, f_c11, f_c12, f_c13, f_c14, f_c15, f_c16, p_nil, p_cons, pk_of, Option.bind_some, Option.bind_none, List.getElem?_cons_zero, List.getElem?_cons_succ, decide_eq_true_eq, if_true, if_false, Bool.not_eq_true', Bool.false_eq_true, Bool.true_eq_false, reduceCtorEq, ne_eq, not_false_eq_true, not_true_eq_false, decide_true, decide_false, Int.toNat_natCast, Int.natCast_zero, Bool.not_true, Bool.not_false])]
    rw [ih (i + 1) fuel _ (by omega) (by omega) (by omega) (by simp; omega), show allE (l.drop i) = l[i].enc ++ allE (l.drop (i + 1)) from by rw [hda]; rfl, List.append_assoc]
end Go.Proofs.YtogfkdpgkloljaaDoorVs
set_option linter.unusedVariables false
set_option linter.unusedSimpArgs false
set_option maxRecDepth 100000
namespace Go.Proofs.YtogfkdpgkloljaaDoorVs
open Go.RowKit (wrap64)
theorem gt_enc (n : Int) (hn1 : -9223372036854775808 ≤ n) (hn2 : n ≤ 9223372036854775807) (behind whole : List Int) (hw : whole = enc n ++ behind) :
    ∀ (d i : Nat) (m : Int), m = n / 2 ^ (7 * i) → -(64 * 128 ^ d) ≤ m → m < 64 * 128 ^ d → i + d ≤ 9 → (enc n).length = i + (enc m).length →
      gtS whole (enc m ++ behind) i (n % 2 ^ (7 * i)) = some (n, (enc n).length) := by
  intro d
  induction d with
  | zero =>
    intro i m hm hm1 hm2 hi hlen
    have hsm : -64 ≤ m ∧ m < 64 := by omega
    rw [enc_small hsm] at hlen ⊢
    have hpp := pow_pos' (7 * i)
    have ha0 := Int.emod_nonneg n (Int.ne_of_gt hpp)
    have ha := Int.emod_lt_of_pos n hpp
    have hdm := Int.mul_ediv_add_emod n (2 ^ (7 * i))
    have hv : valOf (n % 2 ^ (7 * i)) (m % 128) i = n := by
      unfold valOf
      have e : m * 2 ^ (7 * i) + n % 2 ^ (7 * i) = n := by rw [hm, Int.mul_comm]; exact hdm
      rcases Int.lt_or_le m 0 with hneg | hpos
      · have e2 : m % 128 = m + 128 := by omega
        rw [e2, if_neg (by omega), Int.add_mul]
        by_cases h9 : i < 9
        · rw [if_pos h9, pow7 i, show n % 2 ^ (7 * i) + (m * 2 ^ (7 * i) + 128 * 2 ^ (7 * i)) - 2 ^ (7 * i) * 128 = n from by omega]
          exact wrap_in hn1 hn2
        · rw [if_neg h9]
          obtain rfl : i = 9 := by omega
          have e3 : (128 : Int) * 2 ^ (7 * 9) = 1180591620717411303424 := by decide
          rw [e3]
          unfold wrap64; omega
      · have e2 : m % 128 = m := by omega
        rw [e2, if_pos (by omega), show n % 2 ^ (7 * i) + m * 2 ^ (7 * i) = n from by omega]
        exact wrap_in hn1 hn2
    have hlen' : (enc n).length = i + 1 := by simpa using hlen
    simp only [List.cons_append, gtS]
    rw [if_neg (by omega), if_pos (by omega), hv, if_pos (by rw [hw, ← hlen']; simp), hlen']
  | succ d ih =>
    intro i m hm hm1 hm2 hi hlen
    by_cases hsm : -64 ≤ m ∧ m < 64
    · have h128 : (0 : Int) < 128 ^ d := Int.pow_pos (by decide)
      exact ih i m hm (by omega) (by omega) (by omega) hlen
    · rw [enc_big hsm] at hlen ⊢
      have hpp := pow_pos' (7 * i)
      have e1 : (m % 128 + 128) % 128 = n / 2 ^ (7 * i) % 128 := by rw [← hm]; omega
      have e2 := emod_step n (2 ^ (7 * i)) hpp
      rw [← pow7 i] at e2
      have hp := pow_le_63 (s := 7 * (i + 1)) (by omega)
      have hb0 := Int.emod_nonneg n (Int.ne_of_gt (pow_pos' (7 * (i + 1))))
      have hb1 := Int.emod_lt_of_pos n (pow_pos' (7 * (i + 1)))
      simp only [List.cons_append, gtS]
      rw [if_neg (by omega), if_neg (by omega), e1, ← e2, wrap_in (by omega) (by omega)]
      refine ih (i + 1) (m / 128) ?_ (by rw [Int.pow_succ] at hm1; omega) (by rw [Int.pow_succ] at hm2; omega) (by omega) (by simp at hlen; omega)
      rw [hm, pow7 i, Int.ediv_ediv_of_nonneg (Int.le_of_lt hpp)]
/-- what was put is read -/
theorem getS_enc (n : Int) (h : R64 n) (r : List Int) : getS (enc n ++ r) = some (n, (enc n).length) := by
  have e9 : (64 : Int) * 128 ^ 9 = 590295810358705651712 := by decide
  obtain ⟨h1, h2⟩ := h
  have := gt_enc n h1 h2 r (enc n ++ r) rfl 9 0 n (by simp) (by omega) (by omega) (by omega) (by simp)
  simpa [getS] using this
theorem rInt_enc (n : Int) (h : R64 n) (r : List Int) (lo hi : Int) (hlo : lo ≤ n) (hhi : n ≤ hi) : rInt (enc n ++ r, false) lo hi = (n, (r, false)) := by
  unfold rInt
  simp only [getS_enc n h r, Bool.false_eq_true, if_false]
  rw [if_neg (by omega)]
  simp
end Go.Proofs.YtogfkdpgkloljaaDoorVs
set_option linter.unusedVariables false
set_option linter.unusedSimpArgs false
set_option maxRecDepth 100000
namespace Go.Proofs.YtogfkdpgkloljaaDoorVs
theorem rCount_enc (n : Nat) (r : List Int) (many : Int) (h1 : (n : Int) ≤ many) (h2 : n ≤ r.length) (h3 : n < 2 ^ 62) : rCount (enc n ++ r, false) many = ((n : Int), (r, false)) := by
  have h := rInt_enc (n : Int) ⟨by omega, by omega⟩ r 0 many (by omega) h1
  unfold rCount
  rw [h, if_neg]
  simp
  omega
theorem rLoop_enc (lo hi : Int) (r : List Int) : ∀ (l : List Int), (∀ x ∈ l, R64 x ∧ lo ≤ x ∧ x ≤ hi) → rLoop lo hi l.length (encs l ++ r, false) = (l, (r, false))
  | [], _ => by simp [rLoop, encs]
  | x :: t, h => by
    obtain ⟨h1, h2, h3⟩ := h x List.mem_cons_self
    have e : encs (x :: t) ++ r = enc x ++ (encs t ++ r) := by
      rw [show encs (x :: t) = enc x ++ encs t from rfl, List.append_assoc]
    have ih := rLoop_enc lo hi r t (fun y hy => h y (List.mem_cons_of_mem _ hy))
    rw [e]
    simp only [List.length_cons, rLoop, rInt_enc x h1 (encs t ++ r) lo hi h2 h3, ih]
theorem encs_pos : ∀ (l : List Int), l.length ≤ (encs l).length
  | [] => by simp
  | x :: t => by
    have h1 := encs_pos t
    have h2 := enc_pos x
    rw [show encs (x :: t) = enc x ++ encs t from rfl]
    simp
    omega
theorem rInts_enc (l r : List Int) (many lo hi : Int) (h1 : (l.length : Int) ≤ many) (h3 : l.length < 2 ^ 62) (h : ∀ x ∈ l, R64 x ∧ lo ≤ x ∧ x ≤ hi) : rInts (enc l.length ++ (encs l ++ r), false) many lo hi = (l, (r, false)) := by
  have hc := rCount_enc l.length (encs l ++ r) many h1 (by have := encs_pos l; simp; omega) h3
  unfold rInts
  simp only [hc, Int.toNat_natCast, rLoop_enc lo hi r l h, Bool.false_eq_true, if_false]
theorem rText_enc (s : ByteArray) (r : List Int) (many : Int) (h1 : (s.size : Int) ≤ many) (h3 : s.size < 2 ^ 62) : rText (enc s.size ++ (strB s ++ r), false) many = (strOfNums (strB s), (r, false)) := by
  have hl : (strB s).length = s.size := by simp [strB]
  have hc := rCount_enc s.size (strB s ++ r) many h1 (by simp; omega) h3
  unfold rText
  simp only [hc, Int.toNat_natCast, Bool.false_eq_true, if_false]
  rw [List.take_left' hl, List.drop_left' hl]
end Go.Proofs.YtogfkdpgkloljaaDoorVs
set_option linter.unusedVariables false
set_option linter.unusedSimpArgs false
set_option maxRecDepth 100000
namespace Go.Proofs.YtogfkdpgkloljaaDoorVs
theorem strB_str (s : ByteArray) : strOfNums (strB s) = s := by
  obtain ⟨d⟩ := s
  simp [strOfNums, strB, List.map_map, Function.comp_def]
/-- how PackBack reads a field -/
def Fld.wide (f : Fld) : Fld := { f with many := 300, lo := -9223372036854775808, hi := 9223372036854775807 }
/-- what it then reads -/
def Fld.got (f : Fld) : Fld := if f.k = 0 then ⟨f.k, f.n, [], ⟨#[]⟩, 0, 0, 0⟩ else if f.k = 1 then ⟨f.k, 0, f.l, ⟨#[]⟩, 0, 0, 0⟩ else ⟨f.k, 0, [], f.s, 0, 0, 0⟩
theorem rField_enc (f : Fld) (h : f.Sm) (r : List Int) : rField (f.enc ++ r, false) f.wide = (f.got, (r, false)) := by
  have hl := h.l
  have hs := h.s
  have hn := h.ok.n
  unfold rField Fld.wide Fld.got Fld.enc
  dsimp only
  by_cases hk : f.k = 0
  · simp only [hk, if_true, rInt_enc f.n hn r _ _ hn.1 hn.2]
  · by_cases hk1 : f.k = 1
    · have h01 : ((1 : Int) = 0) = False := by simp
      simp only [hk1, h01, if_true, if_false, List.append_assoc, rInts_enc f.l r 300 _ _ (by omega) (by omega) (fun x hx => ⟨h.ok.l x hx, h.ok.l x hx⟩)]
    · simp only [hk, hk1, if_false, List.append_assoc, rText_enc f.s r 300 (by omega) (by omega), strB_str]
/-- reading all fields -/
def rAll : List Fld → RS → RS
  | [], s => s
  | f :: t, s => rAll t (rField s f.wide).2
theorem rAll_enc : ∀ (l : List Fld), (∀ f ∈ l, f.Sm) → ∀ r, rAll l (allE l ++ r, false) = (r, false)
  | [], _, r => by simp [rAll, allE]
  | f :: t, h, r => by
    have e : allE (f :: t) ++ r = f.enc ++ (allE t ++ r) := by rw [show allE (f :: t) = f.enc ++ allE t from rfl, List.append_assoc]
    rw [e]
    simp only [rAll, rField_enc f (h f List.mem_cons_self) (allE t ++ r)]
    exact rAll_enc t (fun g hg => h g (List.mem_cons_of_mem _ hg)) r
end Go.Proofs.YtogfkdpgkloljaaDoorVs
set_option linter.unusedVariables false
set_option linter.unusedSimpArgs false
set_option maxRecDepth 100000
namespace Go.Proofs.YtogfkdpgkloljaaDoorVs
theorem getS_ext {p : List Int} {m : Int} {k : Nat} (h : getS p = some (m, k)) (x : List Int) : getS (p ++ x) = some (m, k) := by
  obtain ⟨h1, h2, h3⟩ := getS_ok h
  have e : p ++ x = enc m ++ (p.drop k ++ x) := by rw [h3, ← List.append_assoc, List.take_append_drop]
  have hl : (enc m).length = k := by rw [h3]; simp; omega
  rw [e, getS_enc m h2, hl]
theorem rInt_ext {p : List Int} {lo hi : Int} (h : (rInt (p, false) lo hi).2.2 = false) (x : List Int) : rInt (p ++ x, false) lo hi = ((rInt (p, false) lo hi).1, ((rInt (p, false) lo hi).2.1 ++ x, false)) := by
  unfold rInt at h ⊢
  simp only [Bool.false_eq_true, if_false] at h ⊢
  cases hg : getS p with
  | none => rw [hg] at h; cases h
  | some q =>
    obtain ⟨m, k⟩ := q
    rw [hg] at h
    have hk := (getS_ok hg).1
    simp only [getS_ext hg x] at h ⊢
    by_cases hc : m < lo ∨ hi < m
    · rw [if_pos hc] at h; cases h
    · rw [if_neg hc, if_neg hc, List.drop_append_of_le_length hk]
theorem rInt_good {s : RS} {lo hi : Int} (h : (rInt s lo hi).2.2 = false) : s.2 = false := by
  unfold rInt at h
  split at h
  · exact h
  · rename_i hs
    simpa using hs
theorem rCount_good {s : RS} {many : Int} (h : (rCount s many).2.2 = false) : (rInt s 0 many).2.2 = false ∧ rCount s many = rInt s 0 many := by
  unfold rCount at h ⊢
  split at h
  · cases h
  · rename_i hc
    rw [if_neg hc]
    exact ⟨h, rfl⟩
theorem rCount_ext {p : List Int} {many : Int} (h : (rCount (p, false) many).2.2 = false) (x : List Int) : rCount (p ++ x, false) many = ((rCount (p, false) many).1, ((rCount (p, false) many).2.1 ++ x, false)) := by
  have hr := rCount_rng (p, false) many h
  obtain ⟨h1, h2⟩ := rCount_good h
  rw [h2] at hr ⊢
  have h3 := rInt_ext h1 x
  unfold rCount
  rw [h3, if_neg]
  simp
  omega
theorem rLoop_good {lo hi : Int} : ∀ {k : Nat} {s : RS}, (rLoop lo hi k s).2.2 = false → s.2 = false
  | 0, s, h => h
  | k + 1, s, h => rInt_good (rLoop_good (k := k) h)
theorem rLoop_ext {lo hi : Int} (x : List Int) : ∀ {k : Nat} {p : List Int}, (rLoop lo hi k (p, false)).2.2 = false → rLoop lo hi k (p ++ x, false) = ((rLoop lo hi k (p, false)).1, ((rLoop lo hi k (p, false)).2.1 ++ x, false))
  | 0, p, h => rfl
  | k + 1, p, h => by
    have h1 : (rInt (p, false) lo hi).2.2 = false := rLoop_good (k := k) h
    have h2 := rInt_ext h1 x
    simp only [rLoop] at h ⊢
    rw [h2]
    generalize rInt (p, false) lo hi = q at *
    obtain ⟨m, b, w⟩ := q
    simp only at h1
    subst h1
    have ih := rLoop_ext x (k := k) (p := b) h
    simp only [ih]
theorem rField_good {s : RS} {f : Fld} (h : (rField s f).2.2 = false) : s.2 = false := by
  unfold rField at h
  split at h
  · exact rInt_good h
  · split at h
    · unfold rInts at h
      split at h
      · rename_i hc; simp only at h; rw [hc] at h; cases h
      · exact rInt_good (rCount_good (rLoop_good h)).1
    · unfold rText at h
      split at h
      · rename_i hc; simp only at h; rw [hc] at h; cases h
      · rename_i hc
        exact rInt_good (rCount_good (by simpa using hc)).1
theorem rField_ext {p : List Int} {f : Fld} (h : (rField (p, false) f).2.2 = false) (x : List Int) : (rField (p ++ x, false) f).2 = ((rField (p, false) f).2.1 ++ x, false) := by
  unfold rField at h ⊢
  by_cases hk : f.k = 0
  · simp only [hk, if_true] at h ⊢
    rw [rInt_ext h x]
  · by_cases hk1 : f.k = 1
    · have h01 : ((1 : Int) = 0) = False := by simp
      simp only [hk1, h01, if_true, if_false] at h ⊢
      unfold rInts at h ⊢
      by_cases hw : (rLoop f.lo f.hi (rCount (p, false) f.many).1.toNat (rCount (p, false) f.many).2).2.2 = true
      · rw [if_pos hw] at h
        simp only at h
        rw [hw] at h
        cases h
      · have hw' : (rLoop f.lo f.hi (rCount (p, false) f.many).1.toNat (rCount (p, false) f.many).2).2.2 = false := by simpa using hw
        have hcg := rLoop_good hw'
        rw [rCount_ext hcg x, if_neg hw]
        generalize rCount (p, false) f.many = q at *
        obtain ⟨n, b, w⟩ := q
        simp only at hcg
        subst hcg
        simp only at hw' ⊢
        rw [rLoop_ext x hw', if_neg (by simp)]
    · simp only [hk, hk1, if_false] at h ⊢
      unfold rText at h ⊢
      by_cases hw : (rCount (p, false) f.many).2.2 = true
      · rw [if_pos hw] at h
        simp only at h
        rw [hw] at h
        cases h
      · have hw' : (rCount (p, false) f.many).2.2 = false := by simpa using hw
        have hr := rCount_rng (p, false) f.many hw'
        rw [rCount_ext hw' x, if_neg hw, if_neg (by simp)]
        simp only
        rw [List.drop_append_of_le_length (by omega)]
theorem rAll_good : ∀ {l : List Fld} {s : RS}, (rAll l s).2 = false → s.2 = false
  | [], s, h => h
  | f :: t, s, h => rField_good (rAll_good (l := t) h)
theorem rAll_ext (x : List Int) : ∀ {l : List Fld} {p : List Int}, (rAll l (p, false)).2 = false → rAll l (p ++ x, false) = ((rAll l (p, false)).1 ++ x, false)
  | [], p, h => rfl
  | f :: t, p, h => by
    have h1 : (rField (p, false) f.wide).2.2 = false := rAll_good (l := t) h
    have h2 := rField_ext h1 x
    simp only [rAll] at h ⊢
    rw [h2]
    generalize rField (p, false) f.wide = q at *
    obtain ⟨m, b, w⟩ := q
    simp only at h1
    subst h1
    exact rAll_ext x (l := t) (p := b) h
/-- a text cut short is wrong in the end -/
theorem rAll_cut (l : List Fld) (h : ∀ f ∈ l, f.Sm) (p x : List Int) (hp : p ++ x = allE l) (hx : x ≠ []) : (rAll l (p, false)).2 = true := by
  cases hw : (rAll l (p, false)).2 with
  | true => rfl
  | false =>
    have h1 := rAll_ext x hw
    have h2 := rAll_enc l h []
    rw [List.append_nil] at h2
    rw [hp, h2] at h1
    have h3 := (Prod.mk.inj h1).1
    exact absurd (List.append_eq_nil_iff.1 h3.symm).2 hx
end Go.Proofs.YtogfkdpgkloljaaDoorVs
set_option linter.unusedVariables false
set_option linter.unusedSimpArgs false
set_option maxRecDepth 100000
namespace Go.Proofs.YtogfkdpgkloljaaDoorVs
theorem rLoop_ok {lo hi : Int} : ∀ {k : Nat} {s : RS}, RsOK s → RsOK (rLoop lo hi k s).2 ∧ (rLoop lo hi k s).2.1.length ≤ s.1.length
  | 0, s, h => ⟨h, Nat.le_refl _⟩
  | k + 1, s, h => by
    obtain ⟨h1, h2⟩ := rLoop_ok (lo := lo) (hi := hi) (k := k) (h.int lo hi)
    exact ⟨h1, Nat.le_trans h2 (rInt_len s lo hi)⟩
theorem rField_ok {s : RS} {f : Fld} (h : RsOK s) : RsOK (rField s f).2 ∧ (rField s f).2.1.length ≤ s.1.length := by
  unfold rField
  split
  · exact ⟨h.int _ _, rInt_len _ _ _⟩
  · split
    · have h1 := rLoop_ok (lo := f.lo) (hi := f.hi) (k := (rCount s f.many).1.toNat) (h.count f.many)
      have h2 := rCount_len s f.many
      unfold rInts
      split
      · exact ⟨h1.1, Nat.le_trans h1.2 h2⟩
      · exact ⟨h1.1, Nat.le_trans h1.2 h2⟩
    · have h1 := h.count f.many
      have h2 := rCount_len s f.many
      unfold rText
      split
      · exact ⟨h1, h2⟩
      · refine ⟨⟨?_, ?_⟩, ?_⟩
        · have := h1.len
          simp
          omega
        · exact fun x hx => h1.byt x (List.mem_of_mem_drop hx)
        · simp
          omega
theorem Fld.enc_byt (f : Fld) : ∀ x ∈ f.enc, 0 ≤ x ∧ x < 256 := by
  have h1 : ∀ x ∈ encs f.l, 0 ≤ x ∧ x < 256 := by
    intro x hx
    unfold encs at hx
    simp only [List.mem_flatten, List.mem_map] at hx
    obtain ⟨_, ⟨a, _, rfl⟩, hx⟩ := hx
    exact enc_bytes a x hx
  have h2 : ∀ x ∈ strB f.s, 0 ≤ x ∧ x < 256 := by
    intro x hx
    unfold strB at hx
    simp only [List.mem_map] at hx
    obtain ⟨b, _, rfl⟩ := hx
    have := b.toNat_lt
    omega
  intro x hx
  unfold Fld.enc at hx
  split at hx
  · exact enc_bytes _ x hx
  · split at hx
    · rcases List.mem_append.1 hx with hx | hx
      · exact enc_bytes _ x hx
      · exact h1 x hx
    · rcases List.mem_append.1 hx with hx | hx
      · exact enc_bytes _ x hx
      · exact h2 x hx
theorem allE_byt (l : List Fld) : ∀ x ∈ allE l, 0 ≤ x ∧ x < 256 := by
  intro x hx
  unfold allE at hx
  simp only [List.mem_flatten, List.mem_map] at hx
  obtain ⟨_, ⟨f, _, rfl⟩, hx⟩ := hx
  exact f.enc_byt x hx
theorem allE_len : ∀ (l : List Fld), (∀ f ∈ l, f.Sm) → (allE l).length ≤ 1000 * l.length
  | [], _ => by simp [allE]
  | f :: t, h => by
    have h1 := allE_len t (fun g hg => h g (List.mem_cons_of_mem _ hg))
    have h2 := (h f List.mem_cons_self).enc_len
    rw [show allE (f :: t) = f.enc ++ allE t from rfl]
    simp
    omega
end Go.Proofs.YtogfkdpgkloljaaDoorVs
set_option linter.unusedVariables false
set_option linter.unusedSimpArgs false
set_option maxRecDepth 100000
namespace Go.Proofs.YtogfkdpgkloljaaDoorVs
theorem Fld.vs_eq (f : Fld) : f.vs = [.int .u8 f.k, .int .i64 f.n, i64s f.l, .str f.s, .int .i64 f.many, .int .i64 f.lo, .int .i64 f.hi] := rfl
theorem s4_step (n : Nat) (l : List Fld) (hs : ∀ f ∈ l, f.Sm) (hl : l.length ≤ 20) (i : Nat) (hi : i < l.length) (s : RS) (hS : RsOK s) (hS2 : s.1.length ≤ 1000000) :
    F4_0_b1 (Fix T) n (flds l) (.bool true) (.bool true) [.unit, .bool false, u8s (allE (l.drop i)), .unit, .bool s.2, u8s s.1, .bool false, .int .i64 i] =
      some (.norm [2, 1, 2, 1, 1, 1] [.unit, .bool false, u8s (allE (l.drop (i + 1))), .unit, .bool (rField s l[i].wide).2.2, u8s (rField s l[i].wide).2.1, .bool false, .int .i64 ((i + 1 : Nat) : Int)]) := by
  have b1 : ((i : Int) < l.length) = True := eq_true (by omega)
  have ea : (l.map fun f => V.agg f.vs)[i]? = some (.agg l[i].vs) := by simp [hi]
  have hda : l.drop i = l[i] :: l.drop (i + 1) := List.drop_eq_getElem_cons hi
  have hf := hs l[i] (List.getElem_mem hi)
  have hal := allE_len (l.drop i) (fun f h => hs f (List.mem_of_mem_drop h))
  have hab := allE_byt (l.drop i)
  have hlen : (l.drop i).length ≤ 20 := by simp; omega
  have e0 : allE (l.drop i) = l[i].enc ++ allE (l.drop (i + 1)) := by rw [hda]; rfl
  have hA : RsOK (allE (l.drop i), false) := ⟨by simp only; omega, hab⟩
  have r1 := s20 (allE (l.drop i), false) l[i].wide hA (by simp only; omega)
  have r2 := s20 s l[i].wide hS hS2
  have hg := rField_enc l[i] hf (allE (l.drop (i + 1)))
  rw [← e0] at hg
  rw [hg] at r1
  have ws := w_succ (show i < 4611686018427387904 by omega)
  generalize hq : rField s l[i].wide = q at *
  obtain ⟨g, b, w⟩ := q
  obtain ⟨sb, sw⟩ := s
  have hi21 := s21 l[i].l l[i].l (by have := hf.l; omega)
  generalize l[i] = f at *
  simp only [rsV, Fld.vs_eq, Fld.wide] at r1 r2
  unfold i64s u8s at *
  by_cases hk : f.k = 0
  · have bk := eq_true hk
    have hgot : f.got = ⟨f.k, f.n, [], ⟨#[]⟩, 0, 0, 0⟩ := by unfold Fld.got; rw [if_pos hk]
    rw [hgot] at r1
    simp only at r1
    simp only [F4_0_b1, flds, b1, ea, o_ldi7, r1, r2, bk, ws, i64s, u8s, List.length_map, o_add, o_sub, o_mul, o_quo, o_rem, o_and, o_or, o_eql, o_neq, o_lss, o_leq, o_gtr, o_geq, o_shl, o_shr, o_seql, o_sneq, o_beql, o_bneq, o_ieql, o_ineq, o_neql, o_nneq, o_not, o_neg, o_notv, o_pickT, o_pickF, o_pick, o_conv, o_len, o_lens, o_idxN, o_eix, o_ldiI, o_ldiI0, o_slcL, o_slcH, o_app, o_mk1, o_ifc, o_str, o_byt, c_int, c_bool, c_str, c_list, c_agg, c_iface, c_nilI, c_unit2, c_unit, c_true, i_te, g_T, g_F, g_u, b_norm, b_exitN, b_exitI, Nat.one_ne_zero, Nat.zero_ne_one, Nat.reduceEqDiff, b_ret, b_none, b_ite, a_0, a_1, a_2, a_3, a_4, a_5, a_6, a_7, a_8, a_9, a_10, a_11, a_12, a_13, a_14, a_15, a_16, a_17, a_18, a_19, a_20, a_21, a_22, a_23, a_24, f_c0, f_c1, f_c2, f_c3, f_c4, f_c5, f_c6, f_c7, f_c8, f_c9, f_c10, f_c11, f_c12, f_c13, f_c14, f_c15, f_c16, p_nil, p_cons, pk_of, Option.bind_some, Option.bind_none, List.getElem?_cons_zero, List.getElem?_cons_succ, decide_eq_true_eq, if_true, if_false, Bool.not_eq_true', Bool.false_eq_true, Bool.true_eq_false, reduceCtorEq, ne_eq, not_false_eq_true, not_true_eq_false, decide_true, decide_false, Int.toNat_natCast, Int.natCast_zero, Bool.not_true, Bool.not_false]
  · have bk := eq_false hk
    by_cases hk1 : f.k = 1
    · have bk1 := eq_true hk1
      have hgot : f.got = ⟨f.k, 0, f.l, ⟨#[]⟩, 0, 0, 0⟩ := by unfold Fld.got; rw [if_neg hk, if_pos hk1]
      rw [hgot] at r1
      simp only at r1
      simp only [F4_0_b1, flds, b1, ea, o_ldi7, r1, r2, bk, bk1, ws, i64s, u8s, hi21, List.length_map, o_add, o_sub, o_mul, o_quo, o_rem, o_and, o_or, o_eql, o_neq, o_lss, o_leq, o_gtr, o_geq, o_shl, o_shr, o_seql, o_sneq, o_beql, o_bneq, o_ieql, o_ineq, o_neql, o_nneq, o_not, o_neg, o_notv, o_pickT, o_pickF, o_pick, o_conv, o_len, o_lens, o_idxN, o_eix, o_ldiI, o_ldiI0, o_slcL, o_slcH, o_app, o_mk1, o_ifc, o_str, o_byt, c_int, c_bool, c_str, c_list, c_agg, c_iface, c_nilI, c_unit2, c_unit, c_true, i_te, g_T, g_F, g_u, b_norm, b_exitN, b_exitI, Nat.one_ne_zero, Nat.zero_ne_one, Nat.reduceEqDiff, b_ret, b_none, b_ite, a_0, a_1, a_2, a_3, a_4, a_5, a_6, a_7, a_8, a_9, a_10, a_11, a_12, a_13, a_14, a_15, a_16, a_17, a_18, a_19, a_20, a_21, a_22, a_23, a_24, f_c0, f_c1, f_c2, f_c3, f_c4, f_c5, f_c6, f_c7, f_c8, f_c9, f_c10, f_c11, f_c12, f_c13, f_c14, f_c15, f_c16, p_nil, p_cons, pk_of, Option.bind_some, Option.bind_none, List.getElem?_cons_zero, List.getElem?_cons_succ, decide_eq_true_eq, if_true, if_false, Bool.not_eq_true', Bool.false_eq_true, Bool.true_eq_false, reduceCtorEq, ne_eq, not_false_eq_true, not_true_eq_false, decide_true, decide_false, Int.toNat_natCast, Int.natCast_zero, Bool.not_true, Bool.not_false]
    · have bk1 := eq_false hk1
      have hgot : f.got = ⟨f.k, 0, [], f.s, 0, 0, 0⟩ := by unfold Fld.got; rw [if_neg hk, if_neg hk1]
      rw [hgot] at r1
      simp only at r1
      simp only [F4_0_b1, flds, b1, ea, o_ldi7, r1, r2, bk, bk1, ws, i64s, u8s, beq_self_eq_true, Bool.not_true, List.length_map, o_add, o_sub, o_mul, o_quo, o_rem, o_and, o_or, o_eql, o_neq, o_lss, o_leq, o_gtr, o_geq, o_shl, o_shr, o_seql, o_sneq, o_beql, o_bneq, o_ieql, o_ineq, o_neql, o_nneq, o_not, o_neg, o_notv, o_pickT, o_pickF, o_pick, o_conv, o_len, o_lens, o_idxN, o_eix, o_ldiI, o_ldiI0, o_slcL, o_slcH, o_app, o_mk1, o_ifc, o_str, o_byt, c_int, c_bool, c_str, c_list, c_agg, c_iface, c_nilI, c_unit2, c_unit, c_true, i_te, g_T, g_F, g_u, b_norm, b_exitN, b_exitI, Nat.one_ne_zero, Nat.zero_ne_one, Nat.reduceEqDiff, b_ret, b_none, b_ite, a_0, a_1, a_2, a_3, a_4, a_5, a_6, a_7, a_8, a_9, a_10, a_11, a_12, a_13, a_14, a_15, a_16, a_17, a_18, a_19, a_20, a_21, a_22, a_23, a_24, f_c0, f_c1, f_c2, f_c3, f_c4, f_c5, f_c6, f_c7, f_c8, f_c9, f_c10, f_c11, f_c12, f_c13, f_c14, f_c15, f_c16, p_nil, p_cons, pk_of, Option.bind_some, Option.bind_none, List.getElem?_cons_zero, List.getElem?_cons_succ, decide_eq_true_eq, if_true, if_false, Bool.not_eq_true', Bool.false_eq_true, Bool.true_eq_false, reduceCtorEq, ne_eq, not_false_eq_true, not_true_eq_false, decide_true, decide_false, Int.toNat_natCast, Int.natCast_zero, Bool.not_true, Bool.not_false]
end Go.Proofs.YtogfkdpgkloljaaDoorVs
set_option linter.unusedVariables false
set_option linter.unusedSimpArgs false
set_option maxRecDepth 100000
namespace Go.Proofs.YtogfkdpgkloljaaDoorVs
theorem s4_read (n : Nat) (l : List Fld) (hs : ∀ f ∈ l, f.Sm) (hl : l.length ≤ 20) : ∀ (d i fuel : Nat) (s : RS), l.length - i = d → i ≤ l.length → d < fuel → RsOK s → s.1.length ≤ 1000000 →
    lpV [2, 1, 2, 1, 1, 1] (F4_0_b1 (Fix T) n (flds l) (.bool true) (.bool true)) fuel [.unit, .bool false, u8s (allE (l.drop i)), .unit, .bool s.2, u8s s.1, .bool false, .int .i64 i] =
      some (.exit 2 [1, 1, 2, 1, 2, 1] [.bool false, .int .i64 l.length, .unit, .bool false, u8s [], .unit, .bool (rAll (l.drop i) s).2, u8s (rAll (l.drop i) s).1]) := by
  intro d
  induction d with
  | zero =>
    intro i fuel s hd hi hf hS hS2
    obtain ⟨fuel, rfl⟩ : ∃ m, fuel = m + 1 := ⟨fuel - 1, by omega⟩
    obtain rfl : i = l.length := by omega
    have b1 : ((l.length : Int) < l.length) = False := eq_false (by omega)
    have hz : l.drop l.length = [] := List.drop_length
    rw [hz]
    rw [lp_exit (j := 2) (l' := [1, 1, 2, 1, 2, 1]) (vs' := [.bool false, .int .i64 l.length, .unit, .bool false, u8s (allE []), .unit, .bool s.2, u8s s.1]) (by simp only [F4_0_b1, flds, u8s, b1, List.length_map, o_add, o_sub, o_mul, o_quo, o_rem, o_and, o_or, o_eql, o_neq, o_lss, o_leq, o_gtr, o_geq, o_shl, o_shr, o_seql, o_sneq, o_beql, o_bneq, o_ieql, o_ineq, o_neql, o_nneq, o_not, o_neg, o_notv, o_pickT, o_pickF, o_pick, o_conv, o_len, o_lens, o_idxN, o_eix, o_ldiI, o_ldiI0, o_slcL, o_slcH, o_app, o_mk1, o_ifc, o_str, o_byt, c_int, c_bool, c_str, c_list, c_agg, c_iface, c_nilI, c_unit2, c_unit, c_true, i_te, g_T, g_F, g_u, b_norm, b_exitN, b_exitI, Nat.one_ne_zero, Nat.zero_ne_one, Nat.reduceEqDiff, b_ret, b_none, b_ite, a_0, a_1, a_2, a_3, a_4, a_5, a_6, a_7, a_8, a_9, a_10, a_11, a_12, a_13, a_14, a_15, a_16, a_17, a_18, a_19, a_20, a_21, a_22, a_23, a_24, f_c0, f_c1, f_c2, f_c3, f_c4, f_c5, f_c6, f_c7, f_c8, f_c9, f_c10, f_c11, f_c12, f_c13, f_c14, f_c15, f_c16, p_nil, p_cons, pk_of, Option.bind_some, Option.bind_none, List.getElem?_cons_zero, List.getElem?_cons_succ, decide_eq_true_eq, if_true, if_false, Bool.not_eq_true', Bool.false_eq_true, Bool.true_eq_false, reduceCtorEq, ne_eq, not_false_eq_true, not_true_eq_false, decide_true, decide_false, Int.toNat_natCast, Int.natCast_zero, Bool.not_true, Bool.not_false])]
    rfl
  | succ d ih =>
    intro i fuel s hd hi hf hS hS2
    obtain ⟨fuel, rfl⟩ : ∃ m, fuel = m + 1 := ⟨fuel - 1, by omega⟩
    have hlt : i < l.length := by omega
    have hda : l.drop i = l[i] :: l.drop (i + 1) := List.drop_eq_getElem_cons hlt
    rw [lp_norm (s4_step n l hs hl i hlt s hS hS2)]
    obtain ⟨h1, h2⟩ := rField_ok (f := l[i].wide) hS
    rw [ih (i + 1) fuel _ (by omega) (by omega) (by omega) h1 (by omega)]
    rw [hda]
    simp only [rAll]
theorem gr_sm {l : List Fld} (h : gr l = false) (hok : ∀ f ∈ l, f.OK) : l.length ≤ 20 ∧ ∀ f ∈ l, f.Sm := by
  unfold gr at h
  simp only [Bool.or_eq_false_iff, decide_eq_false_iff_not] at h
  obtain ⟨h1, h2⟩ := h
  have hl : l.length ≤ 20 := by omega
  rw [List.take_of_length_le hl] at h1
  refine ⟨hl, fun f hf => ?_⟩
  have h3 := List.any_eq_false.1 h1 f hf
  simp only [bad, Bool.or_eq_true, decide_eq_true_eq] at h3
  exact ⟨hok f hf, by omega, by omega⟩
end Go.Proofs.YtogfkdpgkloljaaDoorVs
set_option linter.unusedVariables false
set_option linter.unusedSimpArgs false
set_option maxRecDepth 100000
namespace Go.Proofs.YtogfkdpgkloljaaDoorVs
theorem o_mxN {Φ : Funs} {a b : Int} {f : V → TR} : op1V Φ .mx [[.int .i64 a], [.int .i64 b]] f = f (.int .i64 (max a b)) := by
  have e : (if a < b then b else a) = max a b := by rw [Int.max_def]; split <;> split <;> omega
  rw [← e]
  rfl
theorem o_slcN {Φ : Funs} {e : TypeId} {xs : List V} {c : Nat} {f : V → TR} (h : (c : Int) ≤ xs.length) : op1V Φ (.slc e false true) [[.list e xs], [.int .i64 (c : Int)]] f = f (.list e (xs.take c)) := by
  rw [o_slcH, if_pos ⟨by omega, h⟩, Int.toNat_natCast]
theorem PackBack_ok (l : List Fld) (cut : Int) (hok : ∀ f ∈ l, f.OK) (hl : l.length < 2 ^ 62) (hc : 0 ≤ cut ∧ cut < 65536) : Fix T 4 0 [[flds l], [.int .u16 cut]] = some [[.bool true]] := by
  have h14 := s14 l hl
  cases hg : gr l with
  | true =>
    rw [hg] at h14
    refine e4_0 0 ?_
    unfold flds at *
    simp only [F4_0, h14, sure_holds, o_add, o_sub, o_mul, o_quo, o_rem, o_and, o_or, o_eql, o_neq, o_lss, o_leq, o_gtr, o_geq, o_shl, o_shr, o_seql, o_sneq, o_beql, o_bneq, o_ieql, o_ineq, o_neql, o_nneq, o_not, o_neg, o_notv, o_pickT, o_pickF, o_pick, o_conv, o_len, o_lens, o_idxN, o_eix, o_ldiI, o_ldiI0, o_slcL, o_slcH, o_app, o_mk1, o_ifc, o_str, o_byt, c_int, c_bool, c_str, c_list, c_agg, c_iface, c_nilI, c_unit2, c_unit, c_true, i_te, g_T, g_F, g_u, b_norm, b_exitN, b_exitI, Nat.one_ne_zero, Nat.zero_ne_one, Nat.reduceEqDiff, b_ret, b_none, b_ite, a_0, a_1, a_2, a_3, a_4, a_5, a_6, a_7, a_8, a_9, a_10, a_11, a_12, a_13, a_14, a_15, a_16, a_17, a_18, a_19, a_20, a_21, a_22, a_23, a_24, f_c0, f_c1, f_c2, f_c3, f_c4, f_c5, f_c6, f_c7, f_c8, f_c9, f_c10, f_c11, f_c12, f_c13, f_c14, f_c15, f_c16, p_nil, p_cons, pk_of, Option.bind_some, Option.bind_none, List.getElem?_cons_zero, List.getElem?_cons_succ, decide_eq_true_eq, if_true, if_false, Bool.not_eq_true', Bool.false_eq_true, Bool.true_eq_false, reduceCtorEq, ne_eq, not_false_eq_true, not_true_eq_false, decide_true, decide_false, Int.toNat_natCast, Int.natCast_zero, Bool.not_true, Bool.not_false]
  | false =>
    rw [hg] at h14
    obtain ⟨hl20, hs⟩ := gr_sm hg hok
    refine e4_0 21 ?_
    have hlen := allE_len l hs
    have hbyt := allE_byt l
    have hw : lpV [1, 1, 1] (F4_0_b0 (Fix T) 21 (flds l)) 21 [.unit, u8s [], .int .i64 0] = _ := s4_write 21 l hs hl20 l.length 0 21 [] (by omega) (by omega) (by omega) (by simp)
    rw [List.drop_zero, List.nil_append] at hw
    have h8 := s8 (allE l) (by omega)
    have h16 := s16 (allE l) (by omega)
    have wc : IntKind.i64.wrap cut = cut := w_i64 (by omega)
    obtain ⟨c, hcut⟩ : ∃ c : Nat, Int.tmod cut (max 1 ((allE l).length : Int)) = c ∧ c ≤ (allE l).length ∧ (allE l ≠ [] → c < (allE l).length) := by
      have hm : 0 < max 1 ((allE l).length : Int) := by omega
      rw [Int.tmod_eq_emod_of_nonneg hc.1]
      have h1 := Int.emod_nonneg cut (Int.ne_of_gt hm)
      have h2 := Int.emod_lt_of_pos cut hm
      refine ⟨(cut % max 1 ((allE l).length : Int)).toNat, by omega, by omega, fun hne => ?_⟩
      have : 0 < (allE l).length := List.length_pos_iff.2 hne
      omega
    obtain ⟨hcut, hc1, hc2⟩ := hcut
    have hm0 : ¬ (max 1 ((allE l).length : Int) = 0) := by omega
    have hcr : (0 : Int) ≤ (c : Int) ∧ (c : Int) ≤ (allE l).length := by omega
    have hcr2 := hcr.2
    have hcr1 := hcr.1
    have et : ((allE l).map (V.int .u8)).take c = ((allE l).take c).map (V.int .u8) := by simp
    have h16b := s16 ((allE l).take c) (by simp; omega)
    have hR : lpV [2, 1, 2, 1, 1, 1] (F4_0_b1 (Fix T) 21 (flds l) (.bool true) (.bool true)) 21 [.unit, .bool false, u8s (allE (l.drop 0)), .unit, .bool false, u8s ((allE l).take c), .bool false, .int .i64 0] = _ :=
      s4_read 21 l hs hl20 l.length 0 21 ((allE l).take c, false) (by omega) (by omega) (by omega) ⟨by simp; omega, fun x hx => hbyt x (List.mem_of_mem_take hx)⟩ (by simp; omega)
    rw [List.drop_zero] at hR
    have h13 := s13 ([], false)
    have h13s := s13 (rAll l ((allE l).take c, false))
    have h12 := s12 2
    have hsure := sure_holds
    have d1 : doneV ([], false) = .nilI := by simp [doneV]
    rw [d1] at h13
    by_cases hne : allE l = []
    · have bl : (((allE l).length : Int) = 0) = True := eq_true (by rw [hne]; rfl)
      have d2 : True := trivial
      generalize rAll l ((allE l).take c, false) = q at *
      obtain ⟨b, w⟩ := q
      simp only [rsV] at h13 h13s
      unfold flds u8s at *
      simp only [List.map_nil] at *
      simp only [F4_0, h14, hw, h8, h16, h16b, wc, o_mxN, hcut, hm0, hcr1, hcr2, et, hR, h13, h13s, h12, hsure, bl, o_slcN, List.length_map, and_self, o_add, o_sub, o_mul, o_quo, o_rem, o_and, o_or, o_eql, o_neq, o_lss, o_leq, o_gtr, o_geq, o_shl, o_shr, o_seql, o_sneq, o_beql, o_bneq, o_ieql, o_ineq, o_neql, o_nneq, o_not, o_neg, o_notv, o_pickT, o_pickF, o_pick, o_conv, o_len, o_lens, o_idxN, o_eix, o_ldiI, o_ldiI0, o_slcL, o_slcH, o_app, o_mk1, o_ifc, o_str, o_byt, c_int, c_bool, c_str, c_list, c_agg, c_iface, c_nilI, c_unit2, c_unit, c_true, i_te, g_T, g_F, g_u, b_norm, b_exitN, b_exitI, Nat.one_ne_zero, Nat.zero_ne_one, Nat.reduceEqDiff, b_ret, b_none, b_ite, a_0, a_1, a_2, a_3, a_4, a_5, a_6, a_7, a_8, a_9, a_10, a_11, a_12, a_13, a_14, a_15, a_16, a_17, a_18, a_19, a_20, a_21, a_22, a_23, a_24, f_c0, f_c1, f_c2, f_c3, f_c4, f_c5, f_c6, f_c7, f_c8, f_c9, f_c10, f_c11, f_c12, f_c13, f_c14, f_c15, f_c16, p_nil, p_cons, pk_of, Option.bind_some, Option.bind_none, List.getElem?_cons_zero, List.getElem?_cons_succ, decide_eq_true_eq, if_true, if_false, Bool.not_eq_true', Bool.false_eq_true, Bool.true_eq_false, reduceCtorEq, ne_eq, not_false_eq_true, not_true_eq_false, decide_true, decide_false, Int.toNat_natCast, Int.natCast_zero, Bool.not_true, Bool.not_false]
    · have bl : (((allE l).length : Int) = 0) = False := eq_false (by have := List.length_pos_iff.2 hne; omega)
      have hcut2 := rAll_cut l hs ((allE l).take c) ((allE l).drop c) (List.take_append_drop _ _) (by
        intro e
        have := congrArg List.length e
        simp at this
        have := hc2 hne
        omega)
      have d2 : doneV (rAll l ((allE l).take c, false)) = .iface 62 (.int .i64 2) := by unfold doneV; rw [if_pos (.inl hcut2)]
      rw [d2] at h13s
      generalize rAll l ((allE l).take c, false) = q at *
      obtain ⟨b, w⟩ := q
      simp only [rsV] at h13 h13s
      unfold flds u8s at *
      simp only [List.map_nil] at *
      simp only [F4_0, h14, hw, h8, h16, h16b, wc, o_mxN, hcut, hm0, hcr1, hcr2, et, hR, h13, h13s, h12, hsure, bl, o_slcN, List.length_map, and_self, o_add, o_sub, o_mul, o_quo, o_rem, o_and, o_or, o_eql, o_neq, o_lss, o_leq, o_gtr, o_geq, o_shl, o_shr, o_seql, o_sneq, o_beql, o_bneq, o_ieql, o_ineq, o_neql, o_nneq, o_not, o_neg, o_notv, o_pickT, o_pickF, o_pick, o_conv, o_len, o_lens, o_idxN, o_eix, o_ldiI, o_ldiI0, o_slcL, o_slcH, o_app, o_mk1, o_ifc, o_str, o_byt, c_int, c_bool, c_str, c_list, c_agg, c_iface, c_nilI, c_unit2, c_unit, c_true, i_te, g_T, g_F, g_u, b_norm, b_exitN, b_exitI, Nat.one_ne_zero, Nat.zero_ne_one, Nat.reduceEqDiff, b_ret, b_none, b_ite, a_0, a_1, a_2, a_3, a_4, a_5, a_6, a_7, a_8, a_9, a_10, a_11, a_12, a_13, a_14, a_15, a_16, a_17, a_18, a_19, a_20, a_21, a_22, a_23, a_24, f_c0, f_c1, f_c2, f_c3, f_c4, f_c5, f_c6, f_c7, f_c8, f_c9, f_c10, f_c11, f_c12, f_c13, f_c14, f_c15, f_c16, p_nil, p_cons, pk_of, Option.bind_some, Option.bind_none, List.getElem?_cons_zero, List.getElem?_cons_succ, decide_eq_true_eq, if_true, if_false, Bool.not_eq_true', Bool.false_eq_true, Bool.true_eq_false, reduceCtorEq, ne_eq, not_false_eq_true, not_true_eq_false, decide_true, decide_false, Int.toNat_natCast, Int.natCast_zero, Bool.not_true, Bool.not_false]
end Go.Proofs.YtogfkdpgkloljaaDoorVs
set_option linter.unusedVariables false
set_option linter.unusedSimpArgs false
set_option maxRecDepth 100000
namespace Go.Proofs.YtogfkdpgkloljaaDoorVs
open Go.RowKit (wrap64)
theorem o_slcN1 {Φ : Funs} {e : TypeId} {xs : List V} {c : Nat} {f : V → TR} (h : c ≤ xs.length) : op1V Φ (.slc e true false) [[.list e xs], [.int .i64 (c : Int)]] f = f (.list e (xs.drop c)) := by
  rw [o_slcL, if_pos ⟨by omega, by omega⟩, Int.toNat_natCast]
theorem shl_u64 (c : Int) (s : Nat) (hs : s ≤ 63) : IntKind.u64.wrap (c * 2 ^ min s IntKind.u64.bits) = (c * 2 ^ s) % 18446744073709551616 := by
  have h : IntKind.u64.bits = 64 := rfl
  rw [h, Nat.min_eq_left (show s ≤ 64 by omega), u64_wrap]
theorem wrapi (x : Int) : IntKind.i64.wrap x = wrap64 x := by rw [IntKind.wrap_i64]; unfold wrap64; omega
def stR (i : Nat) (b : Int) : List V := [.int .u64 b, .int .i64 0, .int .i64 0, .int .i64 0, .int .i64 i]
theorem ref_get_rnd (n : Nat) (l : List Int) (i : Nat) (a b : Int) (hl : l.length ≤ 140737488351232) (hb : ∀ x ∈ l, 0 ≤ x ∧ x < 256) (ha : i ≤ 9 → 0 ≤ a ∧ a < 2 ^ (7 * i) ∧ b = a) (hi10 : i ≤ 10) :
    F38_0_b0 (Fix T) n (u8s l) (stR i b) = match l.drop i with
      | [] => some (.exit 0 [1, 1, 1, 1, 1] [.int .i64 0, .int .i64 0, .int .i64 0, .int .u64 b, .int .i64 i])
      | c :: r => if 10 ≤ i then some (.exit 0 [1, 1, 1, 1, 1] [.int .i64 0, .int .i64 0, .int .i64 0, .int .u64 b, .int .i64 i])
          else if c < 128 then (if enc (valOf a c i) = l.take (i + 1) then some (.ret [[.int .i64 (valOf a c i)], [.int .i64 ((i + 1 : Nat) : Int)], [.int .i64 0]]) else some (.ret [[.int .i64 0], [.int .i64 0], [.int .i64 2]]))
          else some (.norm [1, 1, 1, 1, 1] (stR (i + 1) ((a + (c % 128) * 2 ^ (7 * i)) % 18446744073709551616))) := by
  have hw : IntKind.i64.wrap ((i : Int) + 1) = ((i + 1 : Nat) : Int) := w_succ (by omega)
  cases hd : l.drop i with
  | nil =>
    have hle : l.length ≤ i := by
      have := congrArg List.length hd
      simp at this; omega
    have h1 : ((i : Int) < l.length) = False := eq_false (by omega)
    simp only [F38_0_b0, stR, u8s, h1, List.length_map, o_add, o_sub, o_mul, o_quo, o_rem, o_and, o_or, o_eql, o_neq, o_lss, o_leq, o_gtr, o_geq, o_shl, o_shr, o_seql, o_sneq, o_beql, o_bneq, o_ieql, o_ineq, o_neql, o_nneq, o_not, o_neg, o_notv, o_pickT, o_pickF, o_pick, o_conv, o_len, o_lens, o_idxN, o_eix, o_ldiI, o_ldiI0, o_slcL, o_slcH, o_app, o_mk1, o_ifc, o_str, o_byt, c_int, c_bool, c_str, c_list, c_agg, c_iface, c_nilI, c_unit2, c_unit, c_true, i_te, g_T, g_F, g_u, b_norm, b_exitN, b_exitI, Nat.one_ne_zero, Nat.zero_ne_one, Nat.reduceEqDiff, b_ret, b_none, b_ite, a_0, a_1, a_2, a_3, a_4, a_5, a_6, a_7, a_8, a_9, a_10, a_11, a_12, a_13, a_14, a_15, a_16, a_17, a_18, a_19, a_20, a_21, a_22, a_23, a_24, f_c0, f_c1, f_c2, f_c3, f_c4, f_c5, f_c6, f_c7, f_c8, f_c9, f_c10, f_c11, f_c12, f_c13, f_c14, f_c15, f_c16, p_nil, p_cons, pk_of, Option.bind_some, Option.bind_none, List.getElem?_cons_zero, List.getElem?_cons_succ, decide_eq_true_eq, if_true, if_false, Bool.not_eq_true', Bool.false_eq_true, Bool.true_eq_false, reduceCtorEq, ne_eq, not_false_eq_true, not_true_eq_false, decide_true, decide_false, Int.toNat_natCast, Int.natCast_zero, Bool.not_true, Bool.not_false]
  | cons c r =>
    have hlt : i < l.length := by
      rcases Nat.lt_or_ge i l.length with h | h
      · exact h
      · rw [List.drop_of_length_le h] at hd; cases hd
    have hc : l[i] = c := by
      have := List.drop_eq_getElem_cons hlt
      rw [this] at hd
      exact (List.cons.inj hd).1
    have h1 : ((i : Int) < l.length) = True := eq_true (by omega)
    have ea : (l.map (V.int .u8))[i]? = some (.int .u8 c) := by simp [hlt, hc]
    have hcb := hb c (by rw [← hc]; exact List.getElem_mem hlt)
    by_cases h10 : 10 ≤ i
    · have h2 : ((i : Int) < 10) = False := eq_false (by omega)
      simp only [F38_0_b0, stR, u8s, h1, h2, ea, h10, List.length_map, o_add, o_sub, o_mul, o_quo, o_rem, o_and, o_or, o_eql, o_neq, o_lss, o_leq, o_gtr, o_geq, o_shl, o_shr, o_seql, o_sneq, o_beql, o_bneq, o_ieql, o_ineq, o_neql, o_nneq, o_not, o_neg, o_notv, o_pickT, o_pickF, o_pick, o_conv, o_len, o_lens, o_idxN, o_eix, o_ldiI, o_ldiI0, o_slcL, o_slcH, o_app, o_mk1, o_ifc, o_str, o_byt, c_int, c_bool, c_str, c_list, c_agg, c_iface, c_nilI, c_unit2, c_unit, c_true, i_te, g_T, g_F, g_u, b_norm, b_exitN, b_exitI, Nat.one_ne_zero, Nat.zero_ne_one, Nat.reduceEqDiff, b_ret, b_none, b_ite, a_0, a_1, a_2, a_3, a_4, a_5, a_6, a_7, a_8, a_9, a_10, a_11, a_12, a_13, a_14, a_15, a_16, a_17, a_18, a_19, a_20, a_21, a_22, a_23, a_24, f_c0, f_c1, f_c2, f_c3, f_c4, f_c5, f_c6, f_c7, f_c8, f_c9, f_c10, f_c11, f_c12, f_c13, f_c14, f_c15, f_c16, p_nil, p_cons, pk_of, Option.bind_some, Option.bind_none, List.getElem?_cons_zero, List.getElem?_cons_succ, decide_eq_true_eq, if_true, if_false, Bool.not_eq_true', Bool.false_eq_true, Bool.true_eq_false, reduceCtorEq, ne_eq, not_false_eq_true, not_true_eq_false, decide_true, decide_false, Int.toNat_natCast, Int.natCast_zero, Bool.not_true, Bool.not_false]
    · have h2 : ((i : Int) < 10) = True := eq_true (by omega)
      obtain ⟨ha0, ha1, rfl⟩ := ha (by omega)
      have h0 : ((128 : Int) = 0) = False := by simp
      have hm : Int.tmod c 128 = c % 128 := Int.tmod_eq_emod_of_nonneg hcb.1
      have hcv : IntKind.u64.wrap (c % 128) = c % 128 := by rw [u64_wrap]; omega
      have h7 : IntKind.i64.wrap (7 * (i : Int)) = ((7 * i : Nat) : Int) := by rw [w_i64 (by omega)]; omega
      have h7u : IntKind.u64.wrap ((7 * i : Nat) : Int) = ((7 * i : Nat) : Int) := by rw [u64_wrap]; omega
      have hneg : (((7 * i : Nat) : Int) < 0) = False := eq_false (by omega)
      have hsh := shl_u64 (c % 128) (7 * i) (by omega)
      have hadd : IntKind.u64.wrap (b + c % 128 * 2 ^ (7 * i) % 18446744073709551616) = (b + (c % 128) * 2 ^ (7 * i)) % 18446744073709551616 := by rw [u64_wrap]; omega
      by_cases hc128 : c < 128
      · have e0 : c % 128 = c := by omega
        rw [e0] at hm hcv hsh hadd
        have h3 : (128 ≤ c) = False := eq_false (by omega)
        have hxr := valOf_rng b c i
        have hP : Fix T 30 0 [[.list 5 []], [.int .i64 (valOf b c i)]] = some [[.list 5 ((enc (valOf b c i)).map (V.int .u8))]] := by
          have := s30 [] (valOf b c i) hxr (by simp)
          simpa [u8s] using this
        have et : ((l.map (V.int .u8)).take (i + 1)) = ((l.take (i + 1)).map (V.int .u8)) := by simp
        have hS := fun (f : V → TR) => o_slcN (Φ := Fix T) (e := 5) (xs := l.map (V.int .u8)) (c := i + 1) (f := f) (by simp; omega)
        have hq : ((strOfNums (enc (valOf b c i))).toList == (strOfNums (l.take (i + 1))).toList) = decide (enc (valOf b c i) = l.take (i + 1)) := by
          have := strOf_inj (enc_bytes (valOf b c i)) (b := l.take (i + 1)) (fun y hy => hb y (List.mem_of_mem_take hy))
          by_cases e : enc (valOf b c i) = l.take (i + 1)
          · rw [decide_eq_true e]; exact beq_iff_eq.2 (this.2 e)
          · rw [decide_eq_false e]; exact beq_eq_false_iff_ne.2 (fun h => e (this.1 h))
        have h8 : (i : Int) < 9 ∨ ¬ (i : Int) < 9 := by omega
        by_cases hs : c < 64
        · have h4 : (64 ≤ c) = False := eq_false (by omega)
          have hv : IntKind.i64.wrap ((b + c * 2 ^ (7 * i)) % 18446744073709551616) = valOf b c i := by
            rw [wrapi, wrap_u]
            simp only [valOf, e0, if_pos hs]
          simp only [F38_0_b0, stR, u8s, h0, h1, h2, ea, hm, hcv, h7, h7u, hneg, hsh, hadd, hv, hw, h3, h4, hc128, h10, hP, hS, et, hq, List.length_map, o_add, o_sub, o_mul, o_quo, o_rem, o_and, o_or, o_eql, o_neq, o_lss, o_leq, o_gtr, o_geq, o_shl, o_shr, o_seql, o_sneq, o_beql, o_bneq, o_ieql, o_ineq, o_neql, o_nneq, o_not, o_neg, o_notv, o_pickT, o_pickF, o_pick, o_conv, o_len, o_lens, o_idxN, o_eix, o_ldiI, o_ldiI0, o_slcL, o_slcH, o_app, o_mk1, o_ifc, o_str, o_byt, c_int, c_bool, c_str, c_list, c_agg, c_iface, c_nilI, c_unit2, c_unit, c_true, i_te, g_T, g_F, g_u, b_norm, b_exitN, b_exitI, Nat.one_ne_zero, Nat.zero_ne_one, Nat.reduceEqDiff, b_ret, b_none, b_ite, a_0, a_1, a_2, a_3, a_4, a_5, a_6, a_7, a_8, a_9, a_10, a_11, a_12, a_13, a_14, a_15, a_16, a_17, a_18, a_19, a_20, a_21, a_22, a_23, a_24, f_c0, f_c1, f_c2, f_c3, f_c4, f_c5, f_c6, f_c7, f_c8, f_c9, f_c10, f_c11, f_c12, f_c13, f_c14, f_c15, f_c16, p_nil, p_cons, pk_of, Option.bind_some, Option.bind_none, List.getElem?_cons_zero, List.getElem?_cons_succ, decide_eq_true_eq, if_true, if_false, Bool.not_eq_true', Bool.false_eq_true, Bool.true_eq_false, reduceCtorEq, ne_eq, not_false_eq_true, not_true_eq_false, decide_true, decide_false, Int.toNat_natCast, Int.natCast_zero, Bool.not_true, Bool.not_false]
        · have h4 : (64 ≤ c) = True := eq_true (by omega)
          rcases h8 with h9 | h9
          · have h5 : ((i : Int) < 9) = True := eq_true h9
            have hsh2 := shl_u64 128 (7 * i) (by omega)
            have e7 := pow7 i
            have hv : IntKind.i64.wrap (IntKind.u64.wrap ((b + c * 2 ^ (7 * i)) % 18446744073709551616 - 128 * 2 ^ (7 * i) % 18446744073709551616)) = valOf b c i := by
              rw [wrapi, u64_wrap]
              simp only [valOf, e0, if_neg hs, if_pos (show i < 9 by omega), e7, Int.mul_comm (2 ^ (7 * i)) 128]
              generalize b + c * 2 ^ (7 * i) = y
              generalize 128 * (2 : Int) ^ (7 * i) = z
              unfold wrap64; omega
            simp only [F38_0_b0, stR, u8s, h0, h1, h2, ea, hm, hcv, h7, h7u, hneg, hsh, hadd, hsh2, hv, hw, h3, h4, h5, hc128, h10, hP, hS, et, hq, List.length_map, o_add, o_sub, o_mul, o_quo, o_rem, o_and, o_or, o_eql, o_neq, o_lss, o_leq, o_gtr, o_geq, o_shl, o_shr, o_seql, o_sneq, o_beql, o_bneq, o_ieql, o_ineq, o_neql, o_nneq, o_not, o_neg, o_notv, o_pickT, o_pickF, o_pick, o_conv, o_len, o_lens, o_idxN, o_eix, o_ldiI, o_ldiI0, o_slcL, o_slcH, o_app, o_mk1, o_ifc, o_str, o_byt, c_int, c_bool, c_str, c_list, c_agg, c_iface, c_nilI, c_unit2, c_unit, c_true, i_te, g_T, g_F, g_u, b_norm, b_exitN, b_exitI, Nat.one_ne_zero, Nat.zero_ne_one, Nat.reduceEqDiff, b_ret, b_none, b_ite, a_0, a_1, a_2, a_3, a_4, a_5, a_6, a_7, a_8, a_9, a_10, a_11, a_12, a_13, a_14, a_15, a_16, a_17, a_18, a_19, a_20, a_21, a_22, a_23, a_24, f_c0, f_c1, f_c2, f_c3, f_c4, f_c5, f_c6, f_c7, f_c8, f_c9, f_c10, f_c11, f_c12, f_c13, f_c14, f_c15, f_c16, p_nil, p_cons, pk_of, Option.bind_some, Option.bind_none, List.getElem?_cons_zero, List.getElem?_cons_succ, decide_eq_true_eq, if_true, if_false, Bool.not_eq_true', Bool.false_eq_true, Bool.true_eq_false, reduceCtorEq, ne_eq, not_false_eq_true, not_true_eq_false, decide_true, decide_false, Int.toNat_natCast, Int.natCast_zero, Bool.not_true, Bool.not_false]
          · have h5 : ((i : Int) < 9) = False := eq_false h9
            have hv : IntKind.i64.wrap ((b + c * 2 ^ (7 * i)) % 18446744073709551616) = valOf b c i := by
              rw [wrapi, wrap_u]
              simp only [valOf, e0, if_neg hs, if_neg (show ¬ i < 9 by omega)]
            simp only [F38_0_b0, stR, u8s, h0, h1, h2, ea, hm, hcv, h7, h7u, hneg, hsh, hadd, hv, hw, h3, h4, h5, hc128, h10, hP, hS, et, hq, List.length_map, o_add, o_sub, o_mul, o_quo, o_rem, o_and, o_or, o_eql, o_neq, o_lss, o_leq, o_gtr, o_geq, o_shl, o_shr, o_seql, o_sneq, o_beql, o_bneq, o_ieql, o_ineq, o_neql, o_nneq, o_not, o_neg, o_notv, o_pickT, o_pickF, o_pick, o_conv, o_len, o_lens, o_idxN, o_eix, o_ldiI, o_ldiI0, o_slcL, o_slcH, o_app, o_mk1, o_ifc, o_str, o_byt, c_int, c_bool, c_str, c_list, c_agg, c_iface, c_nilI, c_unit2, c_unit, c_true, i_te, g_T, g_F, g_u, b_norm, b_exitN, b_exitI, Nat.one_ne_zero, Nat.zero_ne_one, Nat.reduceEqDiff, b_ret, b_none, b_ite, a_0, a_1, a_2, a_3, a_4, a_5, a_6, a_7, a_8, a_9, a_10, a_11, a_12, a_13, a_14, a_15, a_16, a_17, a_18, a_19, a_20, a_21, a_22, a_23, a_24, f_c0, f_c1, f_c2, f_c3, f_c4, f_c5, f_c6, f_c7, f_c8, f_c9, f_c10, f_c11, f_c12, f_c13, f_c14, f_c15, f_c16, p_nil, p_cons, pk_of, Option.bind_some, Option.bind_none, List.getElem?_cons_zero, List.getElem?_cons_succ, decide_eq_true_eq, if_true, if_false, Bool.not_eq_true', Bool.false_eq_true, Bool.true_eq_false, reduceCtorEq, ne_eq, not_false_eq_true, not_true_eq_false, decide_true, decide_false, Int.toNat_natCast, Int.natCast_zero, Bool.not_true, Bool.not_false]
      · have h3 : (128 ≤ c) = True := eq_true (by omega)
        simp only [F38_0_b0, stR, u8s, h0, h1, h2, ea, hm, hcv, h7, h7u, hneg, hsh, hadd, hw, h3, hc128, h10, List.length_map, o_add, o_sub, o_mul, o_quo, o_rem, o_and, o_or, o_eql, o_neq, o_lss, o_leq, o_gtr, o_geq, o_shl, o_shr, o_seql, o_sneq, o_beql, o_bneq, o_ieql, o_ineq, o_neql, o_nneq, o_not, o_neg, o_notv, o_pickT, o_pickF, o_pick, o_conv, o_len, o_lens, o_idxN, o_eix, o_ldiI, o_ldiI0, o_slcL, o_slcH, o_app, o_mk1, o_ifc, o_str, o_byt, c_int, c_bool, c_str, c_list, c_agg, c_iface, c_nilI, c_unit2, c_unit, c_true, i_te, g_T, g_F, g_u, b_norm, b_exitN, b_exitI, Nat.one_ne_zero, Nat.zero_ne_one, Nat.reduceEqDiff, b_ret, b_none, b_ite, a_0, a_1, a_2, a_3, a_4, a_5, a_6, a_7, a_8, a_9, a_10, a_11, a_12, a_13, a_14, a_15, a_16, a_17, a_18, a_19, a_20, a_21, a_22, a_23, a_24, f_c0, f_c1, f_c2, f_c3, f_c4, f_c5, f_c6, f_c7, f_c8, f_c9, f_c10, f_c11, f_c12, f_c13, f_c14, f_c15, f_c16, p_nil, p_cons, pk_of, Option.bind_some, Option.bind_none, List.getElem?_cons_zero, List.getElem?_cons_succ, decide_eq_true_eq, if_true, if_false, Bool.not_eq_true', Bool.false_eq_true, Bool.true_eq_false, reduceCtorEq, ne_eq, not_false_eq_true, not_true_eq_false, decide_true, decide_false, Int.toNat_natCast, Int.natCast_zero, Bool.not_true, Bool.not_false]
theorem ref_get_loop (n : Nat) (l : List Int) (hl : l.length ≤ 140737488351232) (hb : ∀ x ∈ l, 0 ≤ x ∧ x < 256) : ∀ (r : List Int) (i : Nat) (a b : Int) (fuel : Nat), l.drop i = r → i ≤ 10 → (i ≤ 9 → 0 ≤ a ∧ a < 2 ^ (7 * i) ∧ b = a) → r.length < fuel →
    ∃ x y : V, (lpV [1, 1, 1, 1, 1] (F38_0_b0 (Fix T) n (u8s l)) fuel (stR i b) = match gtS l r i a with
      | some (m, k) => some (.ret [[.int .i64 m], [.int .i64 k], [.int .i64 0]])
      | none => some (.exit 0 [1, 1, 1, 1, 1] [.int .i64 0, .int .i64 0, .int .i64 0, x, y])) ∨
    (gtS l r i a = none ∧ lpV [1, 1, 1, 1, 1] (F38_0_b0 (Fix T) n (u8s l)) fuel (stR i b) = some (.ret [[.int .i64 0], [.int .i64 0], [.int .i64 2]])) := by
  intro r
  induction r with
  | nil =>
    intro i a b fuel hd hi ha hf
    obtain ⟨fuel, rfl⟩ : ∃ k, fuel = k + 1 := ⟨fuel - 1, by omega⟩
    have h := ref_get_rnd n l i a b hl hb ha hi
    rw [hd] at h
    exact ⟨_, _, .inl (by rw [lp_exit h]; rfl)⟩
  | cons c r ih =>
    intro i a b fuel hd hi ha hf
    obtain ⟨fuel, rfl⟩ : ∃ k, fuel = k + 1 := ⟨fuel - 1, by omega⟩
    have h := ref_get_rnd n l i a b hl hb ha hi
    rw [hd] at h
    simp only at h
    have hlt : i < l.length := by
      rcases Nat.lt_or_ge i l.length with h | h
      · exact h
      · rw [List.drop_of_length_le h] at hd; cases hd
    have hd2 := List.drop_eq_getElem_cons hlt
    rw [hd2] at hd
    obtain ⟨hc, hr⟩ := List.cons.inj hd
    by_cases h10 : 10 ≤ i
    · rw [if_pos h10] at h
      exact ⟨_, _, .inl (by rw [lp_exit h, gtS, if_pos h10])⟩
    · rw [if_neg h10] at h
      by_cases hc128 : c < 128
      · rw [if_pos hc128] at h
        by_cases hq : enc (valOf a c i) = l.take (i + 1)
        · rw [if_pos hq] at h
          exact ⟨.unit, .unit, .inl (by rw [lp_ret h, gtS, if_neg h10, if_pos hc128, if_pos hq])⟩
        · rw [if_neg hq] at h
          exact ⟨.unit, .unit, .inr ⟨by rw [gtS, if_neg h10, if_pos hc128, if_neg hq], by rw [lp_ret h]⟩⟩
      · rw [if_neg hc128] at h
        obtain ⟨ha0, ha1, _⟩ := ha (by omega)
        obtain ⟨x, y, h2⟩ := ih (i + 1) (wrap64 (a + (c % 128) * 2 ^ (7 * i))) ((a + (c % 128) * 2 ^ (7 * i)) % 18446744073709551616) fuel hr (by omega) (fun h9 => by
          have hp := pow_le_63 (s := 7 * (i + 1)) (by omega)
          have e7 := pow7 i
          have hpp := pow_pos' (7 * i)
          have hcm : c % 128 * 2 ^ (7 * i) ≤ 127 * 2 ^ (7 * i) := Int.mul_le_mul_of_nonneg_right (by omega) (Int.le_of_lt hpp)
          have hc0 : 0 ≤ c % 128 * 2 ^ (7 * i) := Int.mul_nonneg (by omega) (Int.le_of_lt hpp)
          have hin : wrap64 (a + c % 128 * 2 ^ (7 * i)) = a + c % 128 * 2 ^ (7 * i) := by unfold wrap64; omega
          rw [hin]; omega) (by simp at hf; omega)
        refine ⟨x, y, ?_⟩
        rw [lp_norm h, gtS, if_neg h10, if_neg hc128]
        exact h2
def gtR : Option (Int × Nat) → List (List V)
  | some (n, k) => [[.int .i64 n], [.int .i64 k], [.int .i64 0]]
  | none => [[.int .i64 0], [.int .i64 0], [.int .i64 2]]
theorem s38 (l : List Int) (hl : l.length ≤ 140737488351232) (hb : ∀ x ∈ l, 0 ≤ x ∧ x < 256) : Fix T 38 0 [[u8s l]] = some (gtR (getS l)) := by
  refine e38_0 (l.length + 1) ?_
  obtain ⟨x, y, h⟩ := ref_get_loop (l.length + 1) l hl hb l 0 0 0 (l.length + 1) rfl (by omega) (fun _ => by simp) (by omega)
  unfold getS stR at *
  unfold u8s at h ⊢
  simp only [Int.natCast_zero] at h
  rcases h with h' | ⟨hn, h'⟩
  · cases hg : gtS l l 0 0 with
    | none =>
      rw [hg] at h'
      simp only [F38_0, h', gtR, o_add, o_sub, o_mul, o_quo, o_rem, o_and, o_or, o_eql, o_neq, o_lss, o_leq, o_gtr, o_geq, o_shl, o_shr, o_seql, o_sneq, o_beql, o_bneq, o_ieql, o_ineq, o_neql, o_nneq, o_not, o_neg, o_notv, o_pickT, o_pickF, o_pick, o_conv, o_len, o_lens, o_idxN, o_eix, o_ldiI, o_ldiI0, o_slcL, o_slcH, o_app, o_mk1, o_ifc, o_str, o_byt, c_int, c_bool, c_str, c_list, c_agg, c_iface, c_nilI, c_unit2, c_unit, c_true, i_te, g_T, g_F, g_u, b_norm, b_exitN, b_exitI, Nat.one_ne_zero, Nat.zero_ne_one, Nat.reduceEqDiff, b_ret, b_none, b_ite, a_0, a_1, a_2, a_3, a_4, a_5, a_6, a_7, a_8, a_9, a_10, a_11, a_12, a_13, a_14, a_15, a_16, a_17, a_18, a_19, a_20, a_21, a_22, a_23, a_24, f_c0, f_c1, f_c2, f_c3, f_c4, f_c5, f_c6, f_c7, f_c8, f_c9, f_c10, f_c11, f_c12, f_c13, f_c14, f_c15, f_c16, p_nil, p_cons, pk_of, Option.bind_some, Option.bind_none, List.getElem?_cons_zero, List.getElem?_cons_succ, decide_eq_true_eq, if_true, if_false, Bool.not_eq_true', Bool.false_eq_true, Bool.true_eq_false, reduceCtorEq, ne_eq, not_false_eq_true, not_true_eq_false, decide_true, decide_false, Int.toNat_natCast, Int.natCast_zero, Bool.not_true, Bool.not_false]
    | some p =>
      obtain ⟨m, k⟩ := p
      rw [hg] at h'
      simp only [F38_0, h', gtR, o_add, o_sub, o_mul, o_quo, o_rem, o_and, o_or, o_eql, o_neq, o_lss, o_leq, o_gtr, o_geq, o_shl, o_shr, o_seql, o_sneq, o_beql, o_bneq, o_ieql, o_ineq, o_neql, o_nneq, o_not, o_neg, o_notv, o_pickT, o_pickF, o_pick, o_conv, o_len, o_lens, o_idxN, o_eix, o_ldiI, o_ldiI0, o_slcL, o_slcH, o_app, o_mk1, o_ifc, o_str, o_byt, c_int, c_bool, c_str, c_list, c_agg, c_iface, c_nilI, c_unit2, c_unit, c_true, i_te, g_T, g_F, g_u, b_norm, b_exitN, b_exitI, Nat.one_ne_zero, Nat.zero_ne_one, Nat.reduceEqDiff, b_ret, b_none, b_ite, a_0, a_1, a_2, a_3, a_4, a_5, a_6, a_7, a_8, a_9, a_10, a_11, a_12, a_13, a_14, a_15, a_16, a_17, a_18, a_19, a_20, a_21, a_22, a_23, a_24, f_c0, f_c1, f_c2, f_c3, f_c4, f_c5, f_c6, f_c7, f_c8, f_c9, f_c10, f_c11, f_c12, f_c13, f_c14, f_c15, f_c16, p_nil, p_cons, pk_of, Option.bind_some, Option.bind_none, List.getElem?_cons_zero, List.getElem?_cons_succ, decide_eq_true_eq, if_true, if_false, Bool.not_eq_true', Bool.false_eq_true, Bool.true_eq_false, reduceCtorEq, ne_eq, not_false_eq_true, not_true_eq_false, decide_true, decide_false, Int.toNat_natCast, Int.natCast_zero, Bool.not_true, Bool.not_false]
  · rw [hn]
    simp only [F38_0, h', gtR, o_add, o_sub, o_mul, o_quo, o_rem, o_and, o_or, o_eql, o_neq, o_lss, o_leq, o_gtr, o_geq, o_shl, o_shr, o_seql, o_sneq, o_beql, o_bneq, o_ieql, o_ineq, o_neql, o_nneq, o_not, o_neg, o_notv, o_pickT, o_pickF, o_pick, o_conv, o_len, o_lens, o_idxN, o_eix, o_ldiI, o_ldiI0, o_slcL, o_slcH, o_app, o_mk1, o_ifc, o_str, o_byt, c_int, c_bool, c_str, c_list, c_agg, c_iface, c_nilI, c_unit2, c_unit, c_true, i_te, g_T, g_F, g_u, b_norm, b_exitN, b_exitI, Nat.one_ne_zero, Nat.zero_ne_one, Nat.reduceEqDiff, b_ret, b_none, b_ite, a_0, a_1, a_2, a_3, a_4, a_5, a_6, a_7, a_8, a_9, a_10, a_11, a_12, a_13, a_14, a_15, a_16, a_17, a_18, a_19, a_20, a_21, a_22, a_23, a_24, f_c0, f_c1, f_c2, f_c3, f_c4, f_c5, f_c6, f_c7, f_c8, f_c9, f_c10, f_c11, f_c12, f_c13, f_c14, f_c15, f_c16, p_nil, p_cons, pk_of, Option.bind_some, Option.bind_none, List.getElem?_cons_zero, List.getElem?_cons_succ, decide_eq_true_eq, if_true, if_false, Bool.not_eq_true', Bool.false_eq_true, Bool.true_eq_false, reduceCtorEq, ne_eq, not_false_eq_true, not_true_eq_false, decide_true, decide_false, Int.toNat_natCast, Int.natCast_zero, Bool.not_true, Bool.not_false]
end Go.Proofs.YtogfkdpgkloljaaDoorVs
