/-
  What a Reader answers; the law PackWrong. No condition but each lemma's own premises.
-/
import Derived.Test.YtogfkdpgkloljaaDoorVc
set_option linter.unusedVariables false
set_option linter.unusedSimpArgs false
set_option maxRecDepth 100000
namespace Go.Proofs.YtogfkdpgkloljaaDoorVs
theorem gtS_ok {l : List Int} : ∀ {r : List Int} {i : Nat} {a m : Int} {k : Nat}, gtS l r i a = some (m, k) → i + r.length = l.length → k ≤ l.length ∧ (-9223372036854775808 ≤ m ∧ m ≤ 9223372036854775807) ∧ enc m = l.take k
  | [], i, a, m, k, h, _ => by simp [gtS] at h
  | c :: r, i, a, m, k, h, hl => by
    simp only [gtS] at h
    split at h
    · cases h
    · split at h
      · split at h
        · rename_i hq
          cases h
          exact ⟨by simp at hl; omega, valOf_rng _ _ _, hq⟩
        · cases h
      · exact gtS_ok h (by simp at hl; omega)
theorem getS_ok {l : List Int} {m : Int} {k : Nat} (h : getS l = some (m, k)) : k ≤ l.length ∧ (-9223372036854775808 ≤ m ∧ m ≤ 9223372036854775807) ∧ enc m = l.take k := gtS_ok h (by simp)
abbrev RS := List Int × Bool
def rsV (s : RS) : List V := [u8s s.1, .bool s.2]
def rInt (s : RS) (lo hi : Int) : Int × RS := if s.2 = true then (0, s) else match getS s.1 with
  | some (n, k) => if n < lo ∨ hi < n then (0, ([], true)) else (n, (s.1.drop k, false))
  | none => (0, ([], true))
structure RsOK (s : RS) : Prop where
  len : s.1.length ≤ 140737488351232
  byt : ∀ x ∈ s.1, 0 ≤ x ∧ x < 256
theorem RsOK.nil (w : Bool) : RsOK ([], w) := ⟨by simp, by simp⟩
theorem RsOK.int {s : RS} (h : RsOK s) (lo hi : Int) : RsOK (rInt s lo hi).2 := by
  unfold rInt
  split
  · exact h
  · split
    · split
      · exact RsOK.nil _
      · exact ⟨by simp; have := h.len; omega, fun x hx => h.byt x (List.mem_of_mem_drop hx)⟩
    · exact RsOK.nil _
theorem s25 (s : RS) : Fix T 25 0 [rsV s] = some [[.bool (!s.2)]] := by
  refine e25_0 0 ?_
  simp only [F25_0, o_add, o_sub, o_mul, o_quo, o_rem, o_and, o_or, o_eql, o_neq, o_lss, o_leq, o_gtr, o_geq, o_shl, o_shr, o_seql, o_sneq, o_beql, o_bneq, o_ieql, o_ineq, o_neql, o_nneq, o_not, o_neg, o_notv, o_pickT, o_pickF, o_pick, o_conv, o_len, o_lens, o_idxN, o_eix, o_ldiI, o_ldiI0, o_slcL, o_slcH, o_app, o_mk1, o_ifc, o_str, o_byt, c_int, c_bool, c_str, c_list, c_agg, c_iface, c_nilI, c_unit2, c_unit, c_true, i_te, g_T, g_F, g_u, b_norm, b_exitN, b_exitI, Nat.one_ne_zero, Nat.zero_ne_one, Nat.reduceEqDiff, b_ret, b_none, b_ite, a_0, a_1, a_2, a_3, a_4, a_5, a_6, a_7, a_8, a_9, a_10, a_11, a_12, a_13, a_14, a_15, a_16, a_17, a_18, a_19, a_20, a_21, a_22, a_23, a_24, f_c0, f_c1, f_c2, f_c3, f_c4, f_c5, f_c6, f_c7, f_c8, f_c9, f_c10, f_c11, f_c12, f_c13, f_c14, f_c15, f_c16, p_nil, p_cons, pk_of, Option.bind_some, Option.bind_none, List.getElem?_cons_zero, List.getElem?_cons_succ, decide_eq_true_eq, if_true, if_false, Bool.not_eq_true', Bool.false_eq_true, Bool.true_eq_false, reduceCtorEq, ne_eq, not_false_eq_true, not_true_eq_false, decide_true, decide_false, Int.toNat_natCast, Int.natCast_zero, Bool.not_true, Bool.not_false]
theorem s27 (s : RS) : Fix T 27 0 [rsV s] = some [rsV ([], true)] := by
  refine e27_0 0 ?_
  simp only [F27_0, o_add, o_sub, o_mul, o_quo, o_rem, o_and, o_or, o_eql, o_neq, o_lss, o_leq, o_gtr, o_geq, o_shl, o_shr, o_seql, o_sneq, o_beql, o_bneq, o_ieql, o_ineq, o_neql, o_nneq, o_not, o_neg, o_notv, o_pickT, o_pickF, o_pick, o_conv, o_len, o_lens, o_idxN, o_eix, o_ldiI, o_ldiI0, o_slcL, o_slcH, o_app, o_mk1, o_ifc, o_str, o_byt, c_int, c_bool, c_str, c_list, c_agg, c_iface, c_nilI, c_unit2, c_unit, c_true, i_te, g_T, g_F, g_u, b_norm, b_exitN, b_exitI, Nat.one_ne_zero, Nat.zero_ne_one, Nat.reduceEqDiff, b_ret, b_none, b_ite, a_0, a_1, a_2, a_3, a_4, a_5, a_6, a_7, a_8, a_9, a_10, a_11, a_12, a_13, a_14, a_15, a_16, a_17, a_18, a_19, a_20, a_21, a_22, a_23, a_24, f_c0, f_c1, f_c2, f_c3, f_c4, f_c5, f_c6, f_c7, f_c8, f_c9, f_c10, f_c11, f_c12, f_c13, f_c14, f_c15, f_c16, p_nil, p_cons, pk_of, Option.bind_some, Option.bind_none, List.getElem?_cons_zero, List.getElem?_cons_succ, decide_eq_true_eq, if_true, if_false, Bool.not_eq_true', Bool.false_eq_true, Bool.true_eq_false, reduceCtorEq, ne_eq, not_false_eq_true, not_true_eq_false, decide_true, decide_false, Int.toNat_natCast, Int.natCast_zero, Bool.not_true, Bool.not_false]
  rfl
theorem s9 (s : RS) (lo hi : Int) (h : RsOK s) : Fix T 9 0 [rsV s, [.int .i64 lo], [.int .i64 hi]] = some [[.int .i64 (rInt s lo hi).1], rsV (rInt s lo hi).2] := by
  obtain ⟨b, w⟩ := s
  refine e9_0 0 ?_
  have h25 := s25 (b, w)
  have h26 := s26 b h.len h.byt
  have h27 := s27 (b, w)
  simp only [rsV] at h25 h27
  unfold u8s at h25 h26 h27
  cases w with
  | true =>
    unfold u8s
    simp only [F9_0, h25, rInt, rsV, u8s, o_add, o_sub, o_mul, o_quo, o_rem, o_and, o_or, o_eql, o_neq, o_lss, o_leq, o_gtr, o_geq, o_shl, o_shr, o_seql, o_sneq, o_beql, o_bneq, o_ieql, o_ineq, o_neql, o_nneq, o_not, o_neg, o_notv, o_pickT, o_pickF, o_pick, o_conv, o_len, o_lens, o_idxN, o_eix, o_ldiI, o_ldiI0, o_slcL, o_slcH, o_app, o_mk1, o_ifc, o_str, o_byt, c_int, c_bool, c_str, c_list, c_agg, c_iface, c_nilI, c_unit2, c_unit, c_true, i_te, g_T, g_F, g_u, b_norm, b_exitN, b_exitI, Nat.one_ne_zero, Nat.zero_ne_one, Nat.reduceEqDiff, b_ret, b_none, b_ite, a_0, a_1, a_2, a_3, a_4, a_5, a_6, a_7, a_8, a_9, a_10, a_11, a_12, a_13, a_14, a_15, a_16, a_17, a_18, a_19, a_20, a_21, a_22, a_23, a_24, f_c0, f_c1, f_c2, f_c3, f_c4, f_c5, f_c6, f_c7, f_c8, f_c9, f_c10, f_c11, f_c12, f_c13, f_c14, f_c15, f_c16, p_nil, p_cons, pk_of, Option.bind_some, Option.bind_none, List.getElem?_cons_zero, List.getElem?_cons_succ, decide_eq_true_eq, if_true, if_false, Bool.not_eq_true', Bool.false_eq_true, Bool.true_eq_false, reduceCtorEq, ne_eq, not_false_eq_true, not_true_eq_false, decide_true, decide_false, Int.toNat_natCast, Int.natCast_zero, Bool.not_true, Bool.not_false]
  | false =>
    cases hg : getS b with
    | none =>
      rw [hg] at h26
      simp only [getV] at h26
      unfold u8s
      simp only [F9_0, h25, h26, h27, rInt, rsV, u8s, hg, List.map_nil, o_add, o_sub, o_mul, o_quo, o_rem, o_and, o_or, o_eql, o_neq, o_lss, o_leq, o_gtr, o_geq, o_shl, o_shr, o_seql, o_sneq, o_beql, o_bneq, o_ieql, o_ineq, o_neql, o_nneq, o_not, o_neg, o_notv, o_pickT, o_pickF, o_pick, o_conv, o_len, o_lens, o_idxN, o_eix, o_ldiI, o_ldiI0, o_slcL, o_slcH, o_app, o_mk1, o_ifc, o_str, o_byt, c_int, c_bool, c_str, c_list, c_agg, c_iface, c_nilI, c_unit2, c_unit, c_true, i_te, g_T, g_F, g_u, b_norm, b_exitN, b_exitI, Nat.one_ne_zero, Nat.zero_ne_one, Nat.reduceEqDiff, b_ret, b_none, b_ite, a_0, a_1, a_2, a_3, a_4, a_5, a_6, a_7, a_8, a_9, a_10, a_11, a_12, a_13, a_14, a_15, a_16, a_17, a_18, a_19, a_20, a_21, a_22, a_23, a_24, f_c0, f_c1, f_c2, f_c3, f_c4, f_c5, f_c6, f_c7, f_c8, f_c9, f_c10, f_c11, f_c12, f_c13, f_c14, f_c15, f_c16, p_nil, p_cons, pk_of, Option.bind_some, Option.bind_none, List.getElem?_cons_zero, List.getElem?_cons_succ, decide_eq_true_eq, if_true, if_false, Bool.not_eq_true', Bool.false_eq_true, Bool.true_eq_false, reduceCtorEq, ne_eq, not_false_eq_true, not_true_eq_false, decide_true, decide_false, Int.toNat_natCast, Int.natCast_zero, Bool.not_true, Bool.not_false]
    | some p =>
      obtain ⟨n, k⟩ := p
      rw [hg] at h26
      simp only [getV] at h26
      obtain ⟨hk, hn, _⟩ := getS_ok hg
      have hS : ((0 : Int) ≤ (k : Int) ∧ (k : Int) ≤ (b.length : Int)) = True := eq_true (by omega)
      unfold u8s
      by_cases h1 : n < lo
      · simp only [F9_0, h25, h26, h27, rInt, rsV, u8s, hg, h1, List.map_nil, true_or, o_add, o_sub, o_mul, o_quo, o_rem, o_and, o_or, o_eql, o_neq, o_lss, o_leq, o_gtr, o_geq, o_shl, o_shr, o_seql, o_sneq, o_beql, o_bneq, o_ieql, o_ineq, o_neql, o_nneq, o_not, o_neg, o_notv, o_pickT, o_pickF, o_pick, o_conv, o_len, o_lens, o_idxN, o_eix, o_ldiI, o_ldiI0, o_slcL, o_slcH, o_app, o_mk1, o_ifc, o_str, o_byt, c_int, c_bool, c_str, c_list, c_agg, c_iface, c_nilI, c_unit2, c_unit, c_true, i_te, g_T, g_F, g_u, b_norm, b_exitN, b_exitI, Nat.one_ne_zero, Nat.zero_ne_one, Nat.reduceEqDiff, b_ret, b_none, b_ite, a_0, a_1, a_2, a_3, a_4, a_5, a_6, a_7, a_8, a_9, a_10, a_11, a_12, a_13, a_14, a_15, a_16, a_17, a_18, a_19, a_20, a_21, a_22, a_23, a_24, f_c0, f_c1, f_c2, f_c3, f_c4, f_c5, f_c6, f_c7, f_c8, f_c9, f_c10, f_c11, f_c12, f_c13, f_c14, f_c15, f_c16, p_nil, p_cons, pk_of, Option.bind_some, Option.bind_none, List.getElem?_cons_zero, List.getElem?_cons_succ, decide_eq_true_eq, if_true, if_false, Bool.not_eq_true', Bool.false_eq_true, Bool.true_eq_false, reduceCtorEq, ne_eq, not_false_eq_true, not_true_eq_false, decide_true, decide_false, Int.toNat_natCast, Int.natCast_zero, Bool.not_true, Bool.not_false]
      · by_cases h2 : hi < n
        · simp only [F9_0, h25, h26, h27, rInt, rsV, u8s, hg, h1, h2, List.map_nil, or_true, o_add, o_sub, o_mul, o_quo, o_rem, o_and, o_or, o_eql, o_neq, o_lss, o_leq, o_gtr, o_geq, o_shl, o_shr, o_seql, o_sneq, o_beql, o_bneq, o_ieql, o_ineq, o_neql, o_nneq, o_not, o_neg, o_notv, o_pickT, o_pickF, o_pick, o_conv, o_len, o_lens, o_idxN, o_eix, o_ldiI, o_ldiI0, o_slcL, o_slcH, o_app, o_mk1, o_ifc, o_str, o_byt, c_int, c_bool, c_str, c_list, c_agg, c_iface, c_nilI, c_unit2, c_unit, c_true, i_te, g_T, g_F, g_u, b_norm, b_exitN, b_exitI, Nat.one_ne_zero, Nat.zero_ne_one, Nat.reduceEqDiff, b_ret, b_none, b_ite, a_0, a_1, a_2, a_3, a_4, a_5, a_6, a_7, a_8, a_9, a_10, a_11, a_12, a_13, a_14, a_15, a_16, a_17, a_18, a_19, a_20, a_21, a_22, a_23, a_24, f_c0, f_c1, f_c2, f_c3, f_c4, f_c5, f_c6, f_c7, f_c8, f_c9, f_c10, f_c11, f_c12, f_c13, f_c14, f_c15, f_c16, p_nil, p_cons, pk_of, Option.bind_some, Option.bind_none, List.getElem?_cons_zero, List.getElem?_cons_succ, decide_eq_true_eq, if_true, if_false, Bool.not_eq_true', Bool.false_eq_true, Bool.true_eq_false, reduceCtorEq, ne_eq, not_false_eq_true, not_true_eq_false, decide_true, decide_false, Int.toNat_natCast, Int.natCast_zero, Bool.not_true, Bool.not_false]
        · simp only [F9_0, h25, h26, h27, rInt, rsV, u8s, hg, h1, h2, hS, List.length_map, List.map_drop, or_self, o_add, o_sub, o_mul, o_quo, o_rem, o_and, o_or, o_eql, o_neq, o_lss, o_leq, o_gtr, o_geq, o_shl, o_shr, o_seql, o_sneq, o_beql, o_bneq, o_ieql, o_ineq, o_neql, o_nneq, o_not, o_neg, o_notv, o_pickT, o_pickF, o_pick, o_conv, o_len, o_lens, o_idxN, o_eix, o_ldiI, o_ldiI0, o_slcL, o_slcH, o_app, o_mk1, o_ifc, o_str, o_byt, c_int, c_bool, c_str, c_list, c_agg, c_iface, c_nilI, c_unit2, c_unit, c_true, i_te, g_T, g_F, g_u, b_norm, b_exitN, b_exitI, Nat.one_ne_zero, Nat.zero_ne_one, Nat.reduceEqDiff, b_ret, b_none, b_ite, a_0, a_1, a_2, a_3, a_4, a_5, a_6, a_7, a_8, a_9, a_10, a_11, a_12, a_13, a_14, a_15, a_16, a_17, a_18, a_19, a_20, a_21, a_22, a_23, a_24, f_c0, f_c1, f_c2, f_c3, f_c4, f_c5, f_c6, f_c7, f_c8, f_c9, f_c10, f_c11, f_c12, f_c13, f_c14, f_c15, f_c16, p_nil, p_cons, pk_of, Option.bind_some, Option.bind_none, List.getElem?_cons_zero, List.getElem?_cons_succ, decide_eq_true_eq, if_true, if_false, Bool.not_eq_true', Bool.false_eq_true, Bool.true_eq_false, reduceCtorEq, ne_eq, not_false_eq_true, not_true_eq_false, decide_true, decide_false, Int.toNat_natCast, Int.natCast_zero, Bool.not_true, Bool.not_false]
def doneV (s : RS) : V := if s.2 = true ∨ s.1 ≠ [] then .iface 62 (.int .i64 2) else .nilI
theorem s13 (s : RS) : Fix T 13 0 [rsV s] = some [[doneV s]] := by
  obtain ⟨b, w⟩ := s
  refine e13_0 0 ?_
  have h25 := s25 (b, w)
  simp only [rsV] at h25
  unfold u8s at h25
  cases w with
  | true =>
    unfold u8s
    simp only [F13_0, h25, doneV, true_or, o_add, o_sub, o_mul, o_quo, o_rem, o_and, o_or, o_eql, o_neq, o_lss, o_leq, o_gtr, o_geq, o_shl, o_shr, o_seql, o_sneq, o_beql, o_bneq, o_ieql, o_ineq, o_neql, o_nneq, o_not, o_neg, o_notv, o_pickT, o_pickF, o_pick, o_conv, o_len, o_lens, o_idxN, o_eix, o_ldiI, o_ldiI0, o_slcL, o_slcH, o_app, o_mk1, o_ifc, o_str, o_byt, c_int, c_bool, c_str, c_list, c_agg, c_iface, c_nilI, c_unit2, c_unit, c_true, i_te, g_T, g_F, g_u, b_norm, b_exitN, b_exitI, Nat.one_ne_zero, Nat.zero_ne_one, Nat.reduceEqDiff, b_ret, b_none, b_ite, a_0, a_1, a_2, a_3, a_4, a_5, a_6, a_7, a_8, a_9, a_10, a_11, a_12, a_13, a_14, a_15, a_16, a_17, a_18, a_19, a_20, a_21, a_22, a_23, a_24, f_c0, f_c1, f_c2, f_c3, f_c4, f_c5, f_c6, f_c7, f_c8, f_c9, f_c10, f_c11, f_c12, f_c13, f_c14, f_c15, f_c16, p_nil, p_cons, pk_of, Option.bind_some, Option.bind_none, List.getElem?_cons_zero, List.getElem?_cons_succ, decide_eq_true_eq, if_true, if_false, Bool.not_eq_true', Bool.false_eq_true, Bool.true_eq_false, reduceCtorEq, ne_eq, not_false_eq_true, not_true_eq_false, decide_true, decide_false, Int.toNat_natCast, Int.natCast_zero, Bool.not_true, Bool.not_false]
  | false =>
    unfold u8s
    cases b with
    | nil =>
      simp only [List.map_nil] at h25
      have : ((0 : Int) < 0) = False := by simp
      simp only [F13_0, h25, doneV, this, List.map_nil, List.length_nil, or_self, o_add, o_sub, o_mul, o_quo, o_rem, o_and, o_or, o_eql, o_neq, o_lss, o_leq, o_gtr, o_geq, o_shl, o_shr, o_seql, o_sneq, o_beql, o_bneq, o_ieql, o_ineq, o_neql, o_nneq, o_not, o_neg, o_notv, o_pickT, o_pickF, o_pick, o_conv, o_len, o_lens, o_idxN, o_eix, o_ldiI, o_ldiI0, o_slcL, o_slcH, o_app, o_mk1, o_ifc, o_str, o_byt, c_int, c_bool, c_str, c_list, c_agg, c_iface, c_nilI, c_unit2, c_unit, c_true, i_te, g_T, g_F, g_u, b_norm, b_exitN, b_exitI, Nat.one_ne_zero, Nat.zero_ne_one, Nat.reduceEqDiff, b_ret, b_none, b_ite, a_0, a_1, a_2, a_3, a_4, a_5, a_6, a_7, a_8, a_9, a_10, a_11, a_12, a_13, a_14, a_15, a_16, a_17, a_18, a_19, a_20, a_21, a_22, a_23, a_24, f_c0, f_c1, f_c2, f_c3, f_c4, f_c5, f_c6, f_c7, f_c8, f_c9, f_c10, f_c11, f_c12, f_c13, f_c14, f_c15, f_c16, p_nil, p_cons, pk_of, Option.bind_some, Option.bind_none, List.getElem?_cons_zero, List.getElem?_cons_succ, decide_eq_true_eq, if_true, if_false, Bool.not_eq_true', Bool.false_eq_true, Bool.true_eq_false, reduceCtorEq, ne_eq, not_false_eq_true, not_true_eq_false, decide_true, decide_false, Int.toNat_natCast, Int.natCast_zero, Bool.not_true, Bool.not_false]
    | cons x r =>
      have : ((0 : Int) < (((x :: r).map (V.int .u8)).length : Int)) = True := eq_true (by simp only [List.map_cons, List.length_cons]; omega)
      simp only [F13_0, h25, doneV, this, or_true, o_add, o_sub, o_mul, o_quo, o_rem, o_and, o_or, o_eql, o_neq, o_lss, o_leq, o_gtr, o_geq, o_shl, o_shr, o_seql, o_sneq, o_beql, o_bneq, o_ieql, o_ineq, o_neql, o_nneq, o_not, o_neg, o_notv, o_pickT, o_pickF, o_pick, o_conv, o_len, o_lens, o_idxN, o_eix, o_ldiI, o_ldiI0, o_slcL, o_slcH, o_app, o_mk1, o_ifc, o_str, o_byt, c_int, c_bool, c_str, c_list, c_agg, c_iface, c_nilI, c_unit2, c_unit, c_true, i_te, g_T, g_F, g_u, b_norm, b_exitN, b_exitI, Nat.one_ne_zero, Nat.zero_ne_one, Nat.reduceEqDiff, b_ret, b_none, b_ite, a_0, a_1, a_2, a_3, a_4, a_5, a_6, a_7, a_8, a_9, a_10, a_11, a_12, a_13, a_14, a_15, a_16, a_17, a_18, a_19, a_20, a_21, a_22, a_23, a_24, f_c0, f_c1, f_c2, f_c3, f_c4, f_c5, f_c6, f_c7, f_c8, f_c9, f_c10, f_c11, f_c12, f_c13, f_c14, f_c15, f_c16, p_nil, p_cons, pk_of, Option.bind_some, Option.bind_none, List.getElem?_cons_zero, List.getElem?_cons_succ, decide_eq_true_eq, if_true, if_false, Bool.not_eq_true', Bool.false_eq_true, Bool.true_eq_false, reduceCtorEq, ne_eq, not_false_eq_true, not_true_eq_false, decide_true, decide_false, Int.toNat_natCast, Int.natCast_zero, Bool.not_true, Bool.not_false]
theorem s12 (k : Int) : Fix T 12 0 [[.iface 62 (.int .i64 k)]] = some [[.int .i64 k]] := gv12 (by simp [numφ])
theorem s12n : Fix T 12 0 [[.nilI]] = some [[.int .i64 0]] := gv12 rfl
theorem s16 (l : List Int) (h : l.length ≤ 140737488355328) : Fix T 16 0 [[u8s l]] = some [[.bool true, u8s l, .bool false]] := by
  refine e16_0 0 ?_
  have h24 := s24 l h
  unfold u8s at h24 ⊢
  simp only [F16_0, h24, o_add, o_sub, o_mul, o_quo, o_rem, o_and, o_or, o_eql, o_neq, o_lss, o_leq, o_gtr, o_geq, o_shl, o_shr, o_seql, o_sneq, o_beql, o_bneq, o_ieql, o_ineq, o_neql, o_nneq, o_not, o_neg, o_notv, o_pickT, o_pickF, o_pick, o_conv, o_len, o_lens, o_idxN, o_eix, o_ldiI, o_ldiI0, o_slcL, o_slcH, o_app, o_mk1, o_ifc, o_str, o_byt, c_int, c_bool, c_str, c_list, c_agg, c_iface, c_nilI, c_unit2, c_unit, c_true, i_te, g_T, g_F, g_u, b_norm, b_exitN, b_exitI, Nat.one_ne_zero, Nat.zero_ne_one, Nat.reduceEqDiff, b_ret, b_none, b_ite, a_0, a_1, a_2, a_3, a_4, a_5, a_6, a_7, a_8, a_9, a_10, a_11, a_12, a_13, a_14, a_15, a_16, a_17, a_18, a_19, a_20, a_21, a_22, a_23, a_24, f_c0, f_c1, f_c2, f_c3, f_c4, f_c5, f_c6, f_c7, f_c8, f_c9, f_c10, f_c11, f_c12, f_c13, f_c14, f_c15, f_c16, p_nil, p_cons, pk_of, Option.bind_some, Option.bind_none, List.getElem?_cons_zero, List.getElem?_cons_succ, decide_eq_true_eq, if_true, if_false, Bool.not_eq_true', Bool.false_eq_true, Bool.true_eq_false, reduceCtorEq, ne_eq, not_false_eq_true, not_true_eq_false, decide_true, decide_false, Int.toNat_natCast, Int.natCast_zero, Bool.not_true, Bool.not_false]
theorem s28w (m : Int) : Fix T 28 0 [rsV ([], true), [.int .i64 m]] = some [[.int .i64 0], rsV ([], true)] := by
  refine e28_0 0 ?_
  have h9 := s9 ([], true) 0 m (RsOK.nil _)
  have h25 := s25 ([], true)
  have h27 := s27 ([], true)
  simp only [rsV, rInt, u8s, List.map_nil, if_true] at h9 h25 h27 ⊢
  simp only [F28_0, h9, h25, h27, List.map_nil, o_add, o_sub, o_mul, o_quo, o_rem, o_and, o_or, o_eql, o_neq, o_lss, o_leq, o_gtr, o_geq, o_shl, o_shr, o_seql, o_sneq, o_beql, o_bneq, o_ieql, o_ineq, o_neql, o_nneq, o_not, o_neg, o_notv, o_pickT, o_pickF, o_pick, o_conv, o_len, o_lens, o_idxN, o_eix, o_ldiI, o_ldiI0, o_slcL, o_slcH, o_app, o_mk1, o_ifc, o_str, o_byt, c_int, c_bool, c_str, c_list, c_agg, c_iface, c_nilI, c_unit2, c_unit, c_true, i_te, g_T, g_F, g_u, b_norm, b_exitN, b_exitI, Nat.one_ne_zero, Nat.zero_ne_one, Nat.reduceEqDiff, b_ret, b_none, b_ite, a_0, a_1, a_2, a_3, a_4, a_5, a_6, a_7, a_8, a_9, a_10, a_11, a_12, a_13, a_14, a_15, a_16, a_17, a_18, a_19, a_20, a_21, a_22, a_23, a_24, f_c0, f_c1, f_c2, f_c3, f_c4, f_c5, f_c6, f_c7, f_c8, f_c9, f_c10, f_c11, f_c12, f_c13, f_c14, f_c15, f_c16, p_nil, p_cons, pk_of, Option.bind_some, Option.bind_none, List.getElem?_cons_zero, List.getElem?_cons_succ, decide_eq_true_eq, if_true, if_false, Bool.not_eq_true', Bool.false_eq_true, Bool.true_eq_false, reduceCtorEq, ne_eq, not_false_eq_true, not_true_eq_false, decide_true, decide_false, Int.toNat_natCast, Int.natCast_zero, Bool.not_true, Bool.not_false]
theorem s10w (m lo hi : Int) : Fix T 10 0 [rsV ([], true), [.int .i64 m], [.int .i64 lo], [.int .i64 hi]] = some [[.list 3 []], rsV ([], true)] := by
  refine e10_0 1 ?_
  have h28 := s28w m
  have h25 := s25 ([], true)
  simp only [rsV, u8s, List.map_nil] at h28 h25 ⊢
  have hb : F10_0_b0 (Fix T) 1 (.int .i64 lo) (.int .i64 hi) (.int .i64 0) [.unit, .bool true, .list 5 [], .list 3 [], .unit, .int .i64 0] = some (.exit 0 [1, 1, 1, 2, 1] [.unit, .list 3 [], .int .i64 0, .unit, .bool true, .list 5 []]) := by
    have : ((0 : Int) < 0) = False := by simp
    simp only [F10_0_b0, this, o_add, o_sub, o_mul, o_quo, o_rem, o_and, o_or, o_eql, o_neq, o_lss, o_leq, o_gtr, o_geq, o_shl, o_shr, o_seql, o_sneq, o_beql, o_bneq, o_ieql, o_ineq, o_neql, o_nneq, o_not, o_neg, o_notv, o_pickT, o_pickF, o_pick, o_conv, o_len, o_lens, o_idxN, o_eix, o_ldiI, o_ldiI0, o_slcL, o_slcH, o_app, o_mk1, o_ifc, o_str, o_byt, c_int, c_bool, c_str, c_list, c_agg, c_iface, c_nilI, c_unit2, c_unit, c_true, i_te, g_T, g_F, g_u, b_norm, b_exitN, b_exitI, Nat.one_ne_zero, Nat.zero_ne_one, Nat.reduceEqDiff, b_ret, b_none, b_ite, a_0, a_1, a_2, a_3, a_4, a_5, a_6, a_7, a_8, a_9, a_10, a_11, a_12, a_13, a_14, a_15, a_16, a_17, a_18, a_19, a_20, a_21, a_22, a_23, a_24, f_c0, f_c1, f_c2, f_c3, f_c4, f_c5, f_c6, f_c7, f_c8, f_c9, f_c10, f_c11, f_c12, f_c13, f_c14, f_c15, f_c16, p_nil, p_cons, pk_of, Option.bind_some, Option.bind_none, List.getElem?_cons_zero, List.getElem?_cons_succ, decide_eq_true_eq, if_true, if_false, Bool.not_eq_true', Bool.false_eq_true, Bool.true_eq_false, reduceCtorEq, ne_eq, not_false_eq_true, not_true_eq_false, decide_true, decide_false, Int.toNat_natCast, Int.natCast_zero, Bool.not_true, Bool.not_false]
  simp only [F10_0, h28, h25, lp_exit hb, o_add, o_sub, o_mul, o_quo, o_rem, o_and, o_or, o_eql, o_neq, o_lss, o_leq, o_gtr, o_geq, o_shl, o_shr, o_seql, o_sneq, o_beql, o_bneq, o_ieql, o_ineq, o_neql, o_nneq, o_not, o_neg, o_notv, o_pickT, o_pickF, o_pick, o_conv, o_len, o_lens, o_idxN, o_eix, o_ldiI, o_ldiI0, o_slcL, o_slcH, o_app, o_mk1, o_ifc, o_str, o_byt, c_int, c_bool, c_str, c_list, c_agg, c_iface, c_nilI, c_unit2, c_unit, c_true, i_te, g_T, g_F, g_u, b_norm, b_exitN, b_exitI, Nat.one_ne_zero, Nat.zero_ne_one, Nat.reduceEqDiff, b_ret, b_none, b_ite, a_0, a_1, a_2, a_3, a_4, a_5, a_6, a_7, a_8, a_9, a_10, a_11, a_12, a_13, a_14, a_15, a_16, a_17, a_18, a_19, a_20, a_21, a_22, a_23, a_24, f_c0, f_c1, f_c2, f_c3, f_c4, f_c5, f_c6, f_c7, f_c8, f_c9, f_c10, f_c11, f_c12, f_c13, f_c14, f_c15, f_c16, p_nil, p_cons, pk_of, Option.bind_some, Option.bind_none, List.getElem?_cons_zero, List.getElem?_cons_succ, decide_eq_true_eq, if_true, if_false, Bool.not_eq_true', Bool.false_eq_true, Bool.true_eq_false, reduceCtorEq, ne_eq, not_false_eq_true, not_true_eq_false, decide_true, decide_false, Int.toNat_natCast, Int.natCast_zero, Bool.not_true, Bool.not_false]
theorem s11w (m : Int) : Fix T 11 0 [rsV ([], true), [.int .i64 m]] = some [[.str ⟨#[]⟩], rsV ([], true)] := by
  refine e11_0 0 ?_
  have h28 := s28w m
  have h25 := s25 ([], true)
  simp only [rsV, u8s, List.map_nil] at h28 h25 ⊢
  simp only [F11_0, h28, h25, o_add, o_sub, o_mul, o_quo, o_rem, o_and, o_or, o_eql, o_neq, o_lss, o_leq, o_gtr, o_geq, o_shl, o_shr, o_seql, o_sneq, o_beql, o_bneq, o_ieql, o_ineq, o_neql, o_nneq, o_not, o_neg, o_notv, o_pickT, o_pickF, o_pick, o_conv, o_len, o_lens, o_idxN, o_eix, o_ldiI, o_ldiI0, o_slcL, o_slcH, o_app, o_mk1, o_ifc, o_str, o_byt, c_int, c_bool, c_str, c_list, c_agg, c_iface, c_nilI, c_unit2, c_unit, c_true, i_te, g_T, g_F, g_u, b_norm, b_exitN, b_exitI, Nat.one_ne_zero, Nat.zero_ne_one, Nat.reduceEqDiff, b_ret, b_none, b_ite, a_0, a_1, a_2, a_3, a_4, a_5, a_6, a_7, a_8, a_9, a_10, a_11, a_12, a_13, a_14, a_15, a_16, a_17, a_18, a_19, a_20, a_21, a_22, a_23, a_24, f_c0, f_c1, f_c2, f_c3, f_c4, f_c5, f_c6, f_c7, f_c8, f_c9, f_c10, f_c11, f_c12, f_c13, f_c14, f_c15, f_c16, p_nil, p_cons, pk_of, Option.bind_some, Option.bind_none, List.getElem?_cons_zero, List.getElem?_cons_succ, decide_eq_true_eq, if_true, if_false, Bool.not_eq_true', Bool.false_eq_true, Bool.true_eq_false, reduceCtorEq, ne_eq, not_false_eq_true, not_true_eq_false, decide_true, decide_false, Int.toNat_natCast, Int.natCast_zero, Bool.not_true, Bool.not_false]
theorem PackWrong_ok (l : List Int) (lo hi many : Int) (hl : l.length ≤ 140737488351232) (hb : ∀ x ∈ l, 0 ≤ x ∧ x < 256) : Fix T 5 0 [[u8s l], [.int .i64 lo], [.int .i64 hi], [.int .i64 many]] = some [[.bool true]] := by
  refine e5_0 0 ?_
  have h16 := s16 l (by omega)
  have h9 := s9 (l, false) 1 0 ⟨hl, hb⟩
  have hr : rInt (l, false) 1 0 = (0, ([], true)) := by
    unfold rInt
    cases getS l with
    | none => rfl
    | some p =>
      have : p.1 < 1 ∨ 0 < p.1 := by omega
      simp [this]
  have h9b := s9 ([], true) lo hi (RsOK.nil _)
  have hr2 : rInt ([], true) lo hi = (0, ([], true)) := rfl
  have h13 := s13 ([], true)
  have h12 := s12 2
  have h10 := s10w many lo hi
  have h11 := s11w many
  rw [hr] at h9
  rw [hr2] at h9b
  have hd : doneV ([], true) = .iface 62 (.int .i64 2) := rfl
  rw [hd] at h13
  have hs : (0 + l.length) * 1 ≤ 140737488355328 := by omega
  have hsc : (l.map (V.int .u8)).all scalarE = true := by simp [List.all_map, Function.comp_def, scalarE, scalarV]
  have hmk : ∀ f : V → TR, op1V (Fix T) (.mk 5 []) [] f = f (.list 5 []) := fun f => rfl
  simp only [rsV, u8s, List.map_nil] at h16 h9 h9b h13 h10 h11 ⊢
  simp only [F5_0, hmk, List.length_nil, List.length_map, List.nil_append, hs, hsc, h16, h9, h9b, h13, h12, h10, h11, sure_holds, implies_true, and_self, beq_self_eq_true, o_add, o_sub, o_mul, o_quo, o_rem, o_and, o_or, o_eql, o_neq, o_lss, o_leq, o_gtr, o_geq, o_shl, o_shr, o_seql, o_sneq, o_beql, o_bneq, o_ieql, o_ineq, o_neql, o_nneq, o_not, o_neg, o_notv, o_pickT, o_pickF, o_pick, o_conv, o_len, o_lens, o_idxN, o_eix, o_ldiI, o_ldiI0, o_slcL, o_slcH, o_app, o_mk1, o_ifc, o_str, o_byt, c_int, c_bool, c_str, c_list, c_agg, c_iface, c_nilI, c_unit2, c_unit, c_true, i_te, g_T, g_F, g_u, b_norm, b_exitN, b_exitI, Nat.one_ne_zero, Nat.zero_ne_one, Nat.reduceEqDiff, b_ret, b_none, b_ite, a_0, a_1, a_2, a_3, a_4, a_5, a_6, a_7, a_8, a_9, a_10, a_11, a_12, a_13, a_14, a_15, a_16, a_17, a_18, a_19, a_20, a_21, a_22, a_23, a_24, f_c0, f_c1, f_c2, f_c3, f_c4, f_c5, f_c6, f_c7, f_c8, f_c9, f_c10, f_c11, f_c12, f_c13, f_c14, f_c15, f_c16, p_nil, p_cons, pk_of, Option.bind_some, Option.bind_none, List.getElem?_cons_zero, List.getElem?_cons_succ, decide_eq_true_eq, if_true, if_false, Bool.not_eq_true', Bool.false_eq_true, Bool.true_eq_false, reduceCtorEq, ne_eq, not_false_eq_true, not_true_eq_false, decide_true, decide_false, Int.toNat_natCast, Int.natCast_zero, Bool.not_true, Bool.not_false]
end Go.Proofs.YtogfkdpgkloljaaDoorVs
