/-
  What varint.Get answers. No condition but each lemma's own premises.
-/
import Derived.Test.YtogfkdpgkloljaaDoorVb
set_option linter.unusedVariables false
set_option linter.unusedSimpArgs false
set_option maxRecDepth 100000
namespace Go.Proofs.YtogfkdpgkloljaaDoorVs
open Go.RowKit (wrap64)
theorem wrap_in {x : Int} (h1 : -9223372036854775808 ≤ x) (h2 : x ≤ 9223372036854775807) : wrap64 x = x := by unfold wrap64; omega
theorem wrap_succ (i : Nat) (h : i ≤ 140737488355328) : wrap64 ((i : Int) + 1) = ((i + 1 : Nat) : Int) := by unfold wrap64; omega
theorem pow_le_63 {s : Nat} (hs : s ≤ 63) : (2 : Int) ^ s ≤ 9223372036854775808 := by
  have h : (2 : Int) ^ s ≤ 2 ^ 63 := by exact_mod_cast Nat.pow_le_pow_right (by decide) hs
  have h63 : (2 : Int) ^ 63 = 9223372036854775808 := by decide
  omega
theorem pow_pos' (s : Nat) : (0 : Int) < 2 ^ s := by exact_mod_cast Nat.two_pow_pos s
theorem wrap_mod_pow (x : Int) (s : Nat) (hs : s ≤ 63) : (wrap64 (x * 2 ^ s)) % 2 ^ s = 0 := by
  have hd : (2 : Int) ^ s ∣ 18446744073709551616 := by
    have h : (2 : Int) ^ s ∣ ((2 ^ 64 : Nat) : Int) := by exact_mod_cast Nat.pow_dvd_pow 2 (by omega : s ≤ 64)
    rwa [show ((2 ^ 64 : Nat) : Int) = 18446744073709551616 from by decide] at h
  have e : wrap64 (x * 2 ^ s) = x * 2 ^ s - 18446744073709551616 * ((x * 2 ^ s + 9223372036854775808) / 18446744073709551616) := by
    unfold wrap64; omega
  rw [e]
  obtain ⟨q, hq⟩ := hd
  rw [hq, Int.mul_comm x, Int.mul_assoc, ← Int.mul_sub]
  exact Int.mul_emod_right _ _
theorem wrap_add_wrap (a b : Int) : wrap64 (a + wrap64 b) = wrap64 (a + b) := by unfold wrap64; omega
theorem emod_step (n p : Int) (hp : 0 < p) : n % (p * 128) = n % p + (n / p % 128) * p := by
  have h1 := Int.mul_ediv_add_emod n p
  have h2 := Int.mul_ediv_add_emod (n / p) 128
  have h3 := Int.emod_nonneg n (Int.ne_of_gt hp)
  have h4 := Int.emod_lt_of_pos n hp
  have h5 := Int.emod_nonneg (n / p) (show (128 : Int) ≠ 0 by decide)
  have h6 := Int.emod_lt_of_pos (n / p) (show (0 : Int) < 128 by decide)
  have e : n = (n % p + (n / p % 128) * p) + (p * 128) * (n / p / 128) := by
    conv => lhs; rw [← h1, ← h2]
    rw [Int.mul_add, Int.mul_assoc, Int.mul_comm p (n / p % 128)]
    omega
  have h7 : (n / p % 128) * p ≤ 127 * p := Int.mul_le_mul_of_nonneg_right (by omega) (Int.le_of_lt hp)
  have h8 : 0 ≤ (n / p % 128) * p := Int.mul_nonneg h5 (Int.le_of_lt hp)
  conv => lhs; rw [e]
  rw [Int.add_mul_emod_self_left]
  exact Int.emod_eq_of_lt (by omega) (by omega)
theorem pow7 (i : Nat) : (2 : Int) ^ (7 * (i + 1)) = 2 ^ (7 * i) * 128 := by
  rw [show 7 * (i + 1) = 7 * i + 7 from by omega, Int.pow_add]; rfl
def valOf (a c : Int) (i : Nat) : Int := if c % 128 < 64 then wrap64 (a + c * 2 ^ (7 * i)) else if i < 9 then wrap64 (a + c * 2 ^ (7 * i) - 2 ^ (7 * (i + 1))) else wrap64 (a + c * 2 ^ (7 * i))
theorem u64_wrap (x : Int) : IntKind.u64.wrap x = x % 18446744073709551616 := by simp [IntKind.wrap, IntKind.bits, IntKind.signed]
theorem wrap_u (x : Int) : wrap64 (x % 18446744073709551616) = wrap64 x := by unfold wrap64; omega
theorem wrap_rng (x : Int) : -9223372036854775808 ≤ wrap64 x ∧ wrap64 x ≤ 9223372036854775807 := by unfold wrap64; omega
theorem valOf_rng (a c : Int) (i : Nat) : -9223372036854775808 ≤ valOf a c i ∧ valOf a c i ≤ 9223372036854775807 := by
  unfold valOf
  split
  · exact wrap_rng _
  · split
    · exact wrap_rng _
    · exact wrap_rng _

/-- the number that bytes begin with -/
def gtS (whole : List Int) : List Int → Nat → Int → Option (Int × Nat)
  | [], _, _ => none
  | c :: r, i, a => if 10 ≤ i then none else if c < 128 then (if enc (valOf a c i) = whole.take (i + 1) then some (valOf a c i, i + 1) else none) else gtS whole r (i + 1) (wrap64 (a + (c % 128) * 2 ^ (7 * i)))
def getS (l : List Int) : Option (Int × Nat) := gtS l l 0 0
def getV : Option (Int × Nat) → List (List V)
  | some (n, k) => [[.int .i64 n], [.int .i64 k], [.nilI]]
  | none => [[.int .i64 0], [.int .i64 0], [.iface 62 (.int .i64 2)]]
def stG (i : Nat) (a : Int) : List V := [.int .u64 ((7 * i : Nat) : Int), .int .i64 a, .int .i64 0, .int .i64 0, .nilI, .int .i64 i]
theorem shlG (c : Int) (s : Nat) (hs : s ≤ 63) : IntKind.i64.wrap (c * 2 ^ min s IntKind.i64.bits) = wrap64 (c * 2 ^ s) := by
  have : min s IntKind.i64.bits = s := by simp [IntKind.bits]; omega
  rw [this, IntKind.wrap_i64]; unfold wrap64; omega
theorem orG (a c : Int) (s : Nat) (hs : s ≤ 63) (h0 : 0 ≤ a) (h1 : a < 2 ^ s) : Go.bits .or .i64 a (wrap64 (c * 2 ^ s)) = wrap64 (a + c * 2 ^ s) := by
  rw [i64_or_disj a _ s hs h0 h1 (wrap_mod_pow c s hs), wrap_add_wrap]
theorem get_rnd (n : Nat) (l : List Int) (i : Nat) (a : Int) (hl : l.length ≤ 140737488351232) (hb : ∀ x ∈ l, 0 ≤ x ∧ x < 256) (ha : i ≤ 9 → 0 ≤ a ∧ a < 2 ^ (7 * i)) (hi10 : i ≤ 10) :
    F26_0_b0 (Fix T) n (u8s l) (.int .i64 l.length) (stG i a) = match l.drop i with
      | [] => some (.exit 0 [1, 1, 1, 1, 1, 1] [.int .i64 0, .int .i64 0, .nilI, .int .i64 a, .int .u64 ((7 * i : Nat) : Int), .int .i64 i])
      | c :: r => if 10 ≤ i then some (.exit 0 [1, 1, 1, 1, 1, 1] [.int .i64 0, .int .i64 0, .nilI, .int .i64 a, .int .u64 ((7 * i : Nat) : Int), .int .i64 i])
          else if c < 128 then (if enc (valOf a c i) = l.take (i + 1) then some (.ret [[.int .i64 (valOf a c i)], [.int .i64 ((i + 1 : Nat) : Int)], [.nilI]]) else some (.exit 0 [1, 1, 1, 1, 1, 1] [.int .i64 0, .int .i64 0, .nilI, .int .i64 (valOf a c i), .int .u64 ((7 * (i + 1) : Nat) : Int), .int .i64 i]))
          else some (.norm [1, 1, 1, 1, 1, 1] (stG (i + 1) (wrap64 (a + (c % 128) * 2 ^ (7 * i))))) := by
  have hu : IntKind.u64.wrap (((7 * i : Nat) : Int) + 7) = ((7 * (i + 1) : Nat) : Int) := by rw [u64_wrap]; omega
  have hw : IntKind.i64.wrap ((i : Int) + 1) = ((i + 1 : Nat) : Int) := w_succ (by omega)
  cases hd : l.drop i with
  | nil =>
    have hle : l.length ≤ i := by
      have := congrArg List.length hd
      simp at this; omega
    have h1 : ((i : Int) < l.length) = False := eq_false (by omega)
    simp only [F26_0_b0, stG, u8s, h1, o_add, o_sub, o_mul, o_quo, o_rem, o_and, o_or, o_eql, o_neq, o_lss, o_leq, o_gtr, o_geq, o_shl, o_shr, o_seql, o_sneq, o_beql, o_bneq, o_ieql, o_ineq, o_neql, o_nneq, o_not, o_neg, o_notv, o_pickT, o_pickF, o_pick, o_conv, o_len, o_lens, o_idxN, o_eix, o_ldiI, o_ldiI0, o_slcL, o_slcH, o_app, o_mk1, o_ifc, o_str, o_byt, c_int, c_bool, c_str, c_list, c_agg, c_iface, c_nilI, c_unit2, c_unit, c_true, i_te, g_T, g_F, g_u, b_norm, b_exitN, b_exitI, Nat.one_ne_zero, Nat.zero_ne_one, Nat.reduceEqDiff, b_ret, b_none, b_ite, a_0, a_1, a_2, a_3, a_4, a_5, a_6, a_7, a_8, a_9, a_10, a_11, a_12, a_13, a_14, a_15, a_16, a_17, a_18, a_19, a_20, a_21, a_22, a_23, a_24, f_c0, f_c1, f_c2, f_c3, f_c4, f_c5, f_c6, f_c7, f_c8, f_c9, f_c10, f_c11, f_c12, f_c13, f_c14, f_c15, f_c16, p_nil, p_cons, pk_of, Option.bind_some, Option.bind_none, List.getElem?_cons_zero, List.getElem?_cons_succ, decide_eq_true_eq, if_true, if_false, Bool.not_eq_true', Bool.false_eq_true, Bool.true_eq_false, reduceCtorEq, ne_eq, not_false_eq_true, not_true_eq_false, decide_true, decide_false, Int.toNat_natCast, Bool.not_true, Bool.not_false]
  | cons c r =>
    have hlt : i < l.length := by
      rcases Nat.lt_or_ge i l.length with h | h
      · exact h
      · rw [List.drop_of_length_le h] at hd; cases hd
    have hc : l[i] = c := by
      have := List.drop_eq_getElem_cons hlt
      rw [this] at hd
      exact (List.cons.inj hd).1
    have h1 : ((i : Int) < l.length) = True := eq_true (by omega)
    have ea : (l.map (V.int .u8))[i]? = some (.int .u8 c) := by simp [hlt, hc]
    have hcb := hb c (by rw [← hc]; exact List.getElem_mem hlt)
    by_cases h10 : 10 ≤ i
    · have h2 : ((64 : Int) ≤ ((7 * i : Nat) : Int)) = True := eq_true (by omega)
      simp only [F26_0_b0, stG, u8s, h1, h2, ea, h10, o_add, o_sub, o_mul, o_quo, o_rem, o_and, o_or, o_eql, o_neq, o_lss, o_leq, o_gtr, o_geq, o_shl, o_shr, o_seql, o_sneq, o_beql, o_bneq, o_ieql, o_ineq, o_neql, o_nneq, o_not, o_neg, o_notv, o_pickT, o_pickF, o_pick, o_conv, o_len, o_lens, o_idxN, o_eix, o_ldiI, o_ldiI0, o_slcL, o_slcH, o_app, o_mk1, o_ifc, o_str, o_byt, c_int, c_bool, c_str, c_list, c_agg, c_iface, c_nilI, c_unit2, c_unit, c_true, i_te, g_T, g_F, g_u, b_norm, b_exitN, b_exitI, Nat.one_ne_zero, Nat.zero_ne_one, Nat.reduceEqDiff, b_ret, b_none, b_ite, a_0, a_1, a_2, a_3, a_4, a_5, a_6, a_7, a_8, a_9, a_10, a_11, a_12, a_13, a_14, a_15, a_16, a_17, a_18, a_19, a_20, a_21, a_22, a_23, a_24, f_c0, f_c1, f_c2, f_c3, f_c4, f_c5, f_c6, f_c7, f_c8, f_c9, f_c10, f_c11, f_c12, f_c13, f_c14, f_c15, f_c16, p_nil, p_cons, pk_of, Option.bind_some, Option.bind_none, List.getElem?_cons_zero, List.getElem?_cons_succ, decide_eq_true_eq, if_true, if_false, Bool.not_eq_true', Bool.false_eq_true, Bool.true_eq_false, reduceCtorEq, ne_eq, not_false_eq_true, not_true_eq_false, decide_true, decide_false, Int.toNat_natCast, Bool.not_true, Bool.not_false]
    · have h2 : ((64 : Int) ≤ ((7 * i : Nat) : Int)) = False := eq_false (by omega)
      obtain ⟨ha0, ha1⟩ := ha (by omega)
      have h127 := u8_and127 c hcb.1 hcb.2
      have hcv : IntKind.i64.wrap (c % 128) = c % 128 := w_i64 (by omega)
      have hneg : (((7 * i : Nat) : Int) < 0) = False := eq_false (by omega)
      have hsh := shlG (c % 128) (7 * i) (by omega)
      have hor := orG a (c % 128) (7 * i) (by omega) ha0 ha1
      have h128 := u8_and128_zero c hcb.1 hcb.2
      by_cases hc128 : c < 128
      · have e0 : c % 128 = c := by omega
        rw [e0] at h127 hcv hsh hor
        have h3 : (Go.bits .and .u8 c 128 = 0) = True := eq_true (h128.2 hc128)
        have h64 := u8_and64_zero c hcb.1 hcb.2
        rw [e0] at h64
        have hxr := valOf_rng a c i
        have hP : Fix T 32 0 [[.list 5 []], [.int .i64 (valOf a c i)]] = some [[.list 5 ((enc (valOf a c i)).map (V.int .u8))]] := by
          have := s32 [] (valOf a c i) hxr.1 hxr.2 (by simp)
          simpa [u8s] using this
        have hE : Fix T 33 0 [[.list 5 ((enc (valOf a c i)).map (V.int .u8))], [.list 5 ((l.map (V.int .u8)).take (i + 1))]] = some [[.bool (decide (enc (valOf a c i) = l.take (i + 1)))]] := by
          have := s33 (enc (valOf a c i)) (l.take (i + 1)) (by have := enc_len_10 (valOf a c i) hxr.1 hxr.2; omega)
          simpa [u8s, List.map_take] using this
        have hS : ((0 : Int) ≤ ((i + 1 : Nat) : Int) ∧ ((i + 1 : Nat) : Int) ≤ (l.length : Int)) = True := eq_true (by omega)
        have hneg2 : (((7 * (i + 1) : Nat) : Int) < 0) = False := eq_false (by omega)
        have hpp := pow_pos' (7 * i)
        by_cases hs : c < 64
        · have h4 : (Go.bits .and .u8 c 64 = 0) = True := eq_true (h64.2 hs)
          have hv : wrap64 (a + c * 2 ^ (7 * i)) = valOf a c i := by simp only [valOf, e0, if_pos hs]
          rw [hv] at hor
          simp only [F26_0_b0, stG, u8s, h1, h2, ea, h127, e0, hcv, hneg, hsh, hor, hu, hw, h3, h4, hc128, h10, hP, hE, hS, List.length_map, o_add, o_sub, o_mul, o_quo, o_rem, o_and, o_or, o_eql, o_neq, o_lss, o_leq, o_gtr, o_geq, o_shl, o_shr, o_seql, o_sneq, o_beql, o_bneq, o_ieql, o_ineq, o_neql, o_nneq, o_not, o_neg, o_notv, o_pickT, o_pickF, o_pick, o_conv, o_len, o_lens, o_idxN, o_eix, o_ldiI, o_ldiI0, o_slcL, o_slcH, o_app, o_mk1, o_ifc, o_str, o_byt, c_int, c_bool, c_str, c_list, c_agg, c_iface, c_nilI, c_unit2, c_unit, c_true, i_te, g_T, g_F, g_u, b_norm, b_exitN, b_exitI, Nat.one_ne_zero, Nat.zero_ne_one, Nat.reduceEqDiff, b_ret, b_none, b_ite, a_0, a_1, a_2, a_3, a_4, a_5, a_6, a_7, a_8, a_9, a_10, a_11, a_12, a_13, a_14, a_15, a_16, a_17, a_18, a_19, a_20, a_21, a_22, a_23, a_24, f_c0, f_c1, f_c2, f_c3, f_c4, f_c5, f_c6, f_c7, f_c8, f_c9, f_c10, f_c11, f_c12, f_c13, f_c14, f_c15, f_c16, p_nil, p_cons, pk_of, Option.bind_some, Option.bind_none, List.getElem?_cons_zero, List.getElem?_cons_succ, decide_eq_true_eq, if_true, if_false, Bool.not_eq_true', Bool.false_eq_true, Bool.true_eq_false, reduceCtorEq, ne_eq, not_false_eq_true, not_true_eq_false, decide_true, decide_false, Int.toNat_natCast, Bool.not_true, Bool.not_false]
          by_cases hq : enc (valOf a c i) = l.take (i + 1)
          · simp only [hq, o_add, o_sub, o_mul, o_quo, o_rem, o_and, o_or, o_eql, o_neq, o_lss, o_leq, o_gtr, o_geq, o_shl, o_shr, o_seql, o_sneq, o_beql, o_bneq, o_ieql, o_ineq, o_neql, o_nneq, o_not, o_neg, o_notv, o_pickT, o_pickF, o_pick, o_conv, o_len, o_lens, o_idxN, o_eix, o_ldiI, o_ldiI0, o_slcL, o_slcH, o_app, o_mk1, o_ifc, o_str, o_byt, c_int, c_bool, c_str, c_list, c_agg, c_iface, c_nilI, c_unit2, c_unit, c_true, i_te, g_T, g_F, g_u, b_norm, b_exitN, b_exitI, Nat.one_ne_zero, Nat.zero_ne_one, Nat.reduceEqDiff, b_ret, b_none, b_ite, a_0, a_1, a_2, a_3, a_4, a_5, a_6, a_7, a_8, a_9, a_10, a_11, a_12, a_13, a_14, a_15, a_16, a_17, a_18, a_19, a_20, a_21, a_22, a_23, a_24, f_c0, f_c1, f_c2, f_c3, f_c4, f_c5, f_c6, f_c7, f_c8, f_c9, f_c10, f_c11, f_c12, f_c13, f_c14, f_c15, f_c16, p_nil, p_cons, pk_of, Option.bind_some, Option.bind_none, List.getElem?_cons_zero, List.getElem?_cons_succ, decide_eq_true_eq, if_true, if_false, Bool.not_eq_true', Bool.false_eq_true, Bool.true_eq_false, reduceCtorEq, ne_eq, not_false_eq_true, not_true_eq_false, decide_true, decide_false, Int.toNat_natCast, Bool.not_true, Bool.not_false]
          · simp only [hq, o_add, o_sub, o_mul, o_quo, o_rem, o_and, o_or, o_eql, o_neq, o_lss, o_leq, o_gtr, o_geq, o_shl, o_shr, o_seql, o_sneq, o_beql, o_bneq, o_ieql, o_ineq, o_neql, o_nneq, o_not, o_neg, o_notv, o_pickT, o_pickF, o_pick, o_conv, o_len, o_lens, o_idxN, o_eix, o_ldiI, o_ldiI0, o_slcL, o_slcH, o_app, o_mk1, o_ifc, o_str, o_byt, c_int, c_bool, c_str, c_list, c_agg, c_iface, c_nilI, c_unit2, c_unit, c_true, i_te, g_T, g_F, g_u, b_norm, b_exitN, b_exitI, Nat.one_ne_zero, Nat.zero_ne_one, Nat.reduceEqDiff, b_ret, b_none, b_ite, a_0, a_1, a_2, a_3, a_4, a_5, a_6, a_7, a_8, a_9, a_10, a_11, a_12, a_13, a_14, a_15, a_16, a_17, a_18, a_19, a_20, a_21, a_22, a_23, a_24, f_c0, f_c1, f_c2, f_c3, f_c4, f_c5, f_c6, f_c7, f_c8, f_c9, f_c10, f_c11, f_c12, f_c13, f_c14, f_c15, f_c16, p_nil, p_cons, pk_of, Option.bind_some, Option.bind_none, List.getElem?_cons_zero, List.getElem?_cons_succ, decide_eq_true_eq, if_true, if_false, Bool.not_eq_true', Bool.false_eq_true, Bool.true_eq_false, reduceCtorEq, ne_eq, not_false_eq_true, not_true_eq_false, decide_true, decide_false, Int.toNat_natCast, Bool.not_true, Bool.not_false]
        · have h4 : (Go.bits .and .u8 c 64 = 0) = False := eq_false (fun e => hs (h64.1 e))
          by_cases h9 : i < 9
          · have h5 : (((7 * (i + 1) : Nat) : Int) < 64) = True := eq_true (by omega)
            have hp := pow_le_63 (s := 7 * (i + 1)) (by omega)
            have e7 := pow7 i
            have hcm : c * 2 ^ (7 * i) ≤ 127 * 2 ^ (7 * i) := Int.mul_le_mul_of_nonneg_right (by omega) (Int.le_of_lt hpp)
            have hc0 : 0 ≤ c * 2 ^ (7 * i) := Int.mul_nonneg hcb.1 (Int.le_of_lt hpp)
            have hin : wrap64 (a + c * 2 ^ (7 * i)) = a + c * 2 ^ (7 * i) := by unfold wrap64; omega
            have hsh2 := shlG (-1) (7 * (i + 1)) (by omega)
            have hor2 := orG (a + c * 2 ^ (7 * i)) (-1) (7 * (i + 1)) (by omega) (by omega) (by omega)
            have hv : wrap64 (a + c * 2 ^ (7 * i) + -1 * 2 ^ (7 * (i + 1))) = valOf a c i := by
              simp only [valOf, e0, if_neg hs, if_pos h9]
              rw [show ∀ x y : Int, x + -1 * y = x - y from fun x y => by omega]
            rw [hin] at hor
            rw [hv] at hor2
            simp only [F26_0_b0, stG, u8s, h1, h2, ea, h127, e0, hcv, hneg, hneg2, hsh, hor, hsh2, hor2, hu, hw, h3, h4, h5, hc128, h10, hP, hE, hS, List.length_map, o_add, o_sub, o_mul, o_quo, o_rem, o_and, o_or, o_eql, o_neq, o_lss, o_leq, o_gtr, o_geq, o_shl, o_shr, o_seql, o_sneq, o_beql, o_bneq, o_ieql, o_ineq, o_neql, o_nneq, o_not, o_neg, o_notv, o_pickT, o_pickF, o_pick, o_conv, o_len, o_lens, o_idxN, o_eix, o_ldiI, o_ldiI0, o_slcL, o_slcH, o_app, o_mk1, o_ifc, o_str, o_byt, c_int, c_bool, c_str, c_list, c_agg, c_iface, c_nilI, c_unit2, c_unit, c_true, i_te, g_T, g_F, g_u, b_norm, b_exitN, b_exitI, Nat.one_ne_zero, Nat.zero_ne_one, Nat.reduceEqDiff, b_ret, b_none, b_ite, a_0, a_1, a_2, a_3, a_4, a_5, a_6, a_7, a_8, a_9, a_10, a_11, a_12, a_13, a_14, a_15, a_16, a_17, a_18, a_19, a_20, a_21, a_22, a_23, a_24, f_c0, f_c1, f_c2, f_c3, f_c4, f_c5, f_c6, f_c7, f_c8, f_c9, f_c10, f_c11, f_c12, f_c13, f_c14, f_c15, f_c16, p_nil, p_cons, pk_of, Option.bind_some, Option.bind_none, List.getElem?_cons_zero, List.getElem?_cons_succ, decide_eq_true_eq, if_true, if_false, Bool.not_eq_true', Bool.false_eq_true, Bool.true_eq_false, reduceCtorEq, ne_eq, not_false_eq_true, not_true_eq_false, decide_true, decide_false, Int.toNat_natCast, Bool.not_true, Bool.not_false]
            by_cases hq : enc (valOf a c i) = l.take (i + 1)
            · simp only [hq, o_add, o_sub, o_mul, o_quo, o_rem, o_and, o_or, o_eql, o_neq, o_lss, o_leq, o_gtr, o_geq, o_shl, o_shr, o_seql, o_sneq, o_beql, o_bneq, o_ieql, o_ineq, o_neql, o_nneq, o_not, o_neg, o_notv, o_pickT, o_pickF, o_pick, o_conv, o_len, o_lens, o_idxN, o_eix, o_ldiI, o_ldiI0, o_slcL, o_slcH, o_app, o_mk1, o_ifc, o_str, o_byt, c_int, c_bool, c_str, c_list, c_agg, c_iface, c_nilI, c_unit2, c_unit, c_true, i_te, g_T, g_F, g_u, b_norm, b_exitN, b_exitI, Nat.one_ne_zero, Nat.zero_ne_one, Nat.reduceEqDiff, b_ret, b_none, b_ite, a_0, a_1, a_2, a_3, a_4, a_5, a_6, a_7, a_8, a_9, a_10, a_11, a_12, a_13, a_14, a_15, a_16, a_17, a_18, a_19, a_20, a_21, a_22, a_23, a_24, f_c0, f_c1, f_c2, f_c3, f_c4, f_c5, f_c6, f_c7, f_c8, f_c9, f_c10, f_c11, f_c12, f_c13, f_c14, f_c15, f_c16, p_nil, p_cons, pk_of, Option.bind_some, Option.bind_none, List.getElem?_cons_zero, List.getElem?_cons_succ, decide_eq_true_eq, if_true, if_false, Bool.not_eq_true', Bool.false_eq_true, Bool.true_eq_false, reduceCtorEq, ne_eq, not_false_eq_true, not_true_eq_false, decide_true, decide_false, Int.toNat_natCast, Bool.not_true, Bool.not_false]
            · simp only [hq, o_add, o_sub, o_mul, o_quo, o_rem, o_and, o_or, o_eql, o_neq, o_lss, o_leq, o_gtr, o_geq, o_shl, o_shr, o_seql, o_sneq, o_beql, o_bneq, o_ieql, o_ineq, o_neql, o_nneq, o_not, o_neg, o_notv, o_pickT, o_pickF, o_pick, o_conv, o_len, o_lens, o_idxN, o_eix, o_ldiI, o_ldiI0, o_slcL, o_slcH, o_app, o_mk1, o_ifc, o_str, o_byt, c_int, c_bool, c_str, c_list, c_agg, c_iface, c_nilI, c_unit2, c_unit, c_true, i_te, g_T, g_F, g_u, b_norm, b_exitN, b_exitI, Nat.one_ne_zero, Nat.zero_ne_one, Nat.reduceEqDiff, b_ret, b_none, b_ite, a_0, a_1, a_2, a_3, a_4, a_5, a_6, a_7, a_8, a_9, a_10, a_11, a_12, a_13, a_14, a_15, a_16, a_17, a_18, a_19, a_20, a_21, a_22, a_23, a_24, f_c0, f_c1, f_c2, f_c3, f_c4, f_c5, f_c6, f_c7, f_c8, f_c9, f_c10, f_c11, f_c12, f_c13, f_c14, f_c15, f_c16, p_nil, p_cons, pk_of, Option.bind_some, Option.bind_none, List.getElem?_cons_zero, List.getElem?_cons_succ, decide_eq_true_eq, if_true, if_false, Bool.not_eq_true', Bool.false_eq_true, Bool.true_eq_false, reduceCtorEq, ne_eq, not_false_eq_true, not_true_eq_false, decide_true, decide_false, Int.toNat_natCast, Bool.not_true, Bool.not_false]
          · have h5 : (((7 * (i + 1) : Nat) : Int) < 64) = False := eq_false (by omega)
            have hv : wrap64 (a + c * 2 ^ (7 * i)) = valOf a c i := by simp only [valOf, e0, if_neg hs, if_neg h9]
            rw [hv] at hor
            simp only [F26_0_b0, stG, u8s, h1, h2, ea, h127, e0, hcv, hneg, hneg2, hsh, hor, hu, hw, h3, h4, h5, hc128, h10, hP, hE, hS, List.length_map, o_add, o_sub, o_mul, o_quo, o_rem, o_and, o_or, o_eql, o_neq, o_lss, o_leq, o_gtr, o_geq, o_shl, o_shr, o_seql, o_sneq, o_beql, o_bneq, o_ieql, o_ineq, o_neql, o_nneq, o_not, o_neg, o_notv, o_pickT, o_pickF, o_pick, o_conv, o_len, o_lens, o_idxN, o_eix, o_ldiI, o_ldiI0, o_slcL, o_slcH, o_app, o_mk1, o_ifc, o_str, o_byt, c_int, c_bool, c_str, c_list, c_agg, c_iface, c_nilI, c_unit2, c_unit, c_true, i_te, g_T, g_F, g_u, b_norm, b_exitN, b_exitI, Nat.one_ne_zero, Nat.zero_ne_one, Nat.reduceEqDiff, b_ret, b_none, b_ite, a_0, a_1, a_2, a_3, a_4, a_5, a_6, a_7, a_8, a_9, a_10, a_11, a_12, a_13, a_14, a_15, a_16, a_17, a_18, a_19, a_20, a_21, a_22, a_23, a_24, f_c0, f_c1, f_c2, f_c3, f_c4, f_c5, f_c6, f_c7, f_c8, f_c9, f_c10, f_c11, f_c12, f_c13, f_c14, f_c15, f_c16, p_nil, p_cons, pk_of, Option.bind_some, Option.bind_none, List.getElem?_cons_zero, List.getElem?_cons_succ, decide_eq_true_eq, if_true, if_false, Bool.not_eq_true', Bool.false_eq_true, Bool.true_eq_false, reduceCtorEq, ne_eq, not_false_eq_true, not_true_eq_false, decide_true, decide_false, Int.toNat_natCast, Bool.not_true, Bool.not_false]
            by_cases hq : enc (valOf a c i) = l.take (i + 1)
            · simp only [hq, o_add, o_sub, o_mul, o_quo, o_rem, o_and, o_or, o_eql, o_neq, o_lss, o_leq, o_gtr, o_geq, o_shl, o_shr, o_seql, o_sneq, o_beql, o_bneq, o_ieql, o_ineq, o_neql, o_nneq, o_not, o_neg, o_notv, o_pickT, o_pickF, o_pick, o_conv, o_len, o_lens, o_idxN, o_eix, o_ldiI, o_ldiI0, o_slcL, o_slcH, o_app, o_mk1, o_ifc, o_str, o_byt, c_int, c_bool, c_str, c_list, c_agg, c_iface, c_nilI, c_unit2, c_unit, c_true, i_te, g_T, g_F, g_u, b_norm, b_exitN, b_exitI, Nat.one_ne_zero, Nat.zero_ne_one, Nat.reduceEqDiff, b_ret, b_none, b_ite, a_0, a_1, a_2, a_3, a_4, a_5, a_6, a_7, a_8, a_9, a_10, a_11, a_12, a_13, a_14, a_15, a_16, a_17, a_18, a_19, a_20, a_21, a_22, a_23, a_24, f_c0, f_c1, f_c2, f_c3, f_c4, f_c5, f_c6, f_c7, f_c8, f_c9, f_c10, f_c11, f_c12, f_c13, f_c14, f_c15, f_c16, p_nil, p_cons, pk_of, Option.bind_some, Option.bind_none, List.getElem?_cons_zero, List.getElem?_cons_succ, decide_eq_true_eq, if_true, if_false, Bool.not_eq_true', Bool.false_eq_true, Bool.true_eq_false, reduceCtorEq, ne_eq, not_false_eq_true, not_true_eq_false, decide_true, decide_false, Int.toNat_natCast, Bool.not_true, Bool.not_false]
            · simp only [hq, o_add, o_sub, o_mul, o_quo, o_rem, o_and, o_or, o_eql, o_neq, o_lss, o_leq, o_gtr, o_geq, o_shl, o_shr, o_seql, o_sneq, o_beql, o_bneq, o_ieql, o_ineq, o_neql, o_nneq, o_not, o_neg, o_notv, o_pickT, o_pickF, o_pick, o_conv, o_len, o_lens, o_idxN, o_eix, o_ldiI, o_ldiI0, o_slcL, o_slcH, o_app, o_mk1, o_ifc, o_str, o_byt, c_int, c_bool, c_str, c_list, c_agg, c_iface, c_nilI, c_unit2, c_unit, c_true, i_te, g_T, g_F, g_u, b_norm, b_exitN, b_exitI, Nat.one_ne_zero, Nat.zero_ne_one, Nat.reduceEqDiff, b_ret, b_none, b_ite, a_0, a_1, a_2, a_3, a_4, a_5, a_6, a_7, a_8, a_9, a_10, a_11, a_12, a_13, a_14, a_15, a_16, a_17, a_18, a_19, a_20, a_21, a_22, a_23, a_24, f_c0, f_c1, f_c2, f_c3, f_c4, f_c5, f_c6, f_c7, f_c8, f_c9, f_c10, f_c11, f_c12, f_c13, f_c14, f_c15, f_c16, p_nil, p_cons, pk_of, Option.bind_some, Option.bind_none, List.getElem?_cons_zero, List.getElem?_cons_succ, decide_eq_true_eq, if_true, if_false, Bool.not_eq_true', Bool.false_eq_true, Bool.true_eq_false, reduceCtorEq, ne_eq, not_false_eq_true, not_true_eq_false, decide_true, decide_false, Int.toNat_natCast, Bool.not_true, Bool.not_false]
      · have h3 : (Go.bits .and .u8 c 128 = 0) = False := eq_false (fun e => hc128 (h128.1 e))
        simp only [F26_0_b0, stG, u8s, h1, h2, ea, h127, hcv, hneg, hsh, hor, hu, hw, h3, hc128, h10, o_add, o_sub, o_mul, o_quo, o_rem, o_and, o_or, o_eql, o_neq, o_lss, o_leq, o_gtr, o_geq, o_shl, o_shr, o_seql, o_sneq, o_beql, o_bneq, o_ieql, o_ineq, o_neql, o_nneq, o_not, o_neg, o_notv, o_pickT, o_pickF, o_pick, o_conv, o_len, o_lens, o_idxN, o_eix, o_ldiI, o_ldiI0, o_slcL, o_slcH, o_app, o_mk1, o_ifc, o_str, o_byt, c_int, c_bool, c_str, c_list, c_agg, c_iface, c_nilI, c_unit2, c_unit, c_true, i_te, g_T, g_F, g_u, b_norm, b_exitN, b_exitI, Nat.one_ne_zero, Nat.zero_ne_one, Nat.reduceEqDiff, b_ret, b_none, b_ite, a_0, a_1, a_2, a_3, a_4, a_5, a_6, a_7, a_8, a_9, a_10, a_11, a_12, a_13, a_14, a_15, a_16, a_17, a_18, a_19, a_20, a_21, a_22, a_23, a_24, f_c0, f_c1, f_c2, f_c3, f_c4, f_c5, f_c6, f_c7, f_c8, f_c9, f_c10, f_c11, f_c12, f_c13, f_c14, f_c15, f_c16, p_nil, p_cons, pk_of, Option.bind_some, Option.bind_none, List.getElem?_cons_zero, List.getElem?_cons_succ, decide_eq_true_eq, if_true, if_false, Bool.not_eq_true', Bool.false_eq_true, Bool.true_eq_false, reduceCtorEq, ne_eq, not_false_eq_true, not_true_eq_false, decide_true, decide_false, Int.toNat_natCast, Bool.not_true, Bool.not_false]
theorem get_loop (n : Nat) (l : List Int) (hl : l.length ≤ 140737488351232) (hb : ∀ x ∈ l, 0 ≤ x ∧ x < 256) : ∀ (r : List Int) (i : Nat) (a : Int) (fuel : Nat), l.drop i = r → i ≤ 10 → (i ≤ 9 → 0 ≤ a ∧ a < 2 ^ (7 * i)) → r.length < fuel →
    ∃ x y z, lpV [1, 1, 1, 1, 1, 1] (F26_0_b0 (Fix T) n (u8s l) (.int .i64 l.length)) fuel (stG i a) = match gtS l r i a with
      | some (m, k) => some (.ret [[.int .i64 m], [.int .i64 k], [.nilI]])
      | none => some (.exit 0 [1, 1, 1, 1, 1, 1] [.int .i64 0, .int .i64 0, .nilI, x, y, z]) := by
  intro r
  induction r with
  | nil =>
    intro i a fuel hd hi ha hf
    obtain ⟨fuel, rfl⟩ : ∃ k, fuel = k + 1 := ⟨fuel - 1, by omega⟩
    have h := get_rnd n l i a hl hb ha hi
    rw [hd] at h
    exact ⟨_, _, _, by rw [lp_exit h]; rfl⟩
  | cons c r ih =>
    intro i a fuel hd hi ha hf
    obtain ⟨fuel, rfl⟩ : ∃ k, fuel = k + 1 := ⟨fuel - 1, by omega⟩
    have h := get_rnd n l i a hl hb ha hi
    rw [hd] at h
    simp only at h
    have hlt : i < l.length := by
      rcases Nat.lt_or_ge i l.length with h | h
      · exact h
      · rw [List.drop_of_length_le h] at hd; cases hd
    have hd2 := List.drop_eq_getElem_cons hlt
    rw [hd2] at hd
    obtain ⟨hc, hr⟩ := List.cons.inj hd
    by_cases h10 : 10 ≤ i
    · rw [if_pos h10] at h
      exact ⟨_, _, _, by rw [lp_exit h, gtS, if_pos h10]⟩
    · rw [if_neg h10] at h
      by_cases hc128 : c < 128
      · rw [if_pos hc128] at h
        by_cases hq : enc (valOf a c i) = l.take (i + 1)
        · rw [if_pos hq] at h
          exact ⟨.unit, .unit, .unit, by rw [lp_ret h, gtS, if_neg h10, if_pos hc128, if_pos hq]⟩
        · rw [if_neg hq] at h
          exact ⟨_, _, _, by rw [lp_exit h, gtS, if_neg h10, if_pos hc128, if_neg hq]⟩
      · rw [if_neg hc128] at h
        obtain ⟨ha0, ha1⟩ := ha (by omega)
        obtain ⟨x, y, z, h2⟩ := ih (i + 1) (wrap64 (a + (c % 128) * 2 ^ (7 * i))) fuel hr (by omega) (fun h9 => by
          have hp := pow_le_63 (s := 7 * (i + 1)) (by omega)
          have e7 := pow7 i
          have hpp := pow_pos' (7 * i)
          have hcm : c % 128 * 2 ^ (7 * i) ≤ 127 * 2 ^ (7 * i) := Int.mul_le_mul_of_nonneg_right (by omega) (Int.le_of_lt hpp)
          have hc0 : 0 ≤ c % 128 * 2 ^ (7 * i) := Int.mul_nonneg (by omega) (Int.le_of_lt hpp)
          have hin : wrap64 (a + c % 128 * 2 ^ (7 * i)) = a + c % 128 * 2 ^ (7 * i) := by unfold wrap64; omega
          rw [hin]; omega) (by simp at hf; omega)
        exact ⟨x, y, z, by rw [lp_norm h, h2, gtS, if_neg h10, if_neg hc128]⟩
theorem s26 (l : List Int) (hl : l.length ≤ 140737488351232) (hb : ∀ x ∈ l, 0 ≤ x ∧ x < 256) : Fix T 26 0 [[u8s l]] = some (getV (getS l)) := by
  refine e26_0 (l.length + 1) ?_
  obtain ⟨x, y, z, h⟩ := get_loop (l.length + 1) l hl hb l 0 0 (l.length + 1) rfl (by omega) (fun _ => by simp) (by omega)
  have h' : lpV [1, 1, 1, 1, 1, 1] (F26_0_b0 (Fix T) (l.length + 1) (u8s l) (.int .i64 l.length)) (l.length + 1) [.int .u64 0, .int .i64 0, .int .i64 0, .int .i64 0, .nilI, .int .i64 0] = _ := h
  unfold getS
  unfold u8s at h' ⊢
  cases hg : gtS l l 0 0 with
  | none =>
    rw [hg] at h'
    simp only [F26_0, List.length_map, h', getV, o_add, o_sub, o_mul, o_quo, o_rem, o_and, o_or, o_eql, o_neq, o_lss, o_leq, o_gtr, o_geq, o_shl, o_shr, o_seql, o_sneq, o_beql, o_bneq, o_ieql, o_ineq, o_neql, o_nneq, o_not, o_neg, o_notv, o_pickT, o_pickF, o_pick, o_conv, o_len, o_lens, o_idxN, o_eix, o_ldiI, o_ldiI0, o_slcL, o_slcH, o_app, o_mk1, o_ifc, o_str, o_byt, c_int, c_bool, c_str, c_list, c_agg, c_iface, c_nilI, c_unit2, c_unit, c_true, i_te, g_T, g_F, g_u, b_norm, b_exitN, b_exitI, Nat.one_ne_zero, Nat.zero_ne_one, Nat.reduceEqDiff, b_ret, b_none, b_ite, a_0, a_1, a_2, a_3, a_4, a_5, a_6, a_7, a_8, a_9, a_10, a_11, a_12, a_13, a_14, a_15, a_16, a_17, a_18, a_19, a_20, a_21, a_22, a_23, a_24, f_c0, f_c1, f_c2, f_c3, f_c4, f_c5, f_c6, f_c7, f_c8, f_c9, f_c10, f_c11, f_c12, f_c13, f_c14, f_c15, f_c16, p_nil, p_cons, pk_of, Option.bind_some, Option.bind_none, List.getElem?_cons_zero, List.getElem?_cons_succ, decide_eq_true_eq, if_true, if_false, Bool.not_eq_true', Bool.false_eq_true, Bool.true_eq_false, reduceCtorEq, ne_eq, not_false_eq_true, not_true_eq_false, decide_true, decide_false, Int.toNat_natCast, Bool.not_true, Bool.not_false]
  | some p =>
    obtain ⟨m, k⟩ := p
    rw [hg] at h'
    simp only [F26_0, List.length_map, h', getV, o_add, o_sub, o_mul, o_quo, o_rem, o_and, o_or, o_eql, o_neq, o_lss, o_leq, o_gtr, o_geq, o_shl, o_shr, o_seql, o_sneq, o_beql, o_bneq, o_ieql, o_ineq, o_neql, o_nneq, o_not, o_neg, o_notv, o_pickT, o_pickF, o_pick, o_conv, o_len, o_lens, o_idxN, o_eix, o_ldiI, o_ldiI0, o_slcL, o_slcH, o_app, o_mk1, o_ifc, o_str, o_byt, c_int, c_bool, c_str, c_list, c_agg, c_iface, c_nilI, c_unit2, c_unit, c_true, i_te, g_T, g_F, g_u, b_norm, b_exitN, b_exitI, Nat.one_ne_zero, Nat.zero_ne_one, Nat.reduceEqDiff, b_ret, b_none, b_ite, a_0, a_1, a_2, a_3, a_4, a_5, a_6, a_7, a_8, a_9, a_10, a_11, a_12, a_13, a_14, a_15, a_16, a_17, a_18, a_19, a_20, a_21, a_22, a_23, a_24, f_c0, f_c1, f_c2, f_c3, f_c4, f_c5, f_c6, f_c7, f_c8, f_c9, f_c10, f_c11, f_c12, f_c13, f_c14, f_c15, f_c16, p_nil, p_cons, pk_of, Option.bind_some, Option.bind_none, List.getElem?_cons_zero, List.getElem?_cons_succ, decide_eq_true_eq, if_true, if_false, Bool.not_eq_true', Bool.false_eq_true, Bool.true_eq_false, reduceCtorEq, ne_eq, not_false_eq_true, not_true_eq_false, decide_true, decide_false, Int.toNat_natCast, Bool.not_true, Bool.not_false]
end Go.Proofs.YtogfkdpgkloljaaDoorVs
