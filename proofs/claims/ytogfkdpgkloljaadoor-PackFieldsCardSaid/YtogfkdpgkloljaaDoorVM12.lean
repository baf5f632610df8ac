/-
  Several texts in one: What the document's num and Take answer, and that they read as a Reader does. No condition but each lemma's own premises. | PackFields' answer. No condition but each lemma's own premises. | What a law's parameter reads as: of what can be read of a type (DataW.trod) values follow that stand for its cells (Rd). No condition but each lemma's own premises.
-/
import Derived.Test.YtogfkdpgkloljaaDoorVM11
import Derived.Test.YtogfkdpgkloljaaDoorVM6
import Derived.Deep.Slices
import Derived.OpenShut
import GoSem.ClaimWide
import Derived.ChangeArms
import Derived.DataReads
import Derived.SizedLaws
set_option linter.unusedVariables false
set_option linter.unusedSimpArgs false
set_option maxRecDepth 100000
namespace Go.Proofs.YtogfkdpgkloljaaDoorVs
/-- the state of a Reader of b whose place is p (none: something was wrong) -/
def rsAt (b : List Int) : Option Nat → RS
  | none => ([], true)
  | some k => (b.drop k, false)
def atV : Option Nat → Int
  | none => -1
  | some k => k
def InP (b : List Int) (p : Option Nat) : Prop := ∀ k, p = some k → k ≤ b.length
def nmS (b : List Int) (p : Option Nat) (lo hi : Int) : Int × Option Nat := match p with
  | none => (0, none)
  | some k => match getS (b.drop k) with
    | some (n, j) => if n < lo ∨ hi < n then (0, none) else (n, some (k + j))
    | none => (0, none)
theorem getS_le {l : List Int} {m : Int} {k : Nat} (h : getS l = some (m, k)) : k ≤ l.length := (gtS_ok (l := l) h (by simp)).1
theorem nmS_in {b : List Int} {p : Option Nat} (hp : InP b p) (lo hi : Int) : InP b (nmS b p lo hi).2 := by
  intro k h
  unfold nmS at h
  cases p with
  | none => cases h
  | some q =>
    have hq := hp q rfl
    simp only at h
    cases hg : getS (b.drop q) with
    | none => rw [hg] at h; cases h
    | some x =>
      obtain ⟨n, j⟩ := x
      have := getS_le hg
      simp only [List.length_drop] at this
      rw [hg] at h
      simp only at h
      by_cases c : n < lo ∨ hi < n
      · rw [if_pos c] at h; cases h
      · rw [if_neg c] at h
        obtain rfl := Option.some.inj h
        omega
theorem rInt_at (b : List Int) (p : Option Nat) (lo hi : Int) : rInt (rsAt b p) lo hi = ((nmS b p lo hi).1, rsAt b (nmS b p lo hi).2) := by
  unfold rInt nmS
  cases p with
  | none => simp [rsAt]
  | some q =>
    simp only [rsAt, Bool.false_eq_true, if_false]
    cases hg : getS (b.drop q) with
    | none => rfl
    | some x =>
      obtain ⟨n, j⟩ := x
      simp only
      split
      · rfl
      · simp [List.drop_drop]
structure BOK (b : List Int) : Prop where
  len : b.length ≤ 1000000
  byt : ∀ x ∈ b, 0 ≤ x ∧ x < 256
theorem BOK.rs {b : List Int} (h : BOK b) (p : Option Nat) : RsOK (rsAt b p) ∧ (rsAt b p).1.length ≤ 1000000 := by
  cases p with
  | none => exact ⟨RsOK.nil _, by simp [rsAt]⟩
  | some q =>
    have := h.len
    exact ⟨⟨by simp [rsAt]; omega, fun x hx => h.byt x (List.mem_of_mem_drop hx)⟩, by simp [rsAt]; omega⟩
theorem s31 (b : List Int) (hb : BOK b) (p : Option Nat) (hp : InP b p) (lo hi : Int) : Fix T 31 0 [[u8s b], [.int .i64 (atV p)], [.int .i64 lo], [.int .i64 hi]] = some [[.int .i64 (nmS b p lo hi).1], [.int .i64 (atV (nmS b p lo hi).2)]] := by
  refine e31_0 0 ?_
  have hlen := hb.len
  cases p with
  | none =>
    have h1 : ((-1 : Int) < 0) = True := by simp
    simp only [F31_0, atV, nmS, h1, o_add, o_sub, o_mul, o_quo, o_rem, o_and, o_or, o_eql, o_neq, o_lss, o_leq, o_gtr, o_geq, o_shl, o_shr, o_seql, o_sneq, o_beql, o_bneq, o_ieql, o_ineq, o_neql, o_nneq, o_not, o_neg, o_notv, o_pickT, o_pickF, o_pick, o_conv, o_len, o_lens, o_idxN, o_eix, o_ldiI, o_ldiI0, o_slcL, o_slcH, o_app, o_mk1, o_ifc, o_str, o_byt, c_int, c_bool, c_str, c_list, c_agg, c_iface, c_nilI, c_unit2, c_unit, c_true, i_te, g_T, g_F, g_u, b_norm, b_exitN, b_exitI, Nat.one_ne_zero, Nat.zero_ne_one, Nat.reduceEqDiff, b_ret, b_none, b_ite, a_0, a_1, a_2, a_3, a_4, a_5, a_6, a_7, a_8, a_9, a_10, a_11, a_12, a_13, a_14, a_15, a_16, a_17, a_18, a_19, a_20, a_21, a_22, a_23, a_24, f_c0, f_c1, f_c2, f_c3, f_c4, f_c5, f_c6, f_c7, f_c8, f_c9, f_c10, f_c11, f_c12, f_c13, f_c14, f_c15, f_c16, p_nil, p_cons, pk_of, Option.bind_some, Option.bind_none, List.getElem?_cons_zero, List.getElem?_cons_succ, decide_eq_true_eq, if_true, if_false, Bool.not_eq_true', Bool.false_eq_true, Bool.true_eq_false, reduceCtorEq, ne_eq, not_false_eq_true, not_true_eq_false, decide_true, decide_false, Int.toNat_natCast, Int.natCast_zero, Bool.not_true, Bool.not_false]
  | some q =>
    have hq := hp q rfl
    have h38 := s38 (b.drop q) (by simp; omega) (fun x hx => hb.byt x (List.mem_of_mem_drop hx))
    have hn := nmS_in hp lo hi
    unfold nmS at hn ⊢
    simp only at hn ⊢
    have h1 : ((q : Int) < 0) = False := eq_false (by omega)
    have hS := fun (f : V → TR) => o_slcN1 (Φ := Fix T) (e := 5) (xs := b.map (V.int .u8)) (c := q) (f := f) (by simp; omega)
    have et : ((b.map (V.int .u8)).drop q) = ((b.drop q).map (V.int .u8)) := by simp
    unfold u8s at h38 ⊢
    cases hg : getS (b.drop q) with
    | none =>
      rw [hg] at h38
      have h2 : ((2 : Int) = 0) = False := by simp
      simp only [gtR] at h38
      simp only [F31_0, atV, h1, h2, hS, et, h38, o_add, o_sub, o_mul, o_quo, o_rem, o_and, o_or, o_eql, o_neq, o_lss, o_leq, o_gtr, o_geq, o_shl, o_shr, o_seql, o_sneq, o_beql, o_bneq, o_ieql, o_ineq, o_neql, o_nneq, o_not, o_neg, o_notv, o_pickT, o_pickF, o_pick, o_conv, o_len, o_lens, o_idxN, o_eix, o_ldiI, o_ldiI0, o_slcL, o_slcH, o_app, o_mk1, o_ifc, o_str, o_byt, c_int, c_bool, c_str, c_list, c_agg, c_iface, c_nilI, c_unit2, c_unit, c_true, i_te, g_T, g_F, g_u, b_norm, b_exitN, b_exitI, Nat.one_ne_zero, Nat.zero_ne_one, Nat.reduceEqDiff, b_ret, b_none, b_ite, a_0, a_1, a_2, a_3, a_4, a_5, a_6, a_7, a_8, a_9, a_10, a_11, a_12, a_13, a_14, a_15, a_16, a_17, a_18, a_19, a_20, a_21, a_22, a_23, a_24, f_c0, f_c1, f_c2, f_c3, f_c4, f_c5, f_c6, f_c7, f_c8, f_c9, f_c10, f_c11, f_c12, f_c13, f_c14, f_c15, f_c16, p_nil, p_cons, pk_of, Option.bind_some, Option.bind_none, List.getElem?_cons_zero, List.getElem?_cons_succ, decide_eq_true_eq, if_true, if_false, Bool.not_eq_true', Bool.false_eq_true, Bool.true_eq_false, reduceCtorEq, ne_eq, not_false_eq_true, not_true_eq_false, decide_true, decide_false, Int.toNat_natCast, Int.natCast_zero, Bool.not_true, Bool.not_false]
    | some x =>
      obtain ⟨n, j⟩ := x
      rw [hg] at h38 hn
      simp only [gtR] at h38 hn
      by_cases c1 : n < lo
      · have b1 := eq_true c1
        simp only [F31_0, atV, h1, hS, et, h38, b1, true_or, o_add, o_sub, o_mul, o_quo, o_rem, o_and, o_or, o_eql, o_neq, o_lss, o_leq, o_gtr, o_geq, o_shl, o_shr, o_seql, o_sneq, o_beql, o_bneq, o_ieql, o_ineq, o_neql, o_nneq, o_not, o_neg, o_notv, o_pickT, o_pickF, o_pick, o_conv, o_len, o_lens, o_idxN, o_eix, o_ldiI, o_ldiI0, o_slcL, o_slcH, o_app, o_mk1, o_ifc, o_str, o_byt, c_int, c_bool, c_str, c_list, c_agg, c_iface, c_nilI, c_unit2, c_unit, c_true, i_te, g_T, g_F, g_u, b_norm, b_exitN, b_exitI, Nat.one_ne_zero, Nat.zero_ne_one, Nat.reduceEqDiff, b_ret, b_none, b_ite, a_0, a_1, a_2, a_3, a_4, a_5, a_6, a_7, a_8, a_9, a_10, a_11, a_12, a_13, a_14, a_15, a_16, a_17, a_18, a_19, a_20, a_21, a_22, a_23, a_24, f_c0, f_c1, f_c2, f_c3, f_c4, f_c5, f_c6, f_c7, f_c8, f_c9, f_c10, f_c11, f_c12, f_c13, f_c14, f_c15, f_c16, p_nil, p_cons, pk_of, Option.bind_some, Option.bind_none, List.getElem?_cons_zero, List.getElem?_cons_succ, decide_eq_true_eq, if_true, if_false, Bool.not_eq_true', Bool.false_eq_true, Bool.true_eq_false, reduceCtorEq, ne_eq, not_false_eq_true, not_true_eq_false, decide_true, decide_false, Int.toNat_natCast, Int.natCast_zero, Bool.not_true, Bool.not_false]
      · have b1 := eq_false c1
        by_cases c2 : hi < n
        · have b2 := eq_true c2
          simp only [F31_0, atV, h1, hS, et, h38, b1, b2, or_true, o_add, o_sub, o_mul, o_quo, o_rem, o_and, o_or, o_eql, o_neq, o_lss, o_leq, o_gtr, o_geq, o_shl, o_shr, o_seql, o_sneq, o_beql, o_bneq, o_ieql, o_ineq, o_neql, o_nneq, o_not, o_neg, o_notv, o_pickT, o_pickF, o_pick, o_conv, o_len, o_lens, o_idxN, o_eix, o_ldiI, o_ldiI0, o_slcL, o_slcH, o_app, o_mk1, o_ifc, o_str, o_byt, c_int, c_bool, c_str, c_list, c_agg, c_iface, c_nilI, c_unit2, c_unit, c_true, i_te, g_T, g_F, g_u, b_norm, b_exitN, b_exitI, Nat.one_ne_zero, Nat.zero_ne_one, Nat.reduceEqDiff, b_ret, b_none, b_ite, a_0, a_1, a_2, a_3, a_4, a_5, a_6, a_7, a_8, a_9, a_10, a_11, a_12, a_13, a_14, a_15, a_16, a_17, a_18, a_19, a_20, a_21, a_22, a_23, a_24, f_c0, f_c1, f_c2, f_c3, f_c4, f_c5, f_c6, f_c7, f_c8, f_c9, f_c10, f_c11, f_c12, f_c13, f_c14, f_c15, f_c16, p_nil, p_cons, pk_of, Option.bind_some, Option.bind_none, List.getElem?_cons_zero, List.getElem?_cons_succ, decide_eq_true_eq, if_true, if_false, Bool.not_eq_true', Bool.false_eq_true, Bool.true_eq_false, reduceCtorEq, ne_eq, not_false_eq_true, not_true_eq_false, decide_true, decide_false, Int.toNat_natCast, Int.natCast_zero, Bool.not_true, Bool.not_false]
        · have b2 := eq_false c2
          rw [if_neg (by omega)] at hn
          have hj := hn (q + j) rfl
          have hw : IntKind.i64.wrap ((q : Int) + j) = ((q + j : Nat) : Int) := by rw [w_i64 (by omega)]; omega
          simp only [F31_0, atV, h1, hS, et, h38, b1, b2, hw, or_self, o_add, o_sub, o_mul, o_quo, o_rem, o_and, o_or, o_eql, o_neq, o_lss, o_leq, o_gtr, o_geq, o_shl, o_shr, o_seql, o_sneq, o_beql, o_bneq, o_ieql, o_ineq, o_neql, o_nneq, o_not, o_neg, o_notv, o_pickT, o_pickF, o_pick, o_conv, o_len, o_lens, o_idxN, o_eix, o_ldiI, o_ldiI0, o_slcL, o_slcH, o_app, o_mk1, o_ifc, o_str, o_byt, c_int, c_bool, c_str, c_list, c_agg, c_iface, c_nilI, c_unit2, c_unit, c_true, i_te, g_T, g_F, g_u, b_norm, b_exitN, b_exitI, Nat.one_ne_zero, Nat.zero_ne_one, Nat.reduceEqDiff, b_ret, b_none, b_ite, a_0, a_1, a_2, a_3, a_4, a_5, a_6, a_7, a_8, a_9, a_10, a_11, a_12, a_13, a_14, a_15, a_16, a_17, a_18, a_19, a_20, a_21, a_22, a_23, a_24, f_c0, f_c1, f_c2, f_c3, f_c4, f_c5, f_c6, f_c7, f_c8, f_c9, f_c10, f_c11, f_c12, f_c13, f_c14, f_c15, f_c16, p_nil, p_cons, pk_of, Option.bind_some, Option.bind_none, List.getElem?_cons_zero, List.getElem?_cons_succ, decide_eq_true_eq, if_true, if_false, Bool.not_eq_true', Bool.false_eq_true, Bool.true_eq_false, reduceCtorEq, ne_eq, not_false_eq_true, not_true_eq_false, decide_true, decide_false, Int.toNat_natCast, Int.natCast_zero, Bool.not_true, Bool.not_false]
def tkL (b : List Int) (lo hi : Int) : Nat → Option Nat → List Int × Option Nat
  | 0, p => ([], p)
  | _ + 1, none => ([], none)
  | k + 1, some q => ((nmS b (some q) lo hi).1 :: (tkL b lo hi k (nmS b (some q) lo hi).2).1, (tkL b lo hi k (nmS b (some q) lo hi).2).2)
theorem tkL_in {b : List Int} (lo hi : Int) : ∀ (d : Nat) {p : Option Nat}, InP b p → InP b (tkL b lo hi d p).2
  | 0, p, h => h
  | _ + 1, none, h => h
  | k + 1, some q, h => tkL_in lo hi k (nmS_in h lo hi)
theorem rLoop_bad (lo hi : Int) : ∀ d, (rLoop lo hi d ([], true)).2 = ([], true)
  | 0 => rfl
  | d + 1 => by
    have e : rInt ([], true) lo hi = (0, ([], true)) := rfl
    simp only [rLoop, e]
    exact rLoop_bad lo hi d
theorem rLoop_at (b : List Int) (lo hi : Int) : ∀ (d : Nat) (p : Option Nat), (rLoop lo hi d (rsAt b p)).2 = rsAt b (tkL b lo hi d p).2 ∧ ((tkL b lo hi d p).2 ≠ none → (rLoop lo hi d (rsAt b p)).1 = (tkL b lo hi d p).1)
  | 0, p => ⟨rfl, fun _ => rfl⟩
  | d + 1, none => ⟨rLoop_bad lo hi (d + 1), fun h => absurd rfl h⟩
  | d + 1, some q => by
    have h1 := rInt_at b (some q) lo hi
    obtain ⟨h2, h3⟩ := rLoop_at b lo hi d (nmS b (some q) lo hi).2
    simp only [rLoop, tkL, h1]
    exact ⟨h2, fun h => by rw [h3 h]⟩
def tkS (b : List Int) (p : Option Nat) (f : Fld) : Fld × Option Nat :=
  if f.k = 0 then (⟨f.k, (nmS b p f.lo f.hi).1, [], ⟨#[]⟩, 0, 0, 0⟩, (nmS b p f.lo f.hi).2)
  else match (nmS b p 0 f.many).2 with
    | none => (⟨f.k, 0, [], ⟨#[]⟩, 0, 0, 0⟩, none)
    | some q => if (b.length : Int) - q < (nmS b p 0 f.many).1 then (⟨f.k, 0, [], ⟨#[]⟩, 0, 0, 0⟩, none)
      else if f.k = 1 then match (tkL b f.lo f.hi (nmS b p 0 f.many).1.toNat (some q)).2 with
        | none => (⟨f.k, 0, [], ⟨#[]⟩, 0, 0, 0⟩, none)
        | some z => (⟨f.k, 0, (tkL b f.lo f.hi (nmS b p 0 f.many).1.toNat (some q)).1, ⟨#[]⟩, 0, 0, 0⟩, some z)
      else (⟨f.k, 0, [], strOfNums ((b.drop q).take (nmS b p 0 f.many).1.toNat), 0, 0, 0⟩, some (q + (nmS b p 0 f.many).1.toNat))
theorem nmS_pos {b : List Int} {p : Option Nat} {many : Int} {q : Nat} (h : (nmS b p 0 many).2 = some q) : 0 ≤ (nmS b p 0 many).1 := by
  unfold nmS at h ⊢
  cases p with
  | none => cases h
  | some k =>
    simp only at h ⊢
    cases hg : getS (b.drop k) with
    | none => simp
    | some x =>
      obtain ⟨n, j⟩ := x
      simp only
      split
      · simp
      · omega
theorem tkS_in {b : List Int} {p : Option Nat} (hp : InP b p) (f : Fld) : InP b (tkS b p f).2 := by
  unfold tkS
  by_cases hk : f.k = 0
  · rw [if_pos hk]
    exact nmS_in hp _ _
  · rw [if_neg hk]
    have h1 := nmS_in hp 0 f.many
    cases hq : (nmS b p 0 f.many).2 with
    | none => intro k h; cases h
    | some q =>
      have h0 := nmS_pos hq
      have hq2 := h1 q hq
      simp only
      by_cases h4 : (b.length : Int) - q < (nmS b p 0 f.many).1
      · rw [if_pos h4]; intro k h; cases h
      · rw [if_neg h4]
        by_cases hk1 : f.k = 1
        · rw [if_pos hk1]
          have h3 := tkL_in f.lo f.hi (nmS b p 0 f.many).1.toNat (p := some q) (fun k hk => by obtain rfl := Option.some.inj hk; exact hq2)
          cases hz : (tkL b f.lo f.hi (nmS b p 0 f.many).1.toNat (some q)).2 with
          | none => intro k h; cases h
          | some z =>
            intro k h
            obtain rfl := Option.some.inj h
            exact h3 z hz
        · rw [if_neg hk1]
          intro k h
          obtain rfl := Option.some.inj h
          omega
theorem rField_at (b : List Int) (p : Option Nat) (hp : InP b p) (f : Fld) : rField (rsAt b p) f = ((tkS b p f).1, rsAt b (tkS b p f).2) := by
  unfold rField tkS
  by_cases hk : f.k = 0
  · rw [if_pos hk, if_pos hk, rInt_at]
  · rw [if_neg hk, if_neg hk]
    have hc : rCount (rsAt b p) f.many = match (nmS b p 0 f.many).2 with
      | none => (0, ([], true))
      | some q => if (b.length : Int) - q < (nmS b p 0 f.many).1 then (0, ([], true)) else ((nmS b p 0 f.many).1, (b.drop q, false)) := by
      unfold rCount
      rw [rInt_at]
      have hin := nmS_in hp 0 f.many
      cases hq : (nmS b p 0 f.many).2 with
      | none => simp [rsAt]
      | some q =>
        have := hin q hq
        simp only [rsAt, Bool.false_eq_true, false_or, List.length_drop]
        have e : (((b.length - q : Nat) : Int) < (nmS b p 0 f.many).1) = ((b.length : Int) - q < (nmS b p 0 f.many).1) := by rw [Int.ofNat_sub this]
        simp only [e]
    by_cases hk1 : f.k = 1
    · rw [if_pos hk1]
      unfold rInts
      rw [hc]
      cases hq : (nmS b p 0 f.many).2 with
      | none =>
        simp [rLoop]
        rfl
      | some q =>
        simp only
        by_cases h4 : (b.length : Int) - q < (nmS b p 0 f.many).1
        · simp only [if_pos h4]
          simp [rLoop]
          rfl
        · simp only [if_neg h4, if_pos hk1]
          obtain ⟨h5, h6⟩ := rLoop_at b f.lo f.hi (nmS b p 0 f.many).1.toNat (some q)
          simp only [rsAt] at h5 h6
          rw [h5]
          cases hz : (tkL b f.lo f.hi (nmS b p 0 f.many).1.toNat (some q)).2 with
          | none => simp [rsAt]
          | some z =>
            have h7 := h6 (by rw [hz]; exact Option.some_ne_none z)
            simp only [rsAt, Bool.false_eq_true, if_false]
            rw [hz] at h5
            simp only [rsAt] at h5
            rw [show rLoop f.lo f.hi (nmS b p 0 f.many).1.toNat (b.drop q, false) = ((tkL b f.lo f.hi (nmS b p 0 f.many).1.toNat (some q)).1, (b.drop z, false)) from Prod.ext h7 h5]
    · rw [if_neg hk1]
      unfold rText
      rw [hc]
      cases hq : (nmS b p 0 f.many).2 with
      | none => simp [rsAt]
      | some q =>
        simp only
        by_cases h4 : (b.length : Int) - q < (nmS b p 0 f.many).1
        · simp [if_pos h4, rsAt]
        · simp only [if_neg h4, if_neg hk1, Bool.false_eq_true, if_false, rsAt, List.drop_drop]
theorem s18_loop (n : Nat) (b : List Int) (hb : BOK b) (k : Int) (lo hi : Int) (N : Nat) (hN : N ≤ 1000000) : ∀ (d i fuel : Nat) (p : Option Nat) (out : List Int), i + d = N → d < fuel → InP b p → out.length = i →
    ∃ x, lpV [1, 1, 7, 1] (F18_0_b0 (Fix T) n (u8s b) (.int .i64 lo) (.int .i64 hi) (.int .i64 N)) fuel [.int .i64 (atV p), i64s out, .int .u8 k, .int .i64 0, .unit, .str ⟨#[]⟩, .int .i64 0, .int .i64 0, .int .i64 0, .int .i64 i] =
      some (.exit 0 [1, 1, 7, 1] [.int .i64 (atV (tkL b lo hi d p).2), x, .int .u8 k, .int .i64 0, .unit, .str ⟨#[]⟩, .int .i64 0, .int .i64 0, .int .i64 0, i64s (out ++ (tkL b lo hi d p).1)]) := by
  intro d
  induction d with
  | zero =>
    intro i fuel p out hd hf hp ho
    obtain ⟨fuel, rfl⟩ : ∃ m, fuel = m + 1 := ⟨fuel - 1, by omega⟩
    obtain rfl : i = N := by omega
    have h1 : ((i : Int) < i) = False := eq_false (by omega)
    exact ⟨.int .i64 i, by rw [lp_exit (j := 0) (l' := [1, 1, 7, 1]) (vs' := [.int .i64 (atV p), .int .i64 i, .int .u8 k, .int .i64 0, .unit, .str ⟨#[]⟩, .int .i64 0, .int .i64 0, .int .i64 0, i64s out]) (by simp only [F18_0_b0, i64s, u8s, h1, o_add, o_sub, o_mul, o_quo, o_rem, o_and, o_or, o_eql, o_neq, o_lss, o_leq, o_gtr, o_geq, o_shl, o_shr, o_seql, o_sneq, o_beql, o_bneq, o_ieql, o_ineq, o_neql, o_nneq, o_not, o_neg, o_notv, o_pickT, o_pickF, o_pick, o_conv, o_len, o_lens, o_idxN, o_eix, o_ldiI, o_ldiI0, o_slcL, o_slcH, o_app, o_mk1, o_ifc, o_str, o_byt, c_int, c_bool, c_str, c_list, c_agg, c_iface, c_nilI, c_unit2, c_unit, c_true, i_te, g_T, g_F, g_u, b_norm, b_exitN, b_exitI, Nat.one_ne_zero, Nat.zero_ne_one, Nat.reduceEqDiff, b_ret, b_none, b_ite, a_0, a_1, a_2, a_3, a_4, a_5, a_6, a_7, a_8, a_9, a_10, a_11, a_12, a_13, a_14, a_15, a_16, a_17, a_18, a_19, a_20, a_21, a_22, a_23, a_24, f_c0, f_c1, f_c2, f_c3, f_c4, f_c5, f_c6, f_c7, f_c8, f_c9, f_c10, f_c11, f_c12, f_c13, f_c14, f_c15, f_c16, p_nil, p_cons, pk_of, Option.bind_some, Option.bind_none, List.getElem?_cons_zero, List.getElem?_cons_succ, decide_eq_true_eq, if_true, if_false, Bool.not_eq_true', Bool.false_eq_true, Bool.true_eq_false, reduceCtorEq, ne_eq, not_false_eq_true, not_true_eq_false, decide_true, decide_false, Int.toNat_natCast, Int.natCast_zero, Bool.not_true, Bool.not_false])]; simp [tkL]⟩
  | succ d ih =>
    intro i fuel p out hd hf hp ho
    obtain ⟨fuel, rfl⟩ : ∃ m, fuel = m + 1 := ⟨fuel - 1, by omega⟩
    have h1 : ((i : Int) < N) = True := eq_true (by omega)
    cases p with
    | none =>
      have h2 : ((0 : Int) ≤ -1) = False := by simp
      exact ⟨.int .i64 i, by rw [lp_exit (j := 0) (l' := [1, 1, 7, 1]) (vs' := [.int .i64 (-1), .int .i64 i, .int .u8 k, .int .i64 0, .unit, .str ⟨#[]⟩, .int .i64 0, .int .i64 0, .int .i64 0, i64s out]) (by simp only [F18_0_b0, i64s, u8s, atV, h1, h2, o_add, o_sub, o_mul, o_quo, o_rem, o_and, o_or, o_eql, o_neq, o_lss, o_leq, o_gtr, o_geq, o_shl, o_shr, o_seql, o_sneq, o_beql, o_bneq, o_ieql, o_ineq, o_neql, o_nneq, o_not, o_neg, o_notv, o_pickT, o_pickF, o_pick, o_conv, o_len, o_lens, o_idxN, o_eix, o_ldiI, o_ldiI0, o_slcL, o_slcH, o_app, o_mk1, o_ifc, o_str, o_byt, c_int, c_bool, c_str, c_list, c_agg, c_iface, c_nilI, c_unit2, c_unit, c_true, i_te, g_T, g_F, g_u, b_norm, b_exitN, b_exitI, Nat.one_ne_zero, Nat.zero_ne_one, Nat.reduceEqDiff, b_ret, b_none, b_ite, a_0, a_1, a_2, a_3, a_4, a_5, a_6, a_7, a_8, a_9, a_10, a_11, a_12, a_13, a_14, a_15, a_16, a_17, a_18, a_19, a_20, a_21, a_22, a_23, a_24, f_c0, f_c1, f_c2, f_c3, f_c4, f_c5, f_c6, f_c7, f_c8, f_c9, f_c10, f_c11, f_c12, f_c13, f_c14, f_c15, f_c16, p_nil, p_cons, pk_of, Option.bind_some, Option.bind_none, List.getElem?_cons_zero, List.getElem?_cons_succ, decide_eq_true_eq, if_true, if_false, Bool.not_eq_true', Bool.false_eq_true, Bool.true_eq_false, reduceCtorEq, ne_eq, not_false_eq_true, not_true_eq_false, decide_true, decide_false, Int.toNat_natCast, Int.natCast_zero, Bool.not_true, Bool.not_false])]; simp [tkL, atV]⟩
    | some q =>
      have h2 : ((0 : Int) ≤ (q : Int)) = True := eq_true (by omega)
      have h31 := s31 b hb (some q) hp lo hi
      have hin := nmS_in hp lo hi
      simp only [tkL]
      generalize nmS b (some q) lo hi = r at *
      obtain ⟨m, p'⟩ := r
      simp only at h31 hin
      have ea : out.map (V.int .i64) ++ [V.int .i64 m] = (out ++ [m]).map (V.int .i64) := by simp
      have hsz : (out.length + 1) * 8 ≤ 140737488355328 := by omega
      obtain ⟨x, hx⟩ := ih (i + 1) fuel p' (out ++ [m]) (by omega) (by omega) hin (by simp; omega)
      refine ⟨x, ?_⟩
      have e0 : atV (some q) = (q : Int) := rfl
      rw [e0] at h31
      unfold u8s at h31
      rw [lp_norm (vs' := [.int .i64 (atV p'), i64s (out ++ [m]), .int .u8 k, .int .i64 0, .unit, .str ⟨#[]⟩, .int .i64 0, .int .i64 0, .int .i64 0, .int .i64 ((i + 1 : Nat) : Int)]) (by simp only [F18_0_b0, i64s, u8s, e0, h1, h2, h31, ea, hsz, w_succ (show i < 4611686018427387904 by omega), List.length_map, List.length_singleton, List.length_cons, List.length_nil, Nat.zero_add, and_self, false_implies, o_add, o_sub, o_mul, o_quo, o_rem, o_and, o_or, o_eql, o_neq, o_lss, o_leq, o_gtr, o_geq, o_shl, o_shr, o_seql, o_sneq, o_beql, o_bneq, o_ieql, o_ineq, o_neql, o_nneq, o_not, o_neg, o_notv, o_pickT, o_pickF, o_pick, o_conv, o_len, o_lens, o_idxN, o_eix, o_ldiI, o_ldiI0, o_slcL, o_slcH, o_app, o_mk1, o_ifc, o_str, o_byt, c_int, c_bool, c_str, c_list, c_agg, c_iface, c_nilI, c_unit2, c_unit, c_true, i_te, g_T, g_F, g_u, b_norm, b_exitN, b_exitI, Nat.one_ne_zero, Nat.zero_ne_one, Nat.reduceEqDiff, b_ret, b_none, b_ite, a_0, a_1, a_2, a_3, a_4, a_5, a_6, a_7, a_8, a_9, a_10, a_11, a_12, a_13, a_14, a_15, a_16, a_17, a_18, a_19, a_20, a_21, a_22, a_23, a_24, f_c0, f_c1, f_c2, f_c3, f_c4, f_c5, f_c6, f_c7, f_c8, f_c9, f_c10, f_c11, f_c12, f_c13, f_c14, f_c15, f_c16, p_nil, p_cons, pk_of, Option.bind_some, Option.bind_none, List.getElem?_cons_zero, List.getElem?_cons_succ, decide_eq_true_eq, if_true, if_false, Bool.not_eq_true', Bool.false_eq_true, Bool.true_eq_false, reduceCtorEq, ne_eq, not_false_eq_true, not_true_eq_false, decide_true, decide_false, Int.toNat_natCast, Int.natCast_zero, Bool.not_true, Bool.not_false])]
      rw [hx]
      simp
theorem o_slcN2 {Φ : Funs} {e : TypeId} {xs : List V} {a c : Nat} {f : V → TR} (h : a ≤ c) (h2 : c ≤ xs.length) : op1V Φ (.slc e true true) [[.list e xs], [.int .i64 (a : Int)], [.int .i64 (c : Int)]] f = f (.list e ((xs.take c).drop a)) := by
  have h3 : (0 : Int) ≤ (a : Int) ∧ (a : Int) ≤ (c : Int) ∧ (c : Int) ≤ (xs.length : Int) := by omega
  simp only [op1V, VF.sem, true_and, if_pos h3, Int.toNat_natCast]
  rfl
theorem s18 (b : List Int) (hb : BOK b) (p : Option Nat) (hp : InP b p) (f : Fld) : Fix T 18 0 [[u8s b], [.int .i64 (atV p)], f.vs] = some [(tkS b p f).1.vs, [.int .i64 (atV (tkS b p f).2)]] := by
  obtain ⟨k, n, l, t, many, lo, hi⟩ := f
  refine e18_0 1000001 ?_
  have hlen := hb.len
  have h31a := s31 b hb p hp lo hi
  have h31b := s31 b hb p hp 0 many
  have hin := nmS_in hp 0 many
  have hpos := fun q => nmS_pos (b := b) (p := p) (many := many) (q := q)
  unfold tkS
  dsimp only
  by_cases hk : k = 0
  · subst hk
    simp only [if_true]
    generalize nmS b p lo hi = q at *
    obtain ⟨m, p'⟩ := q
    simp only [Fld.vs_eq, i64s, u8s] at *
    simp only [F18_0, h31a, List.map_nil, o_add, o_sub, o_mul, o_quo, o_rem, o_and, o_or, o_eql, o_neq, o_lss, o_leq, o_gtr, o_geq, o_shl, o_shr, o_seql, o_sneq, o_beql, o_bneq, o_ieql, o_ineq, o_neql, o_nneq, o_not, o_neg, o_notv, o_pickT, o_pickF, o_pick, o_conv, o_len, o_lens, o_idxN, o_eix, o_ldiI, o_ldiI0, o_slcL, o_slcH, o_app, o_mk1, o_ifc, o_str, o_byt, c_int, c_bool, c_str, c_list, c_agg, c_iface, c_nilI, c_unit2, c_unit, c_true, i_te, g_T, g_F, g_u, b_norm, b_exitN, b_exitI, Nat.one_ne_zero, Nat.zero_ne_one, Nat.reduceEqDiff, b_ret, b_none, b_ite, a_0, a_1, a_2, a_3, a_4, a_5, a_6, a_7, a_8, a_9, a_10, a_11, a_12, a_13, a_14, a_15, a_16, a_17, a_18, a_19, a_20, a_21, a_22, a_23, a_24, f_c0, f_c1, f_c2, f_c3, f_c4, f_c5, f_c6, f_c7, f_c8, f_c9, f_c10, f_c11, f_c12, f_c13, f_c14, f_c15, f_c16, p_nil, p_cons, pk_of, Option.bind_some, Option.bind_none, List.getElem?_cons_zero, List.getElem?_cons_succ, decide_eq_true_eq, if_true, if_false, Bool.not_eq_true', Bool.false_eq_true, Bool.true_eq_false, reduceCtorEq, ne_eq, not_false_eq_true, not_true_eq_false, decide_true, decide_false, Int.toNat_natCast, Int.natCast_zero, Bool.not_true, Bool.not_false]
  · have bk := eq_false hk
    simp only [bk, if_false]
    generalize nmS b p 0 many = q at *
    obtain ⟨m, p'⟩ := q
    simp only at hin hpos h31b ⊢
    cases p' with
    | none =>
      have h1 : ((-1 : Int) < 0) = True := by simp
      simp only [Fld.vs_eq, i64s, u8s, atV] at *
      simp only [F18_0, h31b, bk, h1, List.map_nil, o_add, o_sub, o_mul, o_quo, o_rem, o_and, o_or, o_eql, o_neq, o_lss, o_leq, o_gtr, o_geq, o_shl, o_shr, o_seql, o_sneq, o_beql, o_bneq, o_ieql, o_ineq, o_neql, o_nneq, o_not, o_neg, o_notv, o_pickT, o_pickF, o_pick, o_conv, o_len, o_lens, o_idxN, o_eix, o_ldiI, o_ldiI0, o_slcL, o_slcH, o_app, o_mk1, o_ifc, o_str, o_byt, c_int, c_bool, c_str, c_list, c_agg, c_iface, c_nilI, c_unit2, c_unit, c_true, i_te, g_T, g_F, g_u, b_norm, b_exitN, b_exitI, Nat.one_ne_zero, Nat.zero_ne_one, Nat.reduceEqDiff, b_ret, b_none, b_ite, a_0, a_1, a_2, a_3, a_4, a_5, a_6, a_7, a_8, a_9, a_10, a_11, a_12, a_13, a_14, a_15, a_16, a_17, a_18, a_19, a_20, a_21, a_22, a_23, a_24, f_c0, f_c1, f_c2, f_c3, f_c4, f_c5, f_c6, f_c7, f_c8, f_c9, f_c10, f_c11, f_c12, f_c13, f_c14, f_c15, f_c16, p_nil, p_cons, pk_of, Option.bind_some, Option.bind_none, List.getElem?_cons_zero, List.getElem?_cons_succ, decide_eq_true_eq, if_true, if_false, Bool.not_eq_true', Bool.false_eq_true, Bool.true_eq_false, reduceCtorEq, ne_eq, not_false_eq_true, not_true_eq_false, decide_true, decide_false, Int.toNat_natCast, Int.natCast_zero, Bool.not_true, Bool.not_false]
    | some q =>
      have hq := hin q rfl
      have hm0 := hpos q rfl
      have h1 : ((q : Int) < 0) = False := eq_false (by omega)
      have hw : IntKind.i64.wrap ((b.length : Int) - q) = (b.length : Int) - q := w_i64 (by omega)
      have e0 : atV (some q) = (q : Int) := rfl
      simp only
      by_cases h4 : (b.length : Int) - q < m
      · have b4 := eq_true h4
        simp only [b4, if_true]
        simp only [Fld.vs_eq, i64s, u8s, atV] at *
        simp only [F18_0, h31b, bk, h1, hw, b4, List.length_map, List.map_nil, o_add, o_sub, o_mul, o_quo, o_rem, o_and, o_or, o_eql, o_neq, o_lss, o_leq, o_gtr, o_geq, o_shl, o_shr, o_seql, o_sneq, o_beql, o_bneq, o_ieql, o_ineq, o_neql, o_nneq, o_not, o_neg, o_notv, o_pickT, o_pickF, o_pick, o_conv, o_len, o_lens, o_idxN, o_eix, o_ldiI, o_ldiI0, o_slcL, o_slcH, o_app, o_mk1, o_ifc, o_str, o_byt, c_int, c_bool, c_str, c_list, c_agg, c_iface, c_nilI, c_unit2, c_unit, c_true, i_te, g_T, g_F, g_u, b_norm, b_exitN, b_exitI, Nat.one_ne_zero, Nat.zero_ne_one, Nat.reduceEqDiff, b_ret, b_none, b_ite, a_0, a_1, a_2, a_3, a_4, a_5, a_6, a_7, a_8, a_9, a_10, a_11, a_12, a_13, a_14, a_15, a_16, a_17, a_18, a_19, a_20, a_21, a_22, a_23, a_24, f_c0, f_c1, f_c2, f_c3, f_c4, f_c5, f_c6, f_c7, f_c8, f_c9, f_c10, f_c11, f_c12, f_c13, f_c14, f_c15, f_c16, p_nil, p_cons, pk_of, Option.bind_some, Option.bind_none, List.getElem?_cons_zero, List.getElem?_cons_succ, decide_eq_true_eq, if_true, if_false, Bool.not_eq_true', Bool.false_eq_true, Bool.true_eq_false, reduceCtorEq, ne_eq, not_false_eq_true, not_true_eq_false, decide_true, decide_false, Int.toNat_natCast, Int.natCast_zero, Bool.not_true, Bool.not_false]
      · have b4 := eq_false h4
        simp only [b4, if_false]
        obtain ⟨N, rfl⟩ := Int.eq_ofNat_of_zero_le hm0
        by_cases hk1 : k = 1
        · have bk1 := eq_true hk1
          simp only [bk1, if_true, Int.toNat_natCast]
          obtain ⟨x, hx⟩ := s18_loop 1000001 b hb k lo hi N (by omega) N 0 1000001 (some q) [] (by omega) (by omega) hin rfl
          generalize tkL b lo hi N (some q) = z at *
          obtain ⟨zl, zp⟩ := z
          simp only [List.nil_append] at hx
          simp only
          cases zp with
          | none =>
            have h5 : ((-1 : Int) < 0) = True := by simp
            have em : atV none = -1 := rfl
            simp only [Fld.vs_eq, i64s, u8s, e0, em, List.map_nil, Int.natCast_zero] at hx h31b ⊢
            simp only [F18_0, h31b, bk, bk1, h1, hw, b4, hx, h5, List.length_map, List.map_nil, o_add, o_sub, o_mul, o_quo, o_rem, o_and, o_or, o_eql, o_neq, o_lss, o_leq, o_gtr, o_geq, o_shl, o_shr, o_seql, o_sneq, o_beql, o_bneq, o_ieql, o_ineq, o_neql, o_nneq, o_not, o_neg, o_notv, o_pickT, o_pickF, o_pick, o_conv, o_len, o_lens, o_idxN, o_eix, o_ldiI, o_ldiI0, o_slcL, o_slcH, o_app, o_mk1, o_ifc, o_str, o_byt, c_int, c_bool, c_str, c_list, c_agg, c_iface, c_nilI, c_unit2, c_unit, c_true, i_te, g_T, g_F, g_u, b_norm, b_exitN, b_exitI, Nat.one_ne_zero, Nat.zero_ne_one, Nat.reduceEqDiff, b_ret, b_none, b_ite, a_0, a_1, a_2, a_3, a_4, a_5, a_6, a_7, a_8, a_9, a_10, a_11, a_12, a_13, a_14, a_15, a_16, a_17, a_18, a_19, a_20, a_21, a_22, a_23, a_24, f_c0, f_c1, f_c2, f_c3, f_c4, f_c5, f_c6, f_c7, f_c8, f_c9, f_c10, f_c11, f_c12, f_c13, f_c14, f_c15, f_c16, p_nil, p_cons, pk_of, Option.bind_some, Option.bind_none, List.getElem?_cons_zero, List.getElem?_cons_succ, decide_eq_true_eq, if_true, if_false, Bool.not_eq_true', Bool.false_eq_true, Bool.true_eq_false, reduceCtorEq, ne_eq, not_false_eq_true, not_true_eq_false, decide_true, decide_false, Int.toNat_natCast, Int.natCast_zero, Bool.not_true, Bool.not_false]
          | some z =>
            have h5 : ((z : Int) < 0) = False := eq_false (by omega)
            have em : atV (some z) = (z : Int) := rfl
            simp only [Fld.vs_eq, i64s, u8s, e0, em, List.map_nil, Int.natCast_zero] at hx h31b ⊢
            simp only [F18_0, h31b, bk, bk1, h1, hw, b4, hx, h5, List.length_map, List.map_nil, o_add, o_sub, o_mul, o_quo, o_rem, o_and, o_or, o_eql, o_neq, o_lss, o_leq, o_gtr, o_geq, o_shl, o_shr, o_seql, o_sneq, o_beql, o_bneq, o_ieql, o_ineq, o_neql, o_nneq, o_not, o_neg, o_notv, o_pickT, o_pickF, o_pick, o_conv, o_len, o_lens, o_idxN, o_eix, o_ldiI, o_ldiI0, o_slcL, o_slcH, o_app, o_mk1, o_ifc, o_str, o_byt, c_int, c_bool, c_str, c_list, c_agg, c_iface, c_nilI, c_unit2, c_unit, c_true, i_te, g_T, g_F, g_u, b_norm, b_exitN, b_exitI, Nat.one_ne_zero, Nat.zero_ne_one, Nat.reduceEqDiff, b_ret, b_none, b_ite, a_0, a_1, a_2, a_3, a_4, a_5, a_6, a_7, a_8, a_9, a_10, a_11, a_12, a_13, a_14, a_15, a_16, a_17, a_18, a_19, a_20, a_21, a_22, a_23, a_24, f_c0, f_c1, f_c2, f_c3, f_c4, f_c5, f_c6, f_c7, f_c8, f_c9, f_c10, f_c11, f_c12, f_c13, f_c14, f_c15, f_c16, p_nil, p_cons, pk_of, Option.bind_some, Option.bind_none, List.getElem?_cons_zero, List.getElem?_cons_succ, decide_eq_true_eq, if_true, if_false, Bool.not_eq_true', Bool.false_eq_true, Bool.true_eq_false, reduceCtorEq, ne_eq, not_false_eq_true, not_true_eq_false, decide_true, decide_false, Int.toNat_natCast, Int.natCast_zero, Bool.not_true, Bool.not_false]
        · have bk1 := eq_false hk1
          simp only [bk1, if_false, Int.toNat_natCast]
          have hw2 : IntKind.i64.wrap ((q : Int) + N) = ((q + N : Nat) : Int) := by rw [w_i64 (by omega)]; omega
          have hS := fun (f : V → TR) => o_slcN2 (Φ := Fix T) (e := 5) (xs := b.map (V.int .u8)) (a := q) (c := q + N) (f := f) (by omega) (by simp; omega)
          have et : ((b.map (V.int .u8)).take (q + N)).drop q = (((b.drop q).take N).map (V.int .u8)) := by
            rw [← List.map_take, ← List.map_drop, List.drop_take, Nat.add_sub_cancel_left]
          simp only [Fld.vs_eq, i64s, u8s, atV] at *
          simp only [F18_0, h31b, bk, bk1, h1, hw, hw2, b4, hS, et, List.length_map, List.map_nil, o_add, o_sub, o_mul, o_quo, o_rem, o_and, o_or, o_eql, o_neq, o_lss, o_leq, o_gtr, o_geq, o_shl, o_shr, o_seql, o_sneq, o_beql, o_bneq, o_ieql, o_ineq, o_neql, o_nneq, o_not, o_neg, o_notv, o_pickT, o_pickF, o_pick, o_conv, o_len, o_lens, o_idxN, o_eix, o_ldiI, o_ldiI0, o_slcL, o_slcH, o_app, o_mk1, o_ifc, o_str, o_byt, c_int, c_bool, c_str, c_list, c_agg, c_iface, c_nilI, c_unit2, c_unit, c_true, i_te, g_T, g_F, g_u, b_norm, b_exitN, b_exitI, Nat.one_ne_zero, Nat.zero_ne_one, Nat.reduceEqDiff, b_ret, b_none, b_ite, a_0, a_1, a_2, a_3, a_4, a_5, a_6, a_7, a_8, a_9, a_10, a_11, a_12, a_13, a_14, a_15, a_16, a_17, a_18, a_19, a_20, a_21, a_22, a_23, a_24, f_c0, f_c1, f_c2, f_c3, f_c4, f_c5, f_c6, f_c7, f_c8, f_c9, f_c10, f_c11, f_c12, f_c13, f_c14, f_c15, f_c16, p_nil, p_cons, pk_of, Option.bind_some, Option.bind_none, List.getElem?_cons_zero, List.getElem?_cons_succ, decide_eq_true_eq, if_true, if_false, Bool.not_eq_true', Bool.false_eq_true, Bool.true_eq_false, reduceCtorEq, ne_eq, not_false_eq_true, not_true_eq_false, decide_true, decide_false, Int.toNat_natCast, Int.natCast_zero, Bool.not_true, Bool.not_false]
end Go.Proofs.YtogfkdpgkloljaaDoorVs
set_option linter.unusedVariables false
set_option linter.unusedSimpArgs false
set_option maxRecDepth 100000
namespace Go.Proofs.YtogfkdpgkloljaaDoorVs
def stF (b acc : List Int) (p : Option Nat) (i : Nat) : List V := [.unit, u8s acc, .unit, u8s acc, .int .i64 (atV p), .unit, .bool (rsAt b p).2, u8s (rsAt b p).1, .bool false, .int .i64 i]
theorem doneAt (b : List Int) (p : Option Nat) (hp : InP b p) : (atV p = b.length ∧ doneV (rsAt b p) = .nilI) ∨ (atV p ≠ b.length ∧ doneV (rsAt b p) = .iface 62 (.int .i64 2)) := by
  cases p with
  | none => exact .inr ⟨by simp only [atV]; omega, by simp [doneV, rsAt]⟩
  | some q =>
    have hq := hp q rfl
    by_cases h : q = b.length
    · exact .inl ⟨by simp [atV, h], by simp [doneV, rsAt, h]⟩
    · refine .inr ⟨by simp only [atV]; omega, ?_⟩
      have : b.drop q ≠ [] := fun e => by
        have := congrArg List.length e
        simp at this; omega
      simp [doneV, rsAt, this]
theorem s3_step (n : Nat) (l : List Fld) (b : List Int) (hb : BOK b) (hs : ∀ f ∈ l, f.Sm) (hl : l.length ≤ 20) (i : Nat) (hi : i < l.length) (acc : List Int) (hacc : acc.length ≤ 1000 * i) (p : Option Nat) (hp : InP b p) :
    F3_0_b0 (Fix T) n (flds l) (u8s b) (.bool true) (stF b acc p i) = some (.norm [1, 1, 1, 1, 1, 2, 1, 1, 1] (stF b (acc ++ l[i].enc) (tkS b p l[i]).2 (i + 1))) := by
  have b1 : ((i : Int) < l.length) = True := eq_true (by omega)
  have ea : (l.map fun f => V.agg f.vs)[i]? = some (.agg l[i].vs) := by simp [hi]
  have hf := hs l[i] (List.getElem_mem hi)
  have he := hf.enc_len
  have hfl := hf.l
  have hfs := hf.s
  have h6 := s6 acc l[i] hf.ok (by omega)
  have h17 := s17 acc l[i] hf.ok (by omega)
  have h18 := s18 b hb p hp l[i]
  obtain ⟨hr1, hr2⟩ := hb.rs p
  have h20 := s20 (rsAt b p) l[i] hr1 hr2
  rw [rField_at b p hp l[i]] at h20
  have hin := tkS_in hp l[i]
  have hk := rField_at b p hp l[i]
  have hlen2 : (tkS b p l[i]).1.l.length < 2 ^ 62 := by
    have h1 : (rField (rsAt b p) l[i]).1.l.length ≤ 1000000 := by
      unfold rField
      split
      · simp
      · split
        · simp only
          unfold rInts
          have hc := rCount_bnd (rsAt b p) l[i].many
          split
          · simp
          · have hrl : ∀ (lo hi : Int) (d : Nat) (s : RS), (rLoop lo hi d s).1.length = d := fun lo hi d => by
              induction d with
              | zero => intro s; rfl
              | succ d ih => intro s; simp [rLoop, ih]
            rw [hrl]
            omega
        · simp
    rw [hk] at h1
    simp only at h1
    omega
  have h19 := s19 (tkS b p l[i]).1 (tkS b p l[i]).1 hlen2
  have h8 := s8 (acc ++ l[i].enc) (by simp; omega)
  have h13 := s13 (rsAt b (tkS b p l[i]).2)
  have h12 := s12 2
  have hd := doneAt b _ hin
  have ws := w_succ (show i < 4611686018427387904 by omega)
  unfold stF
  generalize tkS b p l[i] = z at *
  obtain ⟨g, p'⟩ := z
  dsimp only at *
  generalize rsAt b p' = s' at *
  obtain ⟨s1, s2⟩ := s'
  generalize rsAt b p = s0 at *
  obtain ⟨t1, t2⟩ := s0
  simp only [and_self, decide_true, Bool.true_and, beq_self_eq_true] at h19
  generalize l[i] = f at *
  simp only [rsV, Fld.vs_eq] at h6 h17 h18 h20 h19 h13
  unfold i64s u8s at *
  rcases hd with ⟨ha, hd⟩ | ⟨ha, hd⟩
  · rw [hd] at h13
    have b2 := eq_true ha
    simp only [F3_0_b0, flds, b1, b2, ea, o_ldi7, i64s, h6, h17, h18, h20, h19, h8, h13, h12, ws, beq_self_eq_true, Bool.not_true, List.length_map, o_add, o_sub, o_mul, o_quo, o_rem, o_and, o_or, o_eql, o_neq, o_lss, o_leq, o_gtr, o_geq, o_shl, o_shr, o_seql, o_sneq, o_beql, o_bneq, o_ieql, o_ineq, o_neql, o_nneq, o_not, o_neg, o_notv, o_pickT, o_pickF, o_pick, o_conv, o_len, o_lens, o_idxN, o_eix, o_ldiI, o_ldiI0, o_slcL, o_slcH, o_app, o_mk1, o_ifc, o_str, o_byt, c_int, c_bool, c_str, c_list, c_agg, c_iface, c_nilI, c_unit2, c_unit, c_true, i_te, g_T, g_F, g_u, b_norm, b_exitN, b_exitI, Nat.one_ne_zero, Nat.zero_ne_one, Nat.reduceEqDiff, b_ret, b_none, b_ite, a_0, a_1, a_2, a_3, a_4, a_5, a_6, a_7, a_8, a_9, a_10, a_11, a_12, a_13, a_14, a_15, a_16, a_17, a_18, a_19, a_20, a_21, a_22, a_23, a_24, f_c0, f_c1, f_c2, f_c3, f_c4, f_c5, f_c6, f_c7, f_c8, f_c9, f_c10, f_c11, f_c12, f_c13, f_c14, f_c15, f_c16, p_nil, p_cons, pk_of, Option.bind_some, Option.bind_none, List.getElem?_cons_zero, List.getElem?_cons_succ, decide_eq_true_eq, if_true, if_false, Bool.not_eq_true', Bool.false_eq_true, Bool.true_eq_false, reduceCtorEq, ne_eq, not_false_eq_true, not_true_eq_false, decide_true, decide_false, Int.toNat_natCast, Int.natCast_zero, Bool.not_true, Bool.not_false]
  · rw [hd] at h13
    have b2 := eq_false ha
    simp only [F3_0_b0, flds, b1, b2, ea, o_ldi7, i64s, h6, h17, h18, h20, h19, h8, h13, h12, ws, beq_self_eq_true, Bool.not_true, List.length_map, o_add, o_sub, o_mul, o_quo, o_rem, o_and, o_or, o_eql, o_neq, o_lss, o_leq, o_gtr, o_geq, o_shl, o_shr, o_seql, o_sneq, o_beql, o_bneq, o_ieql, o_ineq, o_neql, o_nneq, o_not, o_neg, o_notv, o_pickT, o_pickF, o_pick, o_conv, o_len, o_lens, o_idxN, o_eix, o_ldiI, o_ldiI0, o_slcL, o_slcH, o_app, o_mk1, o_ifc, o_str, o_byt, c_int, c_bool, c_str, c_list, c_agg, c_iface, c_nilI, c_unit2, c_unit, c_true, i_te, g_T, g_F, g_u, b_norm, b_exitN, b_exitI, Nat.one_ne_zero, Nat.zero_ne_one, Nat.reduceEqDiff, b_ret, b_none, b_ite, a_0, a_1, a_2, a_3, a_4, a_5, a_6, a_7, a_8, a_9, a_10, a_11, a_12, a_13, a_14, a_15, a_16, a_17, a_18, a_19, a_20, a_21, a_22, a_23, a_24, f_c0, f_c1, f_c2, f_c3, f_c4, f_c5, f_c6, f_c7, f_c8, f_c9, f_c10, f_c11, f_c12, f_c13, f_c14, f_c15, f_c16, p_nil, p_cons, pk_of, Option.bind_some, Option.bind_none, List.getElem?_cons_zero, List.getElem?_cons_succ, decide_eq_true_eq, if_true, if_false, Bool.not_eq_true', Bool.false_eq_true, Bool.true_eq_false, reduceCtorEq, ne_eq, not_false_eq_true, not_true_eq_false, decide_true, decide_false, Int.toNat_natCast, Int.natCast_zero, Bool.not_true, Bool.not_false]
theorem s3_loop (n : Nat) (l : List Fld) (b : List Int) (hb : BOK b) (hs : ∀ f ∈ l, f.Sm) (hl : l.length ≤ 20) : ∀ (d i fuel : Nat) (acc : List Int) (p : Option Nat), l.length - i = d → i ≤ l.length → d < fuel → acc.length ≤ 1000 * i → InP b p →
    ∃ vs, lpV [1, 1, 1, 1, 1, 2, 1, 1, 1] (F3_0_b0 (Fix T) n (flds l) (u8s b) (.bool true)) fuel (stF b acc p i) = some (.exit 0 [1, 1, 1, 1, 1, 1, 1, 2, 1] vs) ∧ vs.length = 10 := by
  intro d
  induction d with
  | zero =>
    intro i fuel acc p hd hi hf hacc hp
    obtain ⟨fuel, rfl⟩ : ∃ m, fuel = m + 1 := ⟨fuel - 1, by omega⟩
    obtain rfl : i = l.length := by omega
    have b1 : ((l.length : Int) < l.length) = False := eq_false (by omega)
    exact ⟨[.bool false, .unit, u8s acc, .int .i64 (atV p), .int .i64 l.length, .unit, u8s acc, .unit, .bool (rsAt b p).2, u8s (rsAt b p).1], by rw [lp_exit (j := 0) (l' := [1, 1, 1, 1, 1, 1, 1, 2, 1]) (vs' := [.bool false, .unit, u8s acc, .int .i64 (atV p), .int .i64 l.length, .unit, u8s acc, .unit, .bool (rsAt b p).2, u8s (rsAt b p).1]) (by simp only [stF, F3_0_b0, flds, u8s, b1, List.length_map, o_add, o_sub, o_mul, o_quo, o_rem, o_and, o_or, o_eql, o_neq, o_lss, o_leq, o_gtr, o_geq, o_shl, o_shr, o_seql, o_sneq, o_beql, o_bneq, o_ieql, o_ineq, o_neql, o_nneq, o_not, o_neg, o_notv, o_pickT, o_pickF, o_pick, o_conv, o_len, o_lens, o_idxN, o_eix, o_ldiI, o_ldiI0, o_slcL, o_slcH, o_app, o_mk1, o_ifc, o_str, o_byt, c_int, c_bool, c_str, c_list, c_agg, c_iface, c_nilI, c_unit2, c_unit, c_true, i_te, g_T, g_F, g_u, b_norm, b_exitN, b_exitI, Nat.one_ne_zero, Nat.zero_ne_one, Nat.reduceEqDiff, b_ret, b_none, b_ite, a_0, a_1, a_2, a_3, a_4, a_5, a_6, a_7, a_8, a_9, a_10, a_11, a_12, a_13, a_14, a_15, a_16, a_17, a_18, a_19, a_20, a_21, a_22, a_23, a_24, f_c0, f_c1, f_c2, f_c3, f_c4, f_c5, f_c6, f_c7, f_c8, f_c9, f_c10, f_c11, f_c12, f_c13, f_c14, f_c15, f_c16, p_nil, p_cons, pk_of, Option.bind_some, Option.bind_none, List.getElem?_cons_zero, List.getElem?_cons_succ, decide_eq_true_eq, if_true, if_false, Bool.not_eq_true', Bool.false_eq_true, Bool.true_eq_false, reduceCtorEq, ne_eq, not_false_eq_true, not_true_eq_false, decide_true, decide_false, Int.toNat_natCast, Int.natCast_zero, Bool.not_true, Bool.not_false])], rfl⟩
  | succ d ih =>
    intro i fuel acc p hd hi hf hacc hp
    obtain ⟨fuel, rfl⟩ : ∃ m, fuel = m + 1 := ⟨fuel - 1, by omega⟩
    have hlt : i < l.length := by omega
    rw [lp_norm (s3_step n l b hb hs hl i hlt acc hacc p hp)]
    have he := (hs l[i] (List.getElem_mem hlt)).enc_len
    exact ih (i + 1) fuel _ _ (by omega) (by omega) (by omega) (by simp; omega) (tkS_in hp _)
theorem w6 : Fix T 6 1 [[], [.int .u8 0, .int .i64 0, .list 3 [], .str ⟨#[]⟩, .int .i64 0, .int .i64 0, .int .i64 0]] = some [] := closed 60 (by kernel_rfl)
theorem w7 : Fix T 7 1 [[], [.str ⟨#[120]⟩]] = some [] := closed 60 (by kernel_rfl)
theorem w8 : Fix T 8 1 [[]] = some [[.list 5 []]] := closed 60 (by kernel_rfl)
theorem w9 : Fix T 9 1 [[], [.int .i64 0], [.int .i64 9]] = some [[.int .i64 0]] := closed 60 (by kernel_rfl)
theorem w10 : Fix T 10 1 [[], [.int .i64 3], [.int .i64 0], [.int .i64 3]] = some [[.list 3 []]] := closed 60 (by kernel_rfl)
theorem w11 : Fix T 11 1 [[], [.int .i64 3]] = some [[.str ⟨#[]⟩]] := closed 60 (by kernel_rfl)
theorem w25 : Fix T 25 1 [[]] = some [[.bool false]] := closed 60 (by kernel_rfl)
theorem w13 : Fix T 13 1 [[]] = some [[.iface 62 (.int .i64 2)]] := by
  refine e13_1 0 ?_
  have h := w25
  simp only [F13_1, h, o_add, o_sub, o_mul, o_quo, o_rem, o_and, o_or, o_eql, o_neq, o_lss, o_leq, o_gtr, o_geq, o_shl, o_shr, o_seql, o_sneq, o_beql, o_bneq, o_ieql, o_ineq, o_neql, o_nneq, o_not, o_neg, o_notv, o_pickT, o_pickF, o_pick, o_conv, o_len, o_lens, o_idxN, o_eix, o_ldiI, o_ldiI0, o_slcL, o_slcH, o_app, o_mk1, o_ifc, o_str, o_byt, c_int, c_bool, c_str, c_list, c_agg, c_iface, c_nilI, c_unit2, c_unit, c_true, i_te, g_T, g_F, g_u, b_norm, b_exitN, b_exitI, Nat.one_ne_zero, Nat.zero_ne_one, Nat.reduceEqDiff, b_ret, b_none, b_ite, a_0, a_1, a_2, a_3, a_4, a_5, a_6, a_7, a_8, a_9, a_10, a_11, a_12, a_13, a_14, a_15, a_16, a_17, a_18, a_19, a_20, a_21, a_22, a_23, a_24, f_c0, f_c1, f_c2, f_c3, f_c4, f_c5, f_c6, f_c7, f_c8, f_c9, f_c10, f_c11, f_c12, f_c13, f_c14, f_c15, f_c16, p_nil, p_cons, pk_of, Option.bind_some, Option.bind_none, List.getElem?_cons_zero, List.getElem?_cons_succ, decide_eq_true_eq, if_true, if_false, Bool.not_eq_true', Bool.false_eq_true, Bool.true_eq_false, reduceCtorEq, ne_eq, not_false_eq_true, not_true_eq_false, decide_true, decide_false, Int.toNat_natCast, Int.natCast_zero, Bool.not_true, Bool.not_false]
theorem c6 (k : TR) : callV (Fix T) 6 1 [[], [(.int .u8 0), (.int .i64 0), (.list 3 []), (.str ⟨#[]⟩), (.int .i64 0), (.int .i64 0), (.int .i64 0)]] 0 [] k = k := by simp only [w6, o_add, o_sub, o_mul, o_quo, o_rem, o_and, o_or, o_eql, o_neq, o_lss, o_leq, o_gtr, o_geq, o_shl, o_shr, o_seql, o_sneq, o_beql, o_bneq, o_ieql, o_ineq, o_neql, o_nneq, o_not, o_neg, o_notv, o_pickT, o_pickF, o_pick, o_conv, o_len, o_lens, o_idxN, o_eix, o_ldiI, o_ldiI0, o_slcL, o_slcH, o_app, o_mk1, o_ifc, o_str, o_byt, c_int, c_bool, c_str, c_list, c_agg, c_iface, c_nilI, c_unit2, c_unit, c_true, i_te, g_T, g_F, g_u, b_norm, b_exitN, b_exitI, Nat.one_ne_zero, Nat.zero_ne_one, Nat.reduceEqDiff, b_ret, b_none, b_ite, a_0, a_1, a_2, a_3, a_4, a_5, a_6, a_7, a_8, a_9, a_10, a_11, a_12, a_13, a_14, a_15, a_16, a_17, a_18, a_19, a_20, a_21, a_22, a_23, a_24, f_c0, f_c1, f_c2, f_c3, f_c4, f_c5, f_c6, f_c7, f_c8, f_c9, f_c10, f_c11, f_c12, f_c13, f_c14, f_c15, f_c16, p_nil, p_cons, pk_of, Option.bind_some, Option.bind_none, List.getElem?_cons_zero, List.getElem?_cons_succ, decide_eq_true_eq, if_true, if_false, Bool.not_eq_true', Bool.false_eq_true, Bool.true_eq_false, reduceCtorEq, ne_eq, not_false_eq_true, not_true_eq_false, decide_true, decide_false, Int.toNat_natCast, Int.natCast_zero, Bool.not_true, Bool.not_false]
theorem c7 (k : TR) : callV (Fix T) 7 1 [[], [(.str ⟨#[120]⟩)]] 0 [] k = k := by simp only [w7, o_add, o_sub, o_mul, o_quo, o_rem, o_and, o_or, o_eql, o_neq, o_lss, o_leq, o_gtr, o_geq, o_shl, o_shr, o_seql, o_sneq, o_beql, o_bneq, o_ieql, o_ineq, o_neql, o_nneq, o_not, o_neg, o_notv, o_pickT, o_pickF, o_pick, o_conv, o_len, o_lens, o_idxN, o_eix, o_ldiI, o_ldiI0, o_slcL, o_slcH, o_app, o_mk1, o_ifc, o_str, o_byt, c_int, c_bool, c_str, c_list, c_agg, c_iface, c_nilI, c_unit2, c_unit, c_true, i_te, g_T, g_F, g_u, b_norm, b_exitN, b_exitI, Nat.one_ne_zero, Nat.zero_ne_one, Nat.reduceEqDiff, b_ret, b_none, b_ite, a_0, a_1, a_2, a_3, a_4, a_5, a_6, a_7, a_8, a_9, a_10, a_11, a_12, a_13, a_14, a_15, a_16, a_17, a_18, a_19, a_20, a_21, a_22, a_23, a_24, f_c0, f_c1, f_c2, f_c3, f_c4, f_c5, f_c6, f_c7, f_c8, f_c9, f_c10, f_c11, f_c12, f_c13, f_c14, f_c15, f_c16, p_nil, p_cons, pk_of, Option.bind_some, Option.bind_none, List.getElem?_cons_zero, List.getElem?_cons_succ, decide_eq_true_eq, if_true, if_false, Bool.not_eq_true', Bool.false_eq_true, Bool.true_eq_false, reduceCtorEq, ne_eq, not_false_eq_true, not_true_eq_false, decide_true, decide_false, Int.toNat_natCast, Int.natCast_zero, Bool.not_true, Bool.not_false]
theorem c8 (k : V → TR) : callV (Fix T) 8 1 [[]] 1 [(0, 0)] k = k (.list 5 []) := by simp only [w8, o_add, o_sub, o_mul, o_quo, o_rem, o_and, o_or, o_eql, o_neq, o_lss, o_leq, o_gtr, o_geq, o_shl, o_shr, o_seql, o_sneq, o_beql, o_bneq, o_ieql, o_ineq, o_neql, o_nneq, o_not, o_neg, o_notv, o_pickT, o_pickF, o_pick, o_conv, o_len, o_lens, o_idxN, o_eix, o_ldiI, o_ldiI0, o_slcL, o_slcH, o_app, o_mk1, o_ifc, o_str, o_byt, c_int, c_bool, c_str, c_list, c_agg, c_iface, c_nilI, c_unit2, c_unit, c_true, i_te, g_T, g_F, g_u, b_norm, b_exitN, b_exitI, Nat.one_ne_zero, Nat.zero_ne_one, Nat.reduceEqDiff, b_ret, b_none, b_ite, a_0, a_1, a_2, a_3, a_4, a_5, a_6, a_7, a_8, a_9, a_10, a_11, a_12, a_13, a_14, a_15, a_16, a_17, a_18, a_19, a_20, a_21, a_22, a_23, a_24, f_c0, f_c1, f_c2, f_c3, f_c4, f_c5, f_c6, f_c7, f_c8, f_c9, f_c10, f_c11, f_c12, f_c13, f_c14, f_c15, f_c16, p_nil, p_cons, pk_of, Option.bind_some, Option.bind_none, List.getElem?_cons_zero, List.getElem?_cons_succ, decide_eq_true_eq, if_true, if_false, Bool.not_eq_true', Bool.false_eq_true, Bool.true_eq_false, reduceCtorEq, ne_eq, not_false_eq_true, not_true_eq_false, decide_true, decide_false, Int.toNat_natCast, Int.natCast_zero, Bool.not_true, Bool.not_false]
theorem c9 (k : V → TR) : callV (Fix T) 9 1 [[], [(.int .i64 0)], [(.int .i64 9)]] 1 [(0, 0)] k = k (.int .i64 0) := by simp only [w9, o_add, o_sub, o_mul, o_quo, o_rem, o_and, o_or, o_eql, o_neq, o_lss, o_leq, o_gtr, o_geq, o_shl, o_shr, o_seql, o_sneq, o_beql, o_bneq, o_ieql, o_ineq, o_neql, o_nneq, o_not, o_neg, o_notv, o_pickT, o_pickF, o_pick, o_conv, o_len, o_lens, o_idxN, o_eix, o_ldiI, o_ldiI0, o_slcL, o_slcH, o_app, o_mk1, o_ifc, o_str, o_byt, c_int, c_bool, c_str, c_list, c_agg, c_iface, c_nilI, c_unit2, c_unit, c_true, i_te, g_T, g_F, g_u, b_norm, b_exitN, b_exitI, Nat.one_ne_zero, Nat.zero_ne_one, Nat.reduceEqDiff, b_ret, b_none, b_ite, a_0, a_1, a_2, a_3, a_4, a_5, a_6, a_7, a_8, a_9, a_10, a_11, a_12, a_13, a_14, a_15, a_16, a_17, a_18, a_19, a_20, a_21, a_22, a_23, a_24, f_c0, f_c1, f_c2, f_c3, f_c4, f_c5, f_c6, f_c7, f_c8, f_c9, f_c10, f_c11, f_c12, f_c13, f_c14, f_c15, f_c16, p_nil, p_cons, pk_of, Option.bind_some, Option.bind_none, List.getElem?_cons_zero, List.getElem?_cons_succ, decide_eq_true_eq, if_true, if_false, Bool.not_eq_true', Bool.false_eq_true, Bool.true_eq_false, reduceCtorEq, ne_eq, not_false_eq_true, not_true_eq_false, decide_true, decide_false, Int.toNat_natCast, Int.natCast_zero, Bool.not_true, Bool.not_false]
theorem c10 (k : V → TR) : callV (Fix T) 10 1 [[], [(.int .i64 3)], [(.int .i64 0)], [(.int .i64 3)]] 1 [(0, 0)] k = k (.list 3 []) := by simp only [w10, o_add, o_sub, o_mul, o_quo, o_rem, o_and, o_or, o_eql, o_neq, o_lss, o_leq, o_gtr, o_geq, o_shl, o_shr, o_seql, o_sneq, o_beql, o_bneq, o_ieql, o_ineq, o_neql, o_nneq, o_not, o_neg, o_notv, o_pickT, o_pickF, o_pick, o_conv, o_len, o_lens, o_idxN, o_eix, o_ldiI, o_ldiI0, o_slcL, o_slcH, o_app, o_mk1, o_ifc, o_str, o_byt, c_int, c_bool, c_str, c_list, c_agg, c_iface, c_nilI, c_unit2, c_unit, c_true, i_te, g_T, g_F, g_u, b_norm, b_exitN, b_exitI, Nat.one_ne_zero, Nat.zero_ne_one, Nat.reduceEqDiff, b_ret, b_none, b_ite, a_0, a_1, a_2, a_3, a_4, a_5, a_6, a_7, a_8, a_9, a_10, a_11, a_12, a_13, a_14, a_15, a_16, a_17, a_18, a_19, a_20, a_21, a_22, a_23, a_24, f_c0, f_c1, f_c2, f_c3, f_c4, f_c5, f_c6, f_c7, f_c8, f_c9, f_c10, f_c11, f_c12, f_c13, f_c14, f_c15, f_c16, p_nil, p_cons, pk_of, Option.bind_some, Option.bind_none, List.getElem?_cons_zero, List.getElem?_cons_succ, decide_eq_true_eq, if_true, if_false, Bool.not_eq_true', Bool.false_eq_true, Bool.true_eq_false, reduceCtorEq, ne_eq, not_false_eq_true, not_true_eq_false, decide_true, decide_false, Int.toNat_natCast, Int.natCast_zero, Bool.not_true, Bool.not_false]
theorem c11 (k : V → TR) : callV (Fix T) 11 1 [[], [(.int .i64 3)]] 1 [(0, 0)] k = k (.str ⟨#[]⟩) := by simp only [w11, o_add, o_sub, o_mul, o_quo, o_rem, o_and, o_or, o_eql, o_neq, o_lss, o_leq, o_gtr, o_geq, o_shl, o_shr, o_seql, o_sneq, o_beql, o_bneq, o_ieql, o_ineq, o_neql, o_nneq, o_not, o_neg, o_notv, o_pickT, o_pickF, o_pick, o_conv, o_len, o_lens, o_idxN, o_eix, o_ldiI, o_ldiI0, o_slcL, o_slcH, o_app, o_mk1, o_ifc, o_str, o_byt, c_int, c_bool, c_str, c_list, c_agg, c_iface, c_nilI, c_unit2, c_unit, c_true, i_te, g_T, g_F, g_u, b_norm, b_exitN, b_exitI, Nat.one_ne_zero, Nat.zero_ne_one, Nat.reduceEqDiff, b_ret, b_none, b_ite, a_0, a_1, a_2, a_3, a_4, a_5, a_6, a_7, a_8, a_9, a_10, a_11, a_12, a_13, a_14, a_15, a_16, a_17, a_18, a_19, a_20, a_21, a_22, a_23, a_24, f_c0, f_c1, f_c2, f_c3, f_c4, f_c5, f_c6, f_c7, f_c8, f_c9, f_c10, f_c11, f_c12, f_c13, f_c14, f_c15, f_c16, p_nil, p_cons, pk_of, Option.bind_some, Option.bind_none, List.getElem?_cons_zero, List.getElem?_cons_succ, decide_eq_true_eq, if_true, if_false, Bool.not_eq_true', Bool.false_eq_true, Bool.true_eq_false, reduceCtorEq, ne_eq, not_false_eq_true, not_true_eq_false, decide_true, decide_false, Int.toNat_natCast, Int.natCast_zero, Bool.not_true, Bool.not_false]
theorem c13 (k : V → TR) : callV (Fix T) 13 1 [[]] 1 [(0, 0)] k = k (.iface 62 (.int .i64 2)) := by simp only [w13, o_add, o_sub, o_mul, o_quo, o_rem, o_and, o_or, o_eql, o_neq, o_lss, o_leq, o_gtr, o_geq, o_shl, o_shr, o_seql, o_sneq, o_beql, o_bneq, o_ieql, o_ineq, o_neql, o_nneq, o_not, o_neg, o_notv, o_pickT, o_pickF, o_pick, o_conv, o_len, o_lens, o_idxN, o_eix, o_ldiI, o_ldiI0, o_slcL, o_slcH, o_app, o_mk1, o_ifc, o_str, o_byt, c_int, c_bool, c_str, c_list, c_agg, c_iface, c_nilI, c_unit2, c_unit, c_true, i_te, g_T, g_F, g_u, b_norm, b_exitN, b_exitI, Nat.one_ne_zero, Nat.zero_ne_one, Nat.reduceEqDiff, b_ret, b_none, b_ite, a_0, a_1, a_2, a_3, a_4, a_5, a_6, a_7, a_8, a_9, a_10, a_11, a_12, a_13, a_14, a_15, a_16, a_17, a_18, a_19, a_20, a_21, a_22, a_23, a_24, f_c0, f_c1, f_c2, f_c3, f_c4, f_c5, f_c6, f_c7, f_c8, f_c9, f_c10, f_c11, f_c12, f_c13, f_c14, f_c15, f_c16, p_nil, p_cons, pk_of, Option.bind_some, Option.bind_none, List.getElem?_cons_zero, List.getElem?_cons_succ, decide_eq_true_eq, if_true, if_false, Bool.not_eq_true', Bool.false_eq_true, Bool.true_eq_false, reduceCtorEq, ne_eq, not_false_eq_true, not_true_eq_false, decide_true, decide_false, Int.toNat_natCast, Int.natCast_zero, Bool.not_true, Bool.not_false]
theorem c12 (k : V → TR) : callV (Fix T) 12 0 [[.iface 62 (.int .i64 2)]] 1 [(0, 0)] k = k (.int .i64 2) := by
  have h := s12 2
  simp only [h, o_add, o_sub, o_mul, o_quo, o_rem, o_and, o_or, o_eql, o_neq, o_lss, o_leq, o_gtr, o_geq, o_shl, o_shr, o_seql, o_sneq, o_beql, o_bneq, o_ieql, o_ineq, o_neql, o_nneq, o_not, o_neg, o_notv, o_pickT, o_pickF, o_pick, o_conv, o_len, o_lens, o_idxN, o_eix, o_ldiI, o_ldiI0, o_slcL, o_slcH, o_app, o_mk1, o_ifc, o_str, o_byt, c_int, c_bool, c_str, c_list, c_agg, c_iface, c_nilI, c_unit2, c_unit, c_true, i_te, g_T, g_F, g_u, b_norm, b_exitN, b_exitI, Nat.one_ne_zero, Nat.zero_ne_one, Nat.reduceEqDiff, b_ret, b_none, b_ite, a_0, a_1, a_2, a_3, a_4, a_5, a_6, a_7, a_8, a_9, a_10, a_11, a_12, a_13, a_14, a_15, a_16, a_17, a_18, a_19, a_20, a_21, a_22, a_23, a_24, f_c0, f_c1, f_c2, f_c3, f_c4, f_c5, f_c6, f_c7, f_c8, f_c9, f_c10, f_c11, f_c12, f_c13, f_c14, f_c15, f_c16, p_nil, p_cons, pk_of, Option.bind_some, Option.bind_none, List.getElem?_cons_zero, List.getElem?_cons_succ, decide_eq_true_eq, if_true, if_false, Bool.not_eq_true', Bool.false_eq_true, Bool.true_eq_false, reduceCtorEq, ne_eq, not_false_eq_true, not_true_eq_false, decide_true, decide_false, Int.toNat_natCast, Int.natCast_zero, Bool.not_true, Bool.not_false]
theorem c14 (xs : List V) (t : Bool) (h : Fix T 14 0 [[.list 29 xs]] = some [[.bool t]]) (k : V → TR) : callV (Fix T) 14 0 [[.list 29 xs]] 1 [(0, 0)] k = k (.bool t) := by
  simp only [h, o_add, o_sub, o_mul, o_quo, o_rem, o_and, o_or, o_eql, o_neq, o_lss, o_leq, o_gtr, o_geq, o_shl, o_shr, o_seql, o_sneq, o_beql, o_bneq, o_ieql, o_ineq, o_neql, o_nneq, o_not, o_neg, o_notv, o_pickT, o_pickF, o_pick, o_conv, o_len, o_lens, o_idxN, o_eix, o_ldiI, o_ldiI0, o_slcL, o_slcH, o_app, o_mk1, o_ifc, o_str, o_byt, c_int, c_bool, c_str, c_list, c_agg, c_iface, c_nilI, c_unit2, c_unit, c_true, i_te, g_T, g_F, g_u, b_norm, b_exitN, b_exitI, Nat.one_ne_zero, Nat.zero_ne_one, Nat.reduceEqDiff, b_ret, b_none, b_ite, a_0, a_1, a_2, a_3, a_4, a_5, a_6, a_7, a_8, a_9, a_10, a_11, a_12, a_13, a_14, a_15, a_16, a_17, a_18, a_19, a_20, a_21, a_22, a_23, a_24, f_c0, f_c1, f_c2, f_c3, f_c4, f_c5, f_c6, f_c7, f_c8, f_c9, f_c10, f_c11, f_c12, f_c13, f_c14, f_c15, f_c16, p_nil, p_cons, pk_of, Option.bind_some, Option.bind_none, List.getElem?_cons_zero, List.getElem?_cons_succ, decide_eq_true_eq, if_true, if_false, Bool.not_eq_true', Bool.false_eq_true, Bool.true_eq_false, reduceCtorEq, ne_eq, not_false_eq_true, not_true_eq_false, decide_true, decide_false, Int.toNat_natCast, Int.natCast_zero, Bool.not_true, Bool.not_false]
theorem c15 (k : V → TR) : callV (Fix T) 15 0 [] 1 [(0, 0)] k = k (.bool true) := by simp only [sure_holds, o_add, o_sub, o_mul, o_quo, o_rem, o_and, o_or, o_eql, o_neq, o_lss, o_leq, o_gtr, o_geq, o_shl, o_shr, o_seql, o_sneq, o_beql, o_bneq, o_ieql, o_ineq, o_neql, o_nneq, o_not, o_neg, o_notv, o_pickT, o_pickF, o_pick, o_conv, o_len, o_lens, o_idxN, o_eix, o_ldiI, o_ldiI0, o_slcL, o_slcH, o_app, o_mk1, o_ifc, o_str, o_byt, c_int, c_bool, c_str, c_list, c_agg, c_iface, c_nilI, c_unit2, c_unit, c_true, i_te, g_T, g_F, g_u, b_norm, b_exitN, b_exitI, Nat.one_ne_zero, Nat.zero_ne_one, Nat.reduceEqDiff, b_ret, b_none, b_ite, a_0, a_1, a_2, a_3, a_4, a_5, a_6, a_7, a_8, a_9, a_10, a_11, a_12, a_13, a_14, a_15, a_16, a_17, a_18, a_19, a_20, a_21, a_22, a_23, a_24, f_c0, f_c1, f_c2, f_c3, f_c4, f_c5, f_c6, f_c7, f_c8, f_c9, f_c10, f_c11, f_c12, f_c13, f_c14, f_c15, f_c16, p_nil, p_cons, pk_of, Option.bind_some, Option.bind_none, List.getElem?_cons_zero, List.getElem?_cons_succ, decide_eq_true_eq, if_true, if_false, Bool.not_eq_true', Bool.false_eq_true, Bool.true_eq_false, reduceCtorEq, ne_eq, not_false_eq_true, not_true_eq_false, decide_true, decide_false, Int.toNat_natCast, Int.natCast_zero, Bool.not_true, Bool.not_false]
noncomputable def R3 (Φ : Funs) (n : Nat) (v0 v1 : V) : TR :=
  chkV 2 v0 <|
  callV Φ 14 0 [[v0]] 1 [(0, 0)] <| fun v13 => 
  blkV (none) [1] (gdV v13 false false (chkV 2 v1 <|
      op1V Φ (.len) [[v1]] fun v14 =>
      op1V Φ (.bin .gtr 0) [[v14], [(.int .i64 900)]] fun v15 =>
      some (.norm [1] [v15])) (some (.norm [1] [(.undef)]))) <| app 1 <| fun v14 => 
  op1V Φ (.pick) [[v13], [(.bool true)], [v14]] fun v15 =>
  iteV v15 (callV Φ 15 0 [] 1 [(0, 0)] <| fun v16 => 
    some (.ret [[v16]])) <|
  chkV 2 v1 <|
  callV Φ 16 0 [[v1]] 3 [(0, 0), (0, 2), (0, 1)] <| fun v16 v17 v18 => 
  blkV (some 0) [1, 1, 1, 1, 1, 1, 1, 2, 1] (lpV [1, 1, 1, 1, 1, 2, 1, 1, 1] (F3_0_b0 Φ n v0 v1 v16) n [(.unit), (.list 5 []), (.unit), (.list 5 []), (.int .i64 0), (.unit), v17, v18, (.bool false), (.int .i64 0)]) <| app 10 <| fun v19 v20 v21 v22 v23 v24 v25 v26 v27 v28 => 
  callV Φ 15 0 [] 1 [(0, 0)] <| fun v29 => 
  some (.ret [[v29]])
theorem pre3 (n : Nat) (v0 v1 : V) : F3_0 (Fix T) n v0 v1 = R3 (Fix T) n v0 v1 := by
  unfold F3_0
  rw [c6, c7, c8]
  simp only [c9, c10, c11, c13, c12, List.length_nil, beq_self_eq_true, Bool.not_true, o_add, o_sub, o_mul, o_quo, o_rem, o_and, o_or, o_eql, o_neq, o_lss, o_leq, o_gtr, o_geq, o_shl, o_shr, o_seql, o_sneq, o_beql, o_bneq, o_ieql, o_ineq, o_neql, o_nneq, o_not, o_neg, o_notv, o_pickT, o_pickF, o_pick, o_conv, o_len, o_lens, o_idxN, o_eix, o_ldiI, o_ldiI0, o_slcL, o_slcH, o_app, o_mk1, o_ifc, o_str, o_byt, c_int, c_bool, c_str, c_list, c_agg, c_iface, c_nilI, c_unit2, c_unit, c_true, i_te, g_T, g_F, g_u, b_norm, b_exitN, b_exitI, Nat.one_ne_zero, Nat.zero_ne_one, Nat.reduceEqDiff, b_ret, b_none, b_ite, a_0, a_1, a_2, a_3, a_4, a_5, a_6, a_7, a_8, a_9, a_10, a_11, a_12, a_13, a_14, a_15, a_16, a_17, a_18, a_19, a_20, a_21, a_22, a_23, a_24, Option.bind_some, Option.bind_none, List.getElem?_cons_zero, List.getElem?_cons_succ, decide_eq_true_eq, if_true, if_false, Bool.not_eq_true', Bool.false_eq_true, Bool.true_eq_false, reduceCtorEq, ne_eq, not_false_eq_true, not_true_eq_false, decide_true, decide_false, Int.toNat_natCast, Int.natCast_zero, Bool.not_true, Bool.not_false]
  rfl
theorem fields_r (l : List Fld) (b : List Int) (n : Nat) (h : R3 (Fix T) n (flds l) (u8s b) = some (.ret [[.bool true]])) : Fix T 3 0 [[flds l], [u8s b]] = some [[.bool true]] := by
  refine e3_0 n ?_
  rw [pre3]
  exact h
theorem PackFields_ok (l : List Fld) (b : List Int) (hok : ∀ f ∈ l, f.OK) (hl : l.length < 2 ^ 62) (hb : b.length ≤ 140737488351232) (hby : ∀ x ∈ b, 0 ≤ x ∧ x < 256) : Fix T 3 0 [[flds l], [u8s b]] = some [[.bool true]] := by
  have h14 := s14 l hl
  cases hg : gr l with
  | true =>
    rw [hg] at h14
    refine fields_r l b 0 ?_
    unfold flds at *
    have h14' := c14 _ _ h14
    unfold R3
    rw [c_list, h14']
    simp only [c15, o_add, o_sub, o_mul, o_quo, o_rem, o_and, o_or, o_eql, o_neq, o_lss, o_leq, o_gtr, o_geq, o_shl, o_shr, o_seql, o_sneq, o_beql, o_bneq, o_ieql, o_ineq, o_neql, o_nneq, o_not, o_neg, o_notv, o_pickT, o_pickF, o_pick, o_conv, o_len, o_lens, o_idxN, o_eix, o_ldiI, o_ldiI0, o_slcL, o_slcH, o_app, o_mk1, o_ifc, o_str, o_byt, c_int, c_bool, c_str, c_list, c_agg, c_iface, c_nilI, c_unit2, c_unit, c_true, i_te, g_T, g_F, g_u, b_norm, b_exitN, b_exitI, Nat.one_ne_zero, Nat.zero_ne_one, Nat.reduceEqDiff, b_ret, b_none, b_ite, a_0, a_1, a_2, a_3, a_4, a_5, a_6, a_7, a_8, a_9, a_10, a_11, a_12, a_13, a_14, a_15, a_16, a_17, a_18, a_19, a_20, a_21, a_22, a_23, a_24, Option.bind_some, Option.bind_none, List.getElem?_cons_zero, List.getElem?_cons_succ, decide_eq_true_eq, if_true, if_false, Bool.not_eq_true', Bool.false_eq_true, Bool.true_eq_false, reduceCtorEq, ne_eq, not_false_eq_true, not_true_eq_false, decide_true, decide_false, Int.toNat_natCast, Int.natCast_zero, Bool.not_true, Bool.not_false]
  | false =>
    rw [hg] at h14
    by_cases h9 : b.length ≤ 900
    · obtain ⟨hl20, hs⟩ := gr_sm hg hok
      have hB : BOK b := ⟨by omega, hby⟩
      have h16 := s16 b (by omega)
      have b9 : ((900 : Int) < b.length) = False := eq_false (by omega)
      obtain ⟨vs, hv, hvl⟩ := s3_loop 21 l b hB hs hl20 l.length 0 21 [] (some 0) (by omega) (by omega) (by omega) (by simp) (fun k hk => by obtain rfl := Option.some.inj hk; omega)
      refine fields_r l b 21 ?_
      match vs, hvl with
      | [a0, a1, a2, a3, a4, a5, a6, a7, a8, a9], _ =>
        simp only [stF, rsAt, List.drop_zero, atV, Int.natCast_zero] at hv
        unfold flds u8s at *
        simp only [List.map_nil] at hv
        have h14' := c14 _ _ h14
        have h16' : ∀ k : V → V → V → TR, callV (Fix T) 16 0 [[.list 5 (b.map (V.int .u8))]] 3 [(0, 0), (0, 2), (0, 1)] k = k (.bool true) (.bool false) (.list 5 (b.map (V.int .u8))) := fun k => by simp only [h16, o_add, o_sub, o_mul, o_quo, o_rem, o_and, o_or, o_eql, o_neq, o_lss, o_leq, o_gtr, o_geq, o_shl, o_shr, o_seql, o_sneq, o_beql, o_bneq, o_ieql, o_ineq, o_neql, o_nneq, o_not, o_neg, o_notv, o_pickT, o_pickF, o_pick, o_conv, o_len, o_lens, o_idxN, o_eix, o_ldiI, o_ldiI0, o_slcL, o_slcH, o_app, o_mk1, o_ifc, o_str, o_byt, c_int, c_bool, c_str, c_list, c_agg, c_iface, c_nilI, c_unit2, c_unit, c_true, i_te, g_T, g_F, g_u, b_norm, b_exitN, b_exitI, Nat.one_ne_zero, Nat.zero_ne_one, Nat.reduceEqDiff, b_ret, b_none, b_ite, a_0, a_1, a_2, a_3, a_4, a_5, a_6, a_7, a_8, a_9, a_10, a_11, a_12, a_13, a_14, a_15, a_16, a_17, a_18, a_19, a_20, a_21, a_22, a_23, a_24, f_c0, f_c1, f_c2, f_c3, f_c4, f_c5, f_c6, f_c7, f_c8, f_c9, f_c10, f_c11, f_c12, f_c13, f_c14, f_c15, f_c16, p_nil, p_cons, pk_of, Option.bind_some, Option.bind_none, List.getElem?_cons_zero, List.getElem?_cons_succ, decide_eq_true_eq, if_true, if_false, Bool.not_eq_true', Bool.false_eq_true, Bool.true_eq_false, reduceCtorEq, ne_eq, not_false_eq_true, not_true_eq_false, decide_true, decide_false, Int.toNat_natCast, Int.natCast_zero, Bool.not_true, Bool.not_false]
        unfold R3
        rw [c_list, h14']
        simp only [c15, h16', hv, b9, List.length_map, o_add, o_sub, o_mul, o_quo, o_rem, o_and, o_or, o_eql, o_neq, o_lss, o_leq, o_gtr, o_geq, o_shl, o_shr, o_seql, o_sneq, o_beql, o_bneq, o_ieql, o_ineq, o_neql, o_nneq, o_not, o_neg, o_notv, o_pickT, o_pickF, o_pick, o_conv, o_len, o_lens, o_idxN, o_eix, o_ldiI, o_ldiI0, o_slcL, o_slcH, o_app, o_mk1, o_ifc, o_str, o_byt, c_int, c_bool, c_str, c_list, c_agg, c_iface, c_nilI, c_unit2, c_unit, c_true, i_te, g_T, g_F, g_u, b_norm, b_exitN, b_exitI, Nat.one_ne_zero, Nat.zero_ne_one, Nat.reduceEqDiff, b_ret, b_none, b_ite, a_0, a_1, a_2, a_3, a_4, a_5, a_6, a_7, a_8, a_9, a_10, a_11, a_12, a_13, a_14, a_15, a_16, a_17, a_18, a_19, a_20, a_21, a_22, a_23, a_24, Option.bind_some, Option.bind_none, List.getElem?_cons_zero, List.getElem?_cons_succ, decide_eq_true_eq, if_true, if_false, Bool.not_eq_true', Bool.false_eq_true, Bool.true_eq_false, reduceCtorEq, ne_eq, not_false_eq_true, not_true_eq_false, decide_true, decide_false, Int.toNat_natCast, Int.natCast_zero, Bool.not_true, Bool.not_false]
    · have b9 : ((900 : Int) < b.length) = True := eq_true (by omega)
      refine fields_r l b 0 ?_
      unfold flds u8s at *
      have h14' := c14 _ _ h14
      unfold R3
      rw [c_list, h14']
      simp only [c15, b9, List.length_map, o_add, o_sub, o_mul, o_quo, o_rem, o_and, o_or, o_eql, o_neq, o_lss, o_leq, o_gtr, o_geq, o_shl, o_shr, o_seql, o_sneq, o_beql, o_bneq, o_ieql, o_ineq, o_neql, o_nneq, o_not, o_neg, o_notv, o_pickT, o_pickF, o_pick, o_conv, o_len, o_lens, o_idxN, o_eix, o_ldiI, o_ldiI0, o_slcL, o_slcH, o_app, o_mk1, o_ifc, o_str, o_byt, c_int, c_bool, c_str, c_list, c_agg, c_iface, c_nilI, c_unit2, c_unit, c_true, i_te, g_T, g_F, g_u, b_norm, b_exitN, b_exitI, Nat.one_ne_zero, Nat.zero_ne_one, Nat.reduceEqDiff, b_ret, b_none, b_ite, a_0, a_1, a_2, a_3, a_4, a_5, a_6, a_7, a_8, a_9, a_10, a_11, a_12, a_13, a_14, a_15, a_16, a_17, a_18, a_19, a_20, a_21, a_22, a_23, a_24, Option.bind_some, Option.bind_none, List.getElem?_cons_zero, List.getElem?_cons_succ, decide_eq_true_eq, if_true, if_false, Bool.not_eq_true', Bool.false_eq_true, Bool.true_eq_false, reduceCtorEq, ne_eq, not_false_eq_true, not_true_eq_false, decide_true, decide_false, Int.toNat_natCast, Int.natCast_zero, Bool.not_true, Bool.not_false]
end Go.Proofs.YtogfkdpgkloljaaDoorVs
set_option linter.unusedVariables false
set_option linter.unusedSimpArgs false
namespace Go.Proofs.YtogfkdpgkloljaaDoorVs
def Wt {H : Type} (P : Program) (t : TypeId) (d : DataW H) : Prop := ∀ n ∈ d.weights P t, n ≤ reachBytes
theorem wt_of {H : Type} {P : Program} {ts : List TypeId} {ds : List (DataW H)} {j : Nat} {t : TypeId} {d : DataW H} (h : (DataW.weightsEach P ts ds).all (· ≤ reachBytes) = true) (ht : ts[j]? = some t) (hd : ds[j]? = some d) : Wt P t d :=
  fun n hn => by simpa using List.all_eq_true.1 h _ (DataW.weights_mem_each ht hd n hn)
theorem wt_all {H : Type} {P : Program} {e : TypeId} : ∀ {l : List (DataW H)} {d : DataW H} {n : Nat}, d ∈ l → n ∈ d.weights P e → n ∈ DataW.weightsAll P e l
  | x :: l, d, n, h, hn => by
    rw [DataW.weightsAll, List.mem_append]
    rcases List.mem_cons.1 h with rfl | h
    · exact Or.inl hn
    · exact Or.inr (wt_all h hn)
/-- values that stand for cells, one by one -/
def Cs (P : Program) (w : World) (ys : List V) (cs : List Value) : Prop := ys.length = cs.length ∧ ∀ j (h : j < ys.length) (h' : j < cs.length), ys[j] ≠ .undef ∧ Rd P (fun b => b < w.heap.size) w ys[j] cs[j]
theorem Cs.append {P : Program} {w : World} {a b : List V} {c d : List Value} (h1 : Cs P w a c) (h2 : Cs P w b d) : Cs P w (a ++ b) (c ++ d) := by
  refine ⟨by simp [h1.1, h2.1], fun j h h' => ?_⟩
  by_cases hj : j < a.length
  · rw [List.getElem_append_left hj, List.getElem_append_left (by rw [← h1.1]; exact hj)]
    exact h1.2 j hj _
  · rw [List.getElem_append_right (by omega), List.getElem_append_right (by have := h1.1; omega)]
    have e : j - a.length = j - c.length := by rw [h1.1]
    have h3 := h2.2 (j - a.length) (by simp at h; omega) (by simp at h'; have := h1.1; omega)
    simpa [e] using h3
theorem Cs.one {P : Program} {w : World} {y : V} {c : Value} (hy : y ≠ .undef) (h : Rd P (fun b => b < w.heap.size) w y c) : Cs P w [y] [c] :=
  ⟨rfl, fun j h1 h2 => by
    obtain rfl : j = 0 := by simp at h1; omega
    exact ⟨hy, h⟩⟩
structure ROp (P : Program) (t : TypeId) (wf : List V → Prop) : Prop where
  op : ∀ {H : Type} {enc : TypeId × Value → H} {w : World} {spare : Nat → Bool} {held : Bool} {fuel : Nat} {cs : List Value} {x : DataW H × List MemPlace}, DataW.trod enc P w 0 spare held fuel t cs = some x → Wt P t x.1 → ∃ ys, Cs P w ys cs ∧ wf ys
theorem rop_int {P : Program} {t : TypeId} (k : IntKind) (ht : P.underlying t = some (.int k)) : ROp P t (fun ys => ∃ n, ys = [.int k n] ∧ k.min ≤ n ∧ n ≤ k.max) :=
  ⟨fun h _ => by
    obtain ⟨n, rfl, _, hw⟩ := DataW.trod_int ht h
    exact ⟨_, .one (by simp) (.int k n), n, rfl, by simpa [Lit.wf] using hw⟩⟩
theorem rop_bool {P : Program} {t : TypeId} (ht : P.underlying t = some .bool) : ROp P t (fun ys => ∃ b, ys = [.bool b]) :=
  ⟨fun h _ => by
    obtain ⟨b, rfl, _⟩ := DataW.trod_bool ht h
    exact ⟨_, .one (by simp) (.bool b), b, rfl⟩⟩
theorem rop_string {P : Program} {t : TypeId} (ht : P.underlying t = some .string) : ROp P t (fun ys => ∃ s : ByteArray, ys = [.str s] ∧ s.size ≤ 140737488351232) :=
  ⟨fun h hw => by
    obtain ⟨s, rfl, rfl, hs⟩ := DataW.trod_string ht h
    have h2 := hw s.data.toList.length (by simp [DataW.weights])
    rw [show reachBytes = 140737488351232 from rfl] at h2
    exact ⟨_, .one (by simp) (.str s), s, rfl, by simpa using h2⟩⟩
theorem ROp.weaken {P : Program} {t : TypeId} {wf wf' : List V → Prop} (h : ROp P t wf) (hw : ∀ x, wf x → wf' x) : ROp P t wf' :=
  ⟨fun ht hz => by
    obtain ⟨a, ha, hwa⟩ := h.op ht hz
    exact ⟨a, ha, hw a hwa⟩⟩
/-- parts that lie behind one another: (type, where it begins) -/
structure ROpF (P : Program) (fs : List (TypeId × Nat)) (off total : Nat) (wf : List V → Prop) : Prop where
  op : ∀ {H : Type} {enc : TypeId × Value → H} {w : World} {spare : Nat → Bool} {held : Bool} {n : Nat} {cs : List Value}, cs.length = total →
    (∀ f ∈ fs, ∃ x, DataW.trod enc P w 0 spare held n f.1 ((cs.drop f.2).take (P.cellsOf f.1)) = some x ∧ Wt P f.1 x.1) → ∃ ys, Cs P w ys (cs.drop off) ∧ wf ys
theorem ropF_last {P : Program} {wf : List V → Prop} {t : TypeId} {off total : Nat} (h : ROp P t wf) (ho : off + P.cellsOf t = total) : ROpF P [(t, off)] off total wf :=
  ⟨fun hl hf => by
    obtain ⟨x, hx, hz⟩ := hf (t, off) (by simp)
    rw [List.take_of_length_le (by simp [List.length_drop]; omega)] at hx
    exact h.op hx hz⟩
theorem ropF_cons {P : Program} {wf we : List V → Prop} {t : TypeId} {off nx total : Nat} {fs : List (TypeId × Nat)} (h : ROp P t wf) (ho : off + P.cellsOf t = nx) (hr : ROpF P fs nx total we) :
    ROpF P ((t, off) :: fs) off total (fun ys => ∃ a b, ys = a ++ b ∧ wf a ∧ we b) :=
  ⟨fun {H enc w spare held n cs} hl hf => by
    obtain ⟨x, hx, hz⟩ := hf (t, off) (by simp)
    obtain ⟨a, ha, hwa⟩ := h.op hx hz
    obtain ⟨b, hb, hwb⟩ := hr.op hl (fun f hm => hf f (List.mem_cons_of_mem _ hm))
    refine ⟨a ++ b, ?_, a, b, rfl, hwa, hwb⟩
    have h3 := ha.append hb
    rwa [← ho, ← List.drop_drop, List.take_append_drop] at h3⟩
theorem rop_struct {P : Program} {t : TypeId} {wf : List V → Prop} {fs : Array Field} {l : List (TypeId × Nat)} (ht : P.underlying t = some (.struct fs)) (hl : fs.toList.map (fun f => (f.type, f.offset)) = l)
    (h : ROpF P l 0 (P.cellsOf t) wf) : ROp P t wf :=
  ⟨fun hx hz => by
    obtain ⟨xs, n, _, rfl, hlen, hxl, hf⟩ := DataW.trod_struct ht hx
    have h2 := h.op hlen (fun f hm => by
      rw [← hl] at hm
      obtain ⟨g, hg, rfl⟩ := List.mem_map.1 hm
      obtain ⟨i, hi⟩ := List.getElem?_of_mem hg
      have hi' : fs[i]? = some g := by rw [← Array.getElem?_toList]; exact hi
      have h3 := hf i g hi'
      have hlt : i < xs.length := by
        rw [hxl]
        exact (Array.getElem?_eq_some_iff.1 hi').1
      rw [List.getElem?_eq_getElem hlt] at h3
      refine ⟨_, h3, fun n hn => hz n ?_⟩
      rw [DataW.weights, ht]
      exact DataW.weights_mem_each (j := i) (t := g.type) (by rw [List.getElem?_map, Array.getElem?_toList, hi']; rfl) (by rw [List.getElem?_map, List.getElem?_eq_getElem hlt]; rfl) n hn)
    simpa using h2⟩
theorem rop_array {P : Program} {t e : TypeId} {n : Nat} {wf : List V → Prop} {l : List (TypeId × Nat)} (ht : P.underlying t = some (.array n e)) (hl : (List.range n).map (fun i => (e, i * P.cellsOf e)) = l)
    (h : ROpF P l 0 (P.cellsOf t) wf) : ROp P t wf :=
  ⟨fun hx hz => by
    obtain ⟨xs, m, _, rfl, hlen, hxl, hf⟩ := DataW.trod_array ht hx
    have h2 := h.op hlen (fun f hm => by
      rw [← hl] at hm
      obtain ⟨i, hi, rfl⟩ := List.mem_map.1 hm
      have h3 := hf i (List.mem_range.1 hi)
      have hlt : i < xs.length := by
        rw [hxl]
        exact List.mem_range.1 hi
      rw [List.getElem?_eq_getElem hlt] at h3
      refine ⟨_, h3, fun n hn => hz n ?_⟩
      rw [DataW.weights, ht]
      exact wt_all (List.mem_map.2 ⟨_, List.getElem_mem hlt, rfl⟩) hn)
    simpa using h2⟩
theorem addr_add (a : Addr) (i j : Nat) : (a.add i).add j = a.add (i + j) := by
  unfold Addr.add
  by_cases hi : i = 0 <;> by_cases hj : j = 0 <;> simp [hi, hj, Nat.add_assoc]
theorem rows_of {α : Type} {R : Nat → α → Prop} : ∀ n, (∀ i, i < n → ∃ p, R i p) → ∃ l : List α, l.length = n ∧ ∀ j (h : j < l.length), R j l[j]
  | 0, _ => ⟨[], rfl, fun j h => by simp at h⟩
  | n + 1, h => by
    obtain ⟨l, hl, hr⟩ := rows_of n (fun i hi => h i (by omega))
    obtain ⟨p, hp⟩ := h n (by omega)
    refine ⟨l ++ [p], by simp [hl], fun j hj => ?_⟩
    by_cases hj' : j < l.length
    · rw [List.getElem_append_left hj']
      exact hr j hj'
    · have e : j = n := by simp at hj; omega
      subst e
      rw [List.getElem_append_right (by omega)]
      simpa using hp
theorem cell_in {w : World} {a : Addr} {v : Value} (h : w.cell? a = some v) : a.block < w.heap.size ∧ a.spot = none := by
  unfold World.cell? at h
  split at h
  · rename_i hh
    refine ⟨(Array.getElem?_eq_some_iff.1 hh).1, ?_⟩
    split at h
    · cases h
    · rename_i hs
      simpa using hs
  · cases h
/-- a row: its elements' cells stand one behind the other -/
theorem rop_row {P : Program} {t e : TypeId} {wf : List V → Prop} (ht : P.underlying t = some (.slice e)) (he : ROp P e wf) {H : Type} {enc : TypeId × Value → H} {w : World} {spare : Nat → Bool} {held : Bool} {fuel : Nat} {cs : List Value} {x : DataW H × List MemPlace}
    (hx : DataW.trod enc P w 0 spare held fuel t cs = some x) (hz : Wt P t x.1) {B : Nat} (hB : P.bytesOf e = B) {k : Nat} (hk : P.cellsOf e = k) (hp : 0 < k) :
    ∃ (A : Option Addr) (c : Nat) (l : List (List V)), cs = [.slice A l.length c] ∧ l.length ≤ c ∧ l.length ≤ maxLen ∧ l.length * B ≤ 140737488351232 ∧ (∀ p ∈ l, p.length = k ∧ wf p) ∧
      (l ≠ [] → ∃ (b o : Nat) (f : Nat → Value), A = some ⟨b, o, none⟩ ∧ b < w.heap.size ∧ (∀ i, i < l.length * k → w.cell? ⟨b, o + i, none⟩ = some (f i)) ∧ ∀ i (h : i < l.length) j (h' : j < l[i].length), l[i][j] ≠ .undef ∧ Rd P (fun b => b < w.heap.size) w l[i][j] (f (i * k + j))) := by
  rcases Go.Deep.open_slice ht hx with ⟨rfl, _⟩ | ⟨a, len, cap, m, n, D, Pl, rfl, _, hl, hm, hmm, rfl, hel⟩
  · exact ⟨none, 0, [], rfl, Nat.le_refl _, Nat.zero_le _, by simp, by simp, fun h => absurd rfl h⟩
  · have hle : len ≤ m := by rw [hmm]; split <;> omega
    have hz1 : ∀ i, i < len → Wt P e (D i) := fun i hi n hn => hz n (by
      rw [DataW.weights, ht]
      exact List.mem_cons_of_mem _ (List.mem_append_left _ (wt_all (List.mem_map.2 ⟨i, List.mem_range.2 hi, rfl⟩) hn)))
    have hz2 : len * B ≤ 140737488351232 := by
      have h1 := hz ((((List.range len).map D).length + ((List.range (m - len)).map fun j => D (len + j)).length) * P.bytesOf e) (by
        rw [DataW.weights, ht]
        exact List.mem_cons_self ..)
      rw [hB] at h1
      simp only [List.length_map, List.length_range] at h1
      exact Nat.le_trans (Nat.mul_le_mul_right _ (by omega)) h1
    obtain ⟨l, hll, hr⟩ := rows_of (R := fun i p => (∃ c : List Value, c.length = k ∧ Cs P w p c ∧ ∀ j (h : j < c.length), w.cell? (a.add (i * k + j)) = some c[j]) ∧ wf p) len (fun i hi => by
      obtain ⟨cs', h1, h2⟩ := hel i (by omega)
      obtain ⟨p, hp, hw⟩ := he.op h2 (hz1 i hi)
      obtain ⟨_, hcl, hcell⟩ := World.cells?_some h1
      refine ⟨p, ⟨cs', by rw [hcl, hk], hp, fun j hj => ?_⟩, hw⟩
      have h4 := hcell j (by rw [← hcl]; exact hj)
      rw [List.getElem?_eq_getElem hj, addr_add, hk] at h4
      exact h4)
    refine ⟨some a, cap, l, by rw [hll], by omega, by omega, by rw [hll]; exact hz2, fun p hp => ?_, fun hne => ?_⟩
    · obtain ⟨j, hj, rfl⟩ := List.getElem_of_mem hp
      obtain ⟨⟨c, h1, h2, _⟩, h3⟩ := hr j hj
      exact ⟨by rw [h2.1, h1], h3⟩
    · have hpos : 0 < l.length := List.length_pos_iff.2 hne
      have hcell : ∀ i, i < l.length * k → w.cell? (a.add i) = some ((w.cell? (a.add i)).getD .nilIface) := fun i hi => by
        have hq : i / k < l.length := Nat.div_lt_of_lt_mul (by rw [Nat.mul_comm]; exact hi)
        obtain ⟨⟨c, h1, h2, h3⟩, _⟩ := hr (i / k) hq
        have h4 := h3 (i % k) (by rw [h1]; exact Nat.mod_lt _ hp)
        rw [Nat.mul_comm, Nat.div_add_mod] at h4
        rw [h4]; rfl
      obtain ⟨hb, hs⟩ := cell_in (hcell 0 (Nat.mul_pos hpos hp))
      obtain ⟨b, o, sp⟩ := a
      have hs' : sp = none := by simpa [Addr.add] using hs
      have hb' : b < w.heap.size := by simpa [Addr.add] using hb
      subst hs'
      have ea : ∀ i, (⟨b, o, none⟩ : Addr).add i = ⟨b, o + i, none⟩ := fun i => by
        unfold Addr.add
        by_cases hi : i = 0 <;> simp [hi]
      refine ⟨b, o, fun i => (w.cell? ⟨b, o + i, none⟩).getD .nilIface, rfl, hb', fun i hi => ?_, fun i hi j hj => ?_⟩
      · have := hcell i hi
        rwa [ea] at this
      · obtain ⟨⟨c, h1, h2, h3⟩, _⟩ := hr i hi
        have hj' : j < c.length := by rw [← h2.1]; exact hj
        have h4 := h3 j hj'
        rw [ea] at h4
        simp only [h4, Option.getD_some]
        exact h2.2 j hj hj'
theorem ones_of : ∀ (l : List (List V)), (∀ p ∈ l, p.length = 1) → ∃ xs : List V, l = xs.map fun x => [x]
  | [], _ => ⟨[], rfl⟩
  | p :: l, h => by
    obtain ⟨xs, rfl⟩ := ones_of l (fun q hq => h q (List.mem_cons_of_mem _ hq))
    match p, h p (List.mem_cons_self ..) with
    | [x], _ => exact ⟨x :: xs, rfl⟩
theorem rd_row1 {P : Program} {t e : TypeId} {wf : List V → Prop} (ht : P.underlying t = some (.slice e)) (he : ROp P e wf) {H : Type} {enc : TypeId × Value → H} {w : World} {spare : Nat → Bool} {held : Bool} {fuel : Nat} {cs : List Value} {x : DataW H × List MemPlace}
    (hx : DataW.trod enc P w 0 spare held fuel t cs = some x) (hz : Wt P t x.1) {B : Nat} (hB : P.bytesOf e = B) (hk : P.cellsOf e = 1) (ha : agT P e = some false) (hs : szOf P e = some 1) :
    ∃ (A : Option Addr) (c : Nat) (xs : List V), cs = [.slice A xs.length c] ∧ xs.length ≤ maxLen ∧ xs.length * B ≤ 140737488351232 ∧ (∀ y ∈ xs, wf [y]) ∧ Rd P (fun b => b < w.heap.size) w (.list e xs) (.slice A xs.length c) := by
  obtain ⟨A, c, l, rfl, h1, h2, h3, h4, h5⟩ := rop_row ht he hx hz hB hk (by decide)
  obtain ⟨xs, rfl⟩ := ones_of l (fun p hp => (h4 p hp).1)
  simp only [List.length_map] at h1 h2 h3 h5
  refine ⟨A, c, xs, by simp, h2, h3, fun y hy => (h4 [y] (List.mem_map.2 ⟨y, hy, rfl⟩)).2, ?_⟩
  by_cases hn : xs = []
  · subst hn
    exact .nil e A c
  · obtain ⟨b, o, f, rfl, hb, hf, hr⟩ := h5 (by simpa using hn)
    refine Rd.listS e xs b o c f hn ha hs hb h1 (fun i hi => hf i (by omega)) (fun i hi => ?_) (fun i hi => ?_)
    · have := (hr i (by simpa using hi) 0 (by simp)).1
      simpa using this
    · have := (hr i (by simpa using hi) 0 (by simp)).2
      simpa using this
theorem rd_rowA {P : Program} {t e : TypeId} {wf : List V → Prop} (ht : P.underlying t = some (.slice e)) (he : ROp P e wf) {H : Type} {enc : TypeId × Value → H} {w : World} {spare : Nat → Bool} {held : Bool} {fuel : Nat} {cs : List Value} {x : DataW H × List MemPlace}
    (hx : DataW.trod enc P w 0 spare held fuel t cs = some x) (hz : Wt P t x.1) {B : Nat} (hB : P.bytesOf e = B) {k : Nat} (hk : P.cellsOf e = k) (hp : 0 < k) (ha : agT P e = some true) (hs : szOf P e = some k) :
    ∃ (A : Option Addr) (c : Nat) (l : List (List V)), cs = [.slice A l.length c] ∧ l.length ≤ maxLen ∧ l.length * B ≤ 140737488351232 ∧ (∀ p ∈ l, p.length = k ∧ wf p) ∧ Rd P (fun b => b < w.heap.size) w (.list e (l.map .agg)) (.slice A l.length c) := by
  obtain ⟨A, c, l, rfl, h1, h2, h3, h4, h5⟩ := rop_row ht he hx hz hB hk hp
  refine ⟨A, c, l, rfl, h2, h3, h4, ?_⟩
  by_cases hn : l = []
  · subst hn
    exact .nil e A c
  · obtain ⟨b, o, f, rfl, hb, hf, hr⟩ := h5 hn
    exact Rd.listA e l b o c k f hn ha hs hp hb h1 (fun ys hy => (h4 ys hy).1) hf (fun i hi j hj => (hr i hi j hj).1) (fun i hi j hj => (hr i hi j hj).2)
theorem rop_slice1 {P : Program} {t e : TypeId} {wf : List V → Prop} (ht : P.underlying t = some (.slice e)) {B : Nat} (hB : P.bytesOf e = B) (hk : P.cellsOf e = 1) (ha : agT P e = some false) (hs : szOf P e = some 1) (he : ROp P e wf) :
    ROp P t (fun ys => ∃ xs : List V, ys = [.list e xs] ∧ xs.length ≤ maxLen ∧ xs.length * B ≤ 140737488351232 ∧ ∀ y ∈ xs, wf [y]) :=
  ⟨fun hx hz => by
    obtain ⟨A, c, xs, rfl, h1, h2, h3, h4⟩ := rd_row1 ht he hx hz hB hk ha hs
    exact ⟨_, .one (by simp) h4, xs, rfl, h1, h2, h3⟩⟩
theorem rop_sliceA {P : Program} {t e : TypeId} {wf : List V → Prop} (ht : P.underlying t = some (.slice e)) {B : Nat} (hB : P.bytesOf e = B) {k : Nat} (hk : P.cellsOf e = k) (hp : 0 < k) (ha : agT P e = some true) (hs : szOf P e = some k) (he : ROp P e wf) :
    ROp P t (fun ys => ∃ l : List (List V), ys = [.list e (l.map .agg)] ∧ l.length ≤ maxLen ∧ l.length * B ≤ 140737488351232 ∧ ∀ p ∈ l, p.length = k ∧ wf p) :=
  ⟨fun hx hz => by
    obtain ⟨A, c, l, rfl, h1, h2, h3, h4⟩ := rd_rowA ht he hx hz hB hk hp ha hs
    exact ⟨_, .one (by simp) h4, l, rfl, h1, h2, h3⟩⟩
/-- a parameter of one cell -/
theorem rd_param {P : Program} {t : TypeId} {wf : List V → Prop} (he : ROp P t wf) {H : Type} {enc : TypeId × Value → H} {w : World} {spare : Nat → Bool} {held : Bool} {v : Value} {D : DataW H} {ps : List MemPlace} (hv : v.cells = #[v])
    (h : DataW.Trod enc P w 0 spare held t v D ps) (hz : Wt P t D) : ∃ y, y ≠ .undef ∧ Rd P (fun b => b < w.heap.size) w y v ∧ wf [y] := by
  obtain ⟨fuel, hf⟩ := h
  obtain ⟨ys, h1, h2⟩ := he.op hf hz
  rw [hv] at h1
  match ys, h1 with
  | [y], h1 => exact ⟨y, (h1.2 0 (by simp) (by simp)).1, (h1.2 0 (by simp) (by simp)).2, h2⟩
  | [], h1 => exact absurd h1.1 (by simp)
  | _ :: _ :: _, h1 => exact absurd h1.1 (by simp)
end Go.Proofs.YtogfkdpgkloljaaDoorVs
