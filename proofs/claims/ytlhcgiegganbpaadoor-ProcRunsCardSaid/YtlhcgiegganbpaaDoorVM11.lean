/-
  Several texts in one: How texts are reckoned: each operation at values that are told. No condition but each lemma's own premises. | How texts are reckoned: guards that only choose a value, loops told by their end. No condition but each lemma's own premises. | The lemmas by which texts are reckoned, in one. No condition. | Processes as numbers, and what the small functions on them answer. No condition but each lemma's own premises. | What is done with a Sched of processes. No condition but each lemma's own premises. | Adding, waiting, signalling and ending. No condition but each lemma's own premises. | Lists of numbers of steps, and whether they may be. No condition but each lemma's own premises. | Whether a Sched may be, by the program and by the document. No condition but each lemma's own premises.
-/
import Derived.Test.YtlhcgiegganbpaaDoorVM7
import Derived.Laws.Entries
import Derived.Test.YtlhcgiegganbpaaDoorVM10
set_option linter.unusedVariables false
set_option linter.unusedSimpArgs false
namespace Go.Proofs.YtlhcgiegganbpaaDoorVs
section
variable {Φ : Funs} {k k' : IntKind} {a b : Int} {f : V → TR} {e : TypeId} {xs ys : List V} {s t : ByteArray} {r x y : TR} {l : List Nat} {K : List V → TR} {vs : List V}
theorem o_add : op1V Φ (.bin .add 0) [[.int k a], [.int k b]] f = f (.int k (k.wrap (a + b))) := by simp [op1V, VF.sem, vbin, isShift, vint, k1]
theorem o_sub : op1V Φ (.bin .sub 0) [[.int k a], [.int k b]] f = f (.int k (k.wrap (a - b))) := by simp [op1V, VF.sem, vbin, isShift, vint, k1]
theorem o_mul : op1V Φ (.bin .mul 0) [[.int k a], [.int k b]] f = f (.int k (k.wrap (a * b))) := by simp [op1V, VF.sem, vbin, isShift, vint, k1]
theorem o_quo : op1V Φ (.bin .quo 0) [[.int k a], [.int k b]] f = if b = 0 then none else f (.int k (k.wrap (a.tdiv b))) := by
  by_cases h : b = 0 <;> simp [op1V, VF.sem, vbin, isShift, vint, k1, h]
theorem o_rem : op1V Φ (.bin .rem 0) [[.int k a], [.int k b]] f = if b = 0 then none else f (.int k (a.tmod b)) := by
  by_cases h : b = 0 <;> simp [op1V, VF.sem, vbin, isShift, vint, k1, h]
theorem o_and : op1V Φ (.bin .and 0) [[.int k a], [.int k b]] f = f (.int k (Go.bits .and k a b)) := by simp only [op1V, VF.sem, vbin, isShift, vint]; rfl
theorem o_or : op1V Φ (.bin .or 0) [[.int k a], [.int k b]] f = f (.int k (Go.bits .or k a b)) := by simp only [op1V, VF.sem, vbin, isShift, vint]; rfl
theorem o_eql : op1V Φ (.bin .eql 0) [[.int k a], [.int k b]] f = f (.bool (decide (a = b))) := by simp [op1V, VF.sem, vbin, isShift, vint, vcmp, k1]; rfl
theorem o_neq : op1V Φ (.bin .neq 0) [[.int k a], [.int k b]] f = f (.bool (decide (a ≠ b))) := by
  have : (a != b) = decide (a ≠ b) := by by_cases h : a = b <;> simp [h]
  simp [op1V, VF.sem, vbin, isShift, vint, vcmp, k1, this]
theorem o_lss : op1V Φ (.bin .lss 0) [[.int k a], [.int k b]] f = f (.bool (decide (a < b))) := by simp [op1V, VF.sem, vbin, isShift, vint, vcmp, k1]
theorem o_leq : op1V Φ (.bin .leq 0) [[.int k a], [.int k b]] f = f (.bool (decide (a ≤ b))) := by simp [op1V, VF.sem, vbin, isShift, vint, vcmp, k1]
theorem o_gtr : op1V Φ (.bin .gtr 0) [[.int k a], [.int k b]] f = f (.bool (decide (b < a))) := by simp [op1V, VF.sem, vbin, isShift, vint, vcmp, k1]
theorem o_geq : op1V Φ (.bin .geq 0) [[.int k a], [.int k b]] f = f (.bool (decide (b ≤ a))) := by simp [op1V, VF.sem, vbin, isShift, vint, vcmp, k1]
theorem o_shl : op1V Φ (.bin .shl 0) [[.int k a], [.int k' b]] f = if b < 0 then none else f (.int k (k.wrap (a * 2 ^ min b.toNat k.bits))) := by
  by_cases h : b < 0 <;> simp [op1V, VF.sem, vbin, isShift, vshift, k1, h]
theorem o_shr : op1V Φ (.bin .shr 0) [[.int k a], [.int k' b]] f = if b < 0 then none else f (.int k (a.fdiv (2 ^ min b.toNat k.bits))) := by
  by_cases h : b < 0 <;> simp [op1V, VF.sem, vbin, isShift, vshift, k1, h]
theorem o_seql : op1V Φ (.bin .eql 1) [[.str s], [.str t]] f = f (.bool (s.toList == t.toList)) := by simp [op1V, VF.sem, vbin, vstr, k1]
theorem o_sneq : op1V Φ (.bin .neq 1) [[.str s], [.str t]] f = f (.bool !(s.toList == t.toList)) := by simp [op1V, VF.sem, vbin, vstr, k1]
theorem o_beql {p q : Bool} : op1V Φ (.bin .eql 2) [[.bool p], [.bool q]] f = f (.bool (p == q)) := by simp [op1V, VF.sem, vbin, k1]
theorem o_bneq {p q : Bool} : op1V Φ (.bin .neq 2) [[.bool p], [.bool q]] f = f (.bool !(p == q)) := by simp [op1V, VF.sem, vbin, k1]
theorem o_ieql {u : TypeId} {v : V} : op1V Φ (.bin .eql 3) [[.iface u v], [.nilI]] f = f (.bool false) := rfl
theorem o_ineq {u : TypeId} {v : V} : op1V Φ (.bin .neq 3) [[.iface u v], [.nilI]] f = f (.bool true) := rfl
theorem o_neql : op1V Φ (.bin .eql 3) [[.nilI], [.nilI]] f = f (.bool true) := rfl
theorem o_nneq : op1V Φ (.bin .neq 3) [[.nilI], [.nilI]] f = f (.bool false) := rfl
theorem o_not {p : Bool} : op1V Φ (.un .not) [[.bool p]] f = f (.bool !p) := rfl
theorem o_neg : op1V Φ (.un .neg) [[.int k a]] f = f (.int k (k.wrap (0 - a))) := rfl
theorem o_notv {p : Bool} : op1V Φ .notv [[.bool p]] f = f (.bool !p) := rfl
theorem o_pickT {v w : V} : op1V Φ .pick [[.bool true], [v], [w]] f = f v := rfl
theorem o_pickF {v w : V} : op1V Φ .pick [[.bool false], [v], [w]] f = f w := rfl
theorem o_pick {p : Bool} {v w : V} : op1V Φ .pick [[.bool p], [v], [w]] f = f (if p then v else w) := by cases p <;> rfl
theorem o_conv : op1V Φ (.conv k') [[.int k a]] f = f (.int k' (k'.wrap a)) := rfl
theorem o_len : op1V Φ .len [[.list e xs]] f = f (.int .i64 xs.length) := rfl
theorem o_lens : op1V Φ .lens [[.str s]] f = f (.int .i64 s.size) := rfl
theorem o_idx : op1V Φ (.idx e) [[.list e xs], [.int k a]] f = if 0 ≤ a then (xs[a.toNat]?).bind f else none := by
  by_cases h : 0 ≤ a
  · simp only [op1V, VF.sem, h, true_and, and_self, if_true]
    cases xs[a.toNat]? <;> rfl
  · simp [op1V, VF.sem, h]
theorem o_idxN {j : Nat} : op1V Φ (.idx e) [[.list e xs], [.int k (j : Int)]] f = (xs[j]?).bind f := by rw [o_idx, if_pos (by omega)]; simp
theorem o_eix : op1V Φ (.eix e) [[.list e xs], [.int k a]] f = if 0 ≤ a ∧ a < xs.length then f (.int .i64 a) else none := by
  by_cases h : 0 ≤ a ∧ a < xs.length
  · simp only [op1V, VF.sem, h, true_and, and_self, if_true]; rfl
  · simp only [op1V, VF.sem, true_and, if_neg h]; rfl
theorem o_ldiI : op1V Φ (.ldi 0 1 false [true]) [[.int k a]] f = f (.int k a) := rfl
theorem o_ldiI0 : op1V Φ (.ldi 0 1 false []) [[.int k a]] f = f (.int k a) := by simp [op1V, VF.sem, vsub, k1, maskOk]
theorem o_slcL : op1V Φ (.slc e true false) [[.list e xs], [.int k a]] f = if 0 ≤ a ∧ a ≤ xs.length then f (.list e (xs.drop a.toNat)) else none := by
  by_cases h : 0 ≤ a ∧ a ≤ xs.length
  · simp only [op1V, VF.sem, h, true_and, and_self, if_true]; rfl
  · simp only [op1V, VF.sem, true_and, if_neg h]; rfl
theorem o_slcH : op1V Φ (.slc e false true) [[.list e xs], [.int k a]] f = if 0 ≤ a ∧ a ≤ xs.length then f (.list e (xs.take a.toNat)) else none := by
  by_cases h : 0 ≤ a ∧ a ≤ xs.length
  · simp only [op1V, VF.sem, h, true_and, and_self, if_true]; rfl
  · simp only [op1V, VF.sem, true_and, if_neg h]; rfl
theorem o_app {bs : Nat} {sc : Bool} : op1V Φ (.app e bs sc) [[.list e xs], [.list e ys]] f = if (sc = true → ys.all scalarE = true) ∧ (xs.length + ys.length) * bs ≤ 140737488355328 then f (.list e (xs ++ ys)) else none := by
  by_cases h : (sc = true → ys.all scalarE = true) ∧ (xs.length + ys.length) * bs ≤ 140737488355328
  · rw [if_pos h]
    simp only [op1V, VF.sem]
    rw [if_pos ⟨⟨⟨trivial, trivial⟩, h.1⟩, h.2⟩]; rfl
  · rw [if_neg h]
    simp only [op1V, VF.sem]
    rw [if_neg (fun h' => h ⟨h'.1.2, h'.2⟩)]; rfl
theorem o_mk1 : op1V Φ (.mk e [(false, [(0, 0)])]) [[.int k a]] f = f (.list e [.int k a]) := rfl
theorem o_ifc {u : TypeId} {v : V} : op1V Φ (.ifc u) [[v]] f = f (.iface u v) := rfl
theorem numOf_map : ∀ (l : List Int), (l.map (V.int .u8)).mapM numOf = some l
  | [] => rfl
  | x :: l => by simp [List.mapM_cons, numOf, numOf_map l]
theorem o_str {l : List Int} : op1V Φ (.str e) [[.list e (l.map (V.int .u8))]] f = f (.str (strOfNums l)) := by simp only [op1V, VF.sem, numOf_map]; rfl
theorem o_byt : op1V Φ (.byt e) [[.str s]] f = if s.size ≤ 140737488355328 then f (.list e (s.data.toList.map fun b => .int .u8 b.toNat)) else none := by
  by_cases h : s.size ≤ 140737488355328
  · simp only [op1V, VF.sem, if_pos h]; rfl
  · simp only [op1V, VF.sem, if_neg h]; rfl
theorem c_int : chkV 2 (.int k a) r = r := rfl
theorem c_bool {p : Bool} : chkV 2 (.bool p) r = r := rfl
theorem c_str : chkV 2 (.str s) r = r := rfl
theorem c_list : chkV 2 (.list e xs) r = r := rfl
theorem c_agg : chkV 2 (.agg xs) r = r := rfl
theorem c_iface {u : TypeId} {v : V} : chkV 2 (.iface u v) r = r := rfl
theorem c_nilI : chkV 2 .nilI r = r := rfl
theorem c_unit2 : chkV 2 .unit r = r := rfl
theorem c_unit : chkV 0 .unit r = r := rfl
theorem c_true : chkV 1 (.bool true) r = r := rfl
theorem i_te {p : Bool} : iteV (.bool p) x y = if p = true then x else y := by cases p <;> rfl
theorem g_T {p ud : Bool} : gdV (.bool p) true ud x y = if p = true then x else y := rfl
theorem g_F {p ud : Bool} : gdV (.bool p) false ud x y = if p = true then y else x := by cases p <;> rfl
theorem g_u {want : Bool} : gdV .undef want true x y = y := rfl
theorem b_norm {id : Option Nat} : blkV id l (some (.norm l vs)) K = K vs := by simp [blkV]
theorem b_exit {j : Nat} : blkV (some j) l (some (.exit j l vs)) K = K vs := by simp [blkV]
theorem b_exitN {j : Nat} {l' : List Nat} : blkV none l (some (.exit j l' vs)) K = some (.exit j l' vs) := by simp [blkV]
theorem b_exitS {i j : Nat} {l' : List Nat} (h : (i == j) = false) : blkV (some i) l (some (.exit j l' vs)) K = some (.exit j l' vs) := by
  have h2 : ¬ i = j := by simpa using h
  simp [blkV, h2]
theorem b_exitI {i j : Nat} {l' : List Nat} : blkV (some i) l (some (.exit j l' vs)) K = if i = j then (if l' = l then K vs else none) else some (.exit j l' vs) := by simp [blkV]
theorem b_ret {id : Option Nat} {rs : List (List V)} : blkV id l (some (.ret rs)) K = some (.ret rs) := rfl
theorem b_none {id : Option Nat} : blkV id l none K = none := rfl
theorem b_ite {id : Option Nat} {p : Prop} [Decidable p] : blkV id l (if p then x else y) K = if p then blkV id l x K else blkV id l y K := by split <;> rfl
theorem a_0 {k : TR} : app 0 k [] = k := rfl
theorem a_1 {k : V → TR} {z0 : V} : app 1 k [z0] = k z0 := rfl
theorem a_2 {k : V → V → TR} {z0 z1 : V} : app 2 k [z0, z1] = k z0 z1 := rfl
theorem a_3 {k : V → V → V → TR} {z0 z1 z2 : V} : app 3 k [z0, z1, z2] = k z0 z1 z2 := rfl
theorem a_4 {k : V → V → V → V → TR} {z0 z1 z2 z3 : V} : app 4 k [z0, z1, z2, z3] = k z0 z1 z2 z3 := rfl
theorem a_5 {k : V → V → V → V → V → TR} {z0 z1 z2 z3 z4 : V} : app 5 k [z0, z1, z2, z3, z4] = k z0 z1 z2 z3 z4 := rfl
theorem a_6 {k : V → V → V → V → V → V → TR} {z0 z1 z2 z3 z4 z5 : V} : app 6 k [z0, z1, z2, z3, z4, z5] = k z0 z1 z2 z3 z4 z5 := rfl
theorem a_7 {k : V → V → V → V → V → V → V → TR} {z0 z1 z2 z3 z4 z5 z6 : V} : app 7 k [z0, z1, z2, z3, z4, z5, z6] = k z0 z1 z2 z3 z4 z5 z6 := rfl
theorem a_8 {k : V → V → V → V → V → V → V → V → TR} {z0 z1 z2 z3 z4 z5 z6 z7 : V} : app 8 k [z0, z1, z2, z3, z4, z5, z6, z7] = k z0 z1 z2 z3 z4 z5 z6 z7 := rfl
theorem a_9 {k : V → V → V → V → V → V → V → V → V → TR} {z0 z1 z2 z3 z4 z5 z6 z7 z8 : V} : app 9 k [z0, z1, z2, z3, z4, z5, z6, z7, z8] = k z0 z1 z2 z3 z4 z5 z6 z7 z8 := rfl
theorem a_10 {k : V → V → V → V → V → V → V → V → V → V → TR} {z0 z1 z2 z3 z4 z5 z6 z7 z8 z9 : V} : app 10 k [z0, z1, z2, z3, z4, z5, z6, z7, z8, z9] = k z0 z1 z2 z3 z4 z5 z6 z7 z8 z9 := rfl
theorem a_11 {k : V → V → V → V → V → V → V → V → V → V → V → TR} {z0 z1 z2 z3 z4 z5 z6 z7 z8 z9 z10 : V} : app 11 k [z0, z1, z2, z3, z4, z5, z6, z7, z8, z9, z10] = k z0 z1 z2 z3 z4 z5 z6 z7 z8 z9 z10 := rfl
theorem a_12 {k : V → V → V → V → V → V → V → V → V → V → V → V → TR} {z0 z1 z2 z3 z4 z5 z6 z7 z8 z9 z10 z11 : V} : app 12 k [z0, z1, z2, z3, z4, z5, z6, z7, z8, z9, z10, z11] = k z0 z1 z2 z3 z4 z5 z6 z7 z8 z9 z10 z11 := rfl
theorem a_13 {k : V → V → V → V → V → V → V → V → V → V → V → V → V → TR} {z0 z1 z2 z3 z4 z5 z6 z7 z8 z9 z10 z11 z12 : V} : app 13 k [z0, z1, z2, z3, z4, z5, z6, z7, z8, z9, z10, z11, z12] = k z0 z1 z2 z3 z4 z5 z6 z7 z8 z9 z10 z11 z12 := rfl
theorem a_14 {k : V → V → V → V → V → V → V → V → V → V → V → V → V → V → TR} {z0 z1 z2 z3 z4 z5 z6 z7 z8 z9 z10 z11 z12 z13 : V} : app 14 k [z0, z1, z2, z3, z4, z5, z6, z7, z8, z9, z10, z11, z12, z13] = k z0 z1 z2 z3 z4 z5 z6 z7 z8 z9 z10 z11 z12 z13 := rfl
theorem a_15 {k : V → V → V → V → V → V → V → V → V → V → V → V → V → V → V → TR} {z0 z1 z2 z3 z4 z5 z6 z7 z8 z9 z10 z11 z12 z13 z14 : V} : app 15 k [z0, z1, z2, z3, z4, z5, z6, z7, z8, z9, z10, z11, z12, z13, z14] = k z0 z1 z2 z3 z4 z5 z6 z7 z8 z9 z10 z11 z12 z13 z14 := rfl
theorem a_16 {k : V → V → V → V → V → V → V → V → V → V → V → V → V → V → V → V → TR} {z0 z1 z2 z3 z4 z5 z6 z7 z8 z9 z10 z11 z12 z13 z14 z15 : V} : app 16 k [z0, z1, z2, z3, z4, z5, z6, z7, z8, z9, z10, z11, z12, z13, z14, z15] = k z0 z1 z2 z3 z4 z5 z6 z7 z8 z9 z10 z11 z12 z13 z14 z15 := rfl
theorem a_17 {k : V → V → V → V → V → V → V → V → V → V → V → V → V → V → V → V → V → TR} {z0 z1 z2 z3 z4 z5 z6 z7 z8 z9 z10 z11 z12 z13 z14 z15 z16 : V} : app 17 k [z0, z1, z2, z3, z4, z5, z6, z7, z8, z9, z10, z11, z12, z13, z14, z15, z16] = k z0 z1 z2 z3 z4 z5 z6 z7 z8 z9 z10 z11 z12 z13 z14 z15 z16 := rfl
theorem a_18 {k : V → V → V → V → V → V → V → V → V → V → V → V → V → V → V → V → V → V → TR} {z0 z1 z2 z3 z4 z5 z6 z7 z8 z9 z10 z11 z12 z13 z14 z15 z16 z17 : V} : app 18 k [z0, z1, z2, z3, z4, z5, z6, z7, z8, z9, z10, z11, z12, z13, z14, z15, z16, z17] = k z0 z1 z2 z3 z4 z5 z6 z7 z8 z9 z10 z11 z12 z13 z14 z15 z16 z17 := rfl
theorem a_19 {k : V → V → V → V → V → V → V → V → V → V → V → V → V → V → V → V → V → V → V → TR} {z0 z1 z2 z3 z4 z5 z6 z7 z8 z9 z10 z11 z12 z13 z14 z15 z16 z17 z18 : V} : app 19 k [z0, z1, z2, z3, z4, z5, z6, z7, z8, z9, z10, z11, z12, z13, z14, z15, z16, z17, z18] = k z0 z1 z2 z3 z4 z5 z6 z7 z8 z9 z10 z11 z12 z13 z14 z15 z16 z17 z18 := rfl
theorem a_20 {k : V → V → V → V → V → V → V → V → V → V → V → V → V → V → V → V → V → V → V → V → TR} {z0 z1 z2 z3 z4 z5 z6 z7 z8 z9 z10 z11 z12 z13 z14 z15 z16 z17 z18 z19 : V} : app 20 k [z0, z1, z2, z3, z4, z5, z6, z7, z8, z9, z10, z11, z12, z13, z14, z15, z16, z17, z18, z19] = k z0 z1 z2 z3 z4 z5 z6 z7 z8 z9 z10 z11 z12 z13 z14 z15 z16 z17 z18 z19 := rfl
theorem a_21 {k : V → V → V → V → V → V → V → V → V → V → V → V → V → V → V → V → V → V → V → V → V → TR} {z0 z1 z2 z3 z4 z5 z6 z7 z8 z9 z10 z11 z12 z13 z14 z15 z16 z17 z18 z19 z20 : V} : app 21 k [z0, z1, z2, z3, z4, z5, z6, z7, z8, z9, z10, z11, z12, z13, z14, z15, z16, z17, z18, z19, z20] = k z0 z1 z2 z3 z4 z5 z6 z7 z8 z9 z10 z11 z12 z13 z14 z15 z16 z17 z18 z19 z20 := rfl
theorem a_22 {k : V → V → V → V → V → V → V → V → V → V → V → V → V → V → V → V → V → V → V → V → V → V → TR} {z0 z1 z2 z3 z4 z5 z6 z7 z8 z9 z10 z11 z12 z13 z14 z15 z16 z17 z18 z19 z20 z21 : V} : app 22 k [z0, z1, z2, z3, z4, z5, z6, z7, z8, z9, z10, z11, z12, z13, z14, z15, z16, z17, z18, z19, z20, z21] = k z0 z1 z2 z3 z4 z5 z6 z7 z8 z9 z10 z11 z12 z13 z14 z15 z16 z17 z18 z19 z20 z21 := rfl
theorem a_23 {k : V → V → V → V → V → V → V → V → V → V → V → V → V → V → V → V → V → V → V → V → V → V → V → TR} {z0 z1 z2 z3 z4 z5 z6 z7 z8 z9 z10 z11 z12 z13 z14 z15 z16 z17 z18 z19 z20 z21 z22 : V} : app 23 k [z0, z1, z2, z3, z4, z5, z6, z7, z8, z9, z10, z11, z12, z13, z14, z15, z16, z17, z18, z19, z20, z21, z22] = k z0 z1 z2 z3 z4 z5 z6 z7 z8 z9 z10 z11 z12 z13 z14 z15 z16 z17 z18 z19 z20 z21 z22 := rfl
theorem a_24 {k : V → V → V → V → V → V → V → V → V → V → V → V → V → V → V → V → V → V → V → V → V → V → V → V → TR} {z0 z1 z2 z3 z4 z5 z6 z7 z8 z9 z10 z11 z12 z13 z14 z15 z16 z17 z18 z19 z20 z21 z22 z23 : V} : app 24 k [z0, z1, z2, z3, z4, z5, z6, z7, z8, z9, z10, z11, z12, z13, z14, z15, z16, z17, z18, z19, z20, z21, z22, z23] = k z0 z1 z2 z3 z4 z5 z6 z7 z8 z9 z10 z11 z12 z13 z14 z15 z16 z17 z18 z19 z20 z21 z22 z23 := rfl
theorem f_c0 {g w : Nat} {ins : List (List V)} {ps : List (Nat × Nat)} {k : TR} : callV Φ g w ins 0 ps k = (Φ g w ins).bind fun raw => (pks raw ps).bind (app 0 k) := rfl
theorem f_c1 {g w : Nat} {ins : List (List V)} {ps : List (Nat × Nat)} {k : V → TR} : callV Φ g w ins 1 ps k = (Φ g w ins).bind fun raw => (pks raw ps).bind (app 1 k) := rfl
theorem f_c2 {g w : Nat} {ins : List (List V)} {ps : List (Nat × Nat)} {k : V → V → TR} : callV Φ g w ins 2 ps k = (Φ g w ins).bind fun raw => (pks raw ps).bind (app 2 k) := rfl
theorem f_c3 {g w : Nat} {ins : List (List V)} {ps : List (Nat × Nat)} {k : V → V → V → TR} : callV Φ g w ins 3 ps k = (Φ g w ins).bind fun raw => (pks raw ps).bind (app 3 k) := rfl
theorem f_c4 {g w : Nat} {ins : List (List V)} {ps : List (Nat × Nat)} {k : V → V → V → V → TR} : callV Φ g w ins 4 ps k = (Φ g w ins).bind fun raw => (pks raw ps).bind (app 4 k) := rfl
theorem f_c5 {g w : Nat} {ins : List (List V)} {ps : List (Nat × Nat)} {k : V → V → V → V → V → TR} : callV Φ g w ins 5 ps k = (Φ g w ins).bind fun raw => (pks raw ps).bind (app 5 k) := rfl
theorem f_c6 {g w : Nat} {ins : List (List V)} {ps : List (Nat × Nat)} {k : V → V → V → V → V → V → TR} : callV Φ g w ins 6 ps k = (Φ g w ins).bind fun raw => (pks raw ps).bind (app 6 k) := rfl
theorem f_c7 {g w : Nat} {ins : List (List V)} {ps : List (Nat × Nat)} {k : V → V → V → V → V → V → V → TR} : callV Φ g w ins 7 ps k = (Φ g w ins).bind fun raw => (pks raw ps).bind (app 7 k) := rfl
theorem f_c8 {g w : Nat} {ins : List (List V)} {ps : List (Nat × Nat)} {k : V → V → V → V → V → V → V → V → TR} : callV Φ g w ins 8 ps k = (Φ g w ins).bind fun raw => (pks raw ps).bind (app 8 k) := rfl
theorem f_c9 {g w : Nat} {ins : List (List V)} {ps : List (Nat × Nat)} {k : V → V → V → V → V → V → V → V → V → TR} : callV Φ g w ins 9 ps k = (Φ g w ins).bind fun raw => (pks raw ps).bind (app 9 k) := rfl
theorem f_c10 {g w : Nat} {ins : List (List V)} {ps : List (Nat × Nat)} {k : V → V → V → V → V → V → V → V → V → V → TR} : callV Φ g w ins 10 ps k = (Φ g w ins).bind fun raw => (pks raw ps).bind (app 10 k) := rfl
theorem f_c11 {g w : Nat} {ins : List (List V)} {ps : List (Nat × Nat)} {k : V → V → V → V → V → V → V → V → V → V → V → TR} : callV Φ g w ins 11 ps k = (Φ g w ins).bind fun raw => (pks raw ps).bind (app 11 k) := rfl
theorem f_c12 {g w : Nat} {ins : List (List V)} {ps : List (Nat × Nat)} {k : V → V → V → V → V → V → V → V → V → V → V → V → TR} : callV Φ g w ins 12 ps k = (Φ g w ins).bind fun raw => (pks raw ps).bind (app 12 k) := rfl
theorem f_c13 {g w : Nat} {ins : List (List V)} {ps : List (Nat × Nat)} {k : V → V → V → V → V → V → V → V → V → V → V → V → V → TR} : callV Φ g w ins 13 ps k = (Φ g w ins).bind fun raw => (pks raw ps).bind (app 13 k) := rfl
theorem f_c14 {g w : Nat} {ins : List (List V)} {ps : List (Nat × Nat)} {k : V → V → V → V → V → V → V → V → V → V → V → V → V → V → TR} : callV Φ g w ins 14 ps k = (Φ g w ins).bind fun raw => (pks raw ps).bind (app 14 k) := rfl
theorem f_c15 {g w : Nat} {ins : List (List V)} {ps : List (Nat × Nat)} {k : V → V → V → V → V → V → V → V → V → V → V → V → V → V → V → TR} : callV Φ g w ins 15 ps k = (Φ g w ins).bind fun raw => (pks raw ps).bind (app 15 k) := rfl
theorem f_c16 {g w : Nat} {ins : List (List V)} {ps : List (Nat × Nat)} {k : V → V → V → V → V → V → V → V → V → V → V → V → V → V → V → V → TR} : callV Φ g w ins 16 ps k = (Φ g w ins).bind fun raw => (pks raw ps).bind (app 16 k) := rfl
theorem o_n1 {h : VF} {args : List (List V)} {k : V → TR} : opnV Φ h args 1 k = (h.sem Φ args).bind fun r => match r with | [zs] => app 1 k zs | _ => none := by
  unfold opnV
  congr 1
theorem o_n2 {h : VF} {args : List (List V)} {k : V → V → TR} : opnV Φ h args 2 k = (h.sem Φ args).bind fun r => match r with | [zs] => app 2 k zs | _ => none := by
  unfold opnV
  congr 1
theorem o_n3 {h : VF} {args : List (List V)} {k : V → V → V → TR} : opnV Φ h args 3 k = (h.sem Φ args).bind fun r => match r with | [zs] => app 3 k zs | _ => none := by
  unfold opnV
  congr 1
theorem o_n4 {h : VF} {args : List (List V)} {k : V → V → V → V → TR} : opnV Φ h args 4 k = (h.sem Φ args).bind fun r => match r with | [zs] => app 4 k zs | _ => none := by
  unfold opnV
  congr 1
theorem o_n5 {h : VF} {args : List (List V)} {k : V → V → V → V → V → TR} : opnV Φ h args 5 k = (h.sem Φ args).bind fun r => match r with | [zs] => app 5 k zs | _ => none := by
  unfold opnV
  congr 1
theorem o_n6 {h : VF} {args : List (List V)} {k : V → V → V → V → V → V → TR} : opnV Φ h args 6 k = (h.sem Φ args).bind fun r => match r with | [zs] => app 6 k zs | _ => none := by
  unfold opnV
  congr 1
theorem o_n7 {h : VF} {args : List (List V)} {k : V → V → V → V → V → V → V → TR} : opnV Φ h args 7 k = (h.sem Φ args).bind fun r => match r with | [zs] => app 7 k zs | _ => none := by
  unfold opnV
  congr 1
theorem o_n8 {h : VF} {args : List (List V)} {k : V → V → V → V → V → V → V → V → TR} : opnV Φ h args 8 k = (h.sem Φ args).bind fun r => match r with | [zs] => app 8 k zs | _ => none := by
  unfold opnV
  congr 1
theorem o_n9 {h : VF} {args : List (List V)} {k : V → V → V → V → V → V → V → V → V → TR} : opnV Φ h args 9 k = (h.sem Φ args).bind fun r => match r with | [zs] => app 9 k zs | _ => none := by
  unfold opnV
  congr 1
theorem o_n10 {h : VF} {args : List (List V)} {k : V → V → V → V → V → V → V → V → V → V → TR} : opnV Φ h args 10 k = (h.sem Φ args).bind fun r => match r with | [zs] => app 10 k zs | _ => none := by
  unfold opnV
  congr 1
theorem o_n11 {h : VF} {args : List (List V)} {k : V → V → V → V → V → V → V → V → V → V → V → TR} : opnV Φ h args 11 k = (h.sem Φ args).bind fun r => match r with | [zs] => app 11 k zs | _ => none := by
  unfold opnV
  congr 1
theorem o_n12 {h : VF} {args : List (List V)} {k : V → V → V → V → V → V → V → V → V → V → V → V → TR} : opnV Φ h args 12 k = (h.sem Φ args).bind fun r => match r with | [zs] => app 12 k zs | _ => none := by
  unfold opnV
  congr 1
theorem o_n13 {h : VF} {args : List (List V)} {k : V → V → V → V → V → V → V → V → V → V → V → V → V → TR} : opnV Φ h args 13 k = (h.sem Φ args).bind fun r => match r with | [zs] => app 13 k zs | _ => none := by
  unfold opnV
  congr 1
theorem o_n14 {h : VF} {args : List (List V)} {k : V → V → V → V → V → V → V → V → V → V → V → V → V → V → TR} : opnV Φ h args 14 k = (h.sem Φ args).bind fun r => match r with | [zs] => app 14 k zs | _ => none := by
  unfold opnV
  congr 1
theorem o_n15 {h : VF} {args : List (List V)} {k : V → V → V → V → V → V → V → V → V → V → V → V → V → V → V → TR} : opnV Φ h args 15 k = (h.sem Φ args).bind fun r => match r with | [zs] => app 15 k zs | _ => none := by
  unfold opnV
  congr 1
theorem o_n16 {h : VF} {args : List (List V)} {k : V → V → V → V → V → V → V → V → V → V → V → V → V → V → V → V → TR} : opnV Φ h args 16 k = (h.sem Φ args).bind fun r => match r with | [zs] => app 16 k zs | _ => none := by
  unfold opnV
  congr 1
theorem o_n17 {h : VF} {args : List (List V)} {k : V → V → V → V → V → V → V → V → V → V → V → V → V → V → V → V → V → TR} : opnV Φ h args 17 k = (h.sem Φ args).bind fun r => match r with | [zs] => app 17 k zs | _ => none := by
  unfold opnV
  congr 1
theorem o_n18 {h : VF} {args : List (List V)} {k : V → V → V → V → V → V → V → V → V → V → V → V → V → V → V → V → V → V → TR} : opnV Φ h args 18 k = (h.sem Φ args).bind fun r => match r with | [zs] => app 18 k zs | _ => none := by
  unfold opnV
  congr 1
theorem o_n19 {h : VF} {args : List (List V)} {k : V → V → V → V → V → V → V → V → V → V → V → V → V → V → V → V → V → V → V → TR} : opnV Φ h args 19 k = (h.sem Φ args).bind fun r => match r with | [zs] => app 19 k zs | _ => none := by
  unfold opnV
  congr 1
theorem o_n20 {h : VF} {args : List (List V)} {k : V → V → V → V → V → V → V → V → V → V → V → V → V → V → V → V → V → V → V → V → TR} : opnV Φ h args 20 k = (h.sem Φ args).bind fun r => match r with | [zs] => app 20 k zs | _ => none := by
  unfold opnV
  congr 1
theorem o_n21 {h : VF} {args : List (List V)} {k : V → V → V → V → V → V → V → V → V → V → V → V → V → V → V → V → V → V → V → V → V → TR} : opnV Φ h args 21 k = (h.sem Φ args).bind fun r => match r with | [zs] => app 21 k zs | _ => none := by
  unfold opnV
  congr 1
theorem o_n22 {h : VF} {args : List (List V)} {k : V → V → V → V → V → V → V → V → V → V → V → V → V → V → V → V → V → V → V → V → V → V → TR} : opnV Φ h args 22 k = (h.sem Φ args).bind fun r => match r with | [zs] => app 22 k zs | _ => none := by
  unfold opnV
  congr 1
theorem o_n23 {h : VF} {args : List (List V)} {k : V → V → V → V → V → V → V → V → V → V → V → V → V → V → V → V → V → V → V → V → V → V → V → TR} : opnV Φ h args 23 k = (h.sem Φ args).bind fun r => match r with | [zs] => app 23 k zs | _ => none := by
  unfold opnV
  congr 1
theorem o_n24 {h : VF} {args : List (List V)} {k : V → V → V → V → V → V → V → V → V → V → V → V → V → V → V → V → V → V → V → V → V → V → V → V → TR} : opnV Φ h args 24 k = (h.sem Φ args).bind fun r => match r with | [zs] => app 24 k zs | _ => none := by
  unfold opnV
  congr 1
theorem p_nil {args : List (List V)} : pks args [] = some [] := rfl
theorem p_cons {args : List (List V)} {p : Nat × Nat} {ps : List (Nat × Nat)} : pks args (p :: ps) = (pk args p).bind fun z => (pks args ps).bind fun zs => some (z :: zs) := by
  simp only [pks, List.mapM_cons]
  cases pk args p with
  | none => rfl
  | some z => cases List.mapM (pk args) ps <;> rfl
theorem pk_of {args : List (List V)} {p : Nat × Nat} : pk args p = match (args[p.1]?).bind (·[p.2]?) with | some .undef => none | r => r := rfl
theorem bind_ite {β γ : Type} {p : Prop} [Decidable p] {u v : Option β} {h : β → Option γ} : (if p then u else v).bind h = if p then u.bind h else v.bind h := by split <;> rfl
theorem lp_0 {g : List V → TR} : lpV l g 0 vs = none := rfl
theorem lp_s {g : List V → TR} {n : Nat} : lpV l g (n + 1) vs = (g vs).bind fun o => match o with | .norm l' vs' => if l' = l then lpV l g n vs' else none | o => some o := rfl
theorem lp_norm {g : List V → TR} {n : Nat} {vs' : List V} (h : g vs = some (.norm l vs')) : lpV l g (n + 1) vs = lpV l g n vs' := by simp [lp_s, h]
theorem lp_exit {g : List V → TR} {n j : Nat} {l' : List Nat} {vs' : List V} (h : g vs = some (.exit j l' vs')) : lpV l g (n + 1) vs = some (.exit j l' vs') := by simp [lp_s, h]
theorem lp_ret {g : List V → TR} {n : Nat} {rs : List (List V)} (h : g vs = some (.ret rs)) : lpV l g (n + 1) vs = some (.ret rs) := by simp [lp_s, h]
theorem w_i64 {m : Int} (h : -9223372036854775808 ≤ m ∧ m ≤ 9223372036854775807) : IntKind.i64.wrap m = m := by rw [IntKind.wrap_i64]; omega
theorem w_succ {i : Nat} (h : i < 4611686018427387904) : IntKind.i64.wrap ((i : Int) + 1) = ((i + 1 : Nat) : Int) := by rw [w_i64 (by omega)]; omega
end
end Go.Proofs.YtlhcgiegganbpaaDoorVs
set_option linter.unusedVariables false
set_option linter.unusedSimpArgs false
namespace Go.Proofs.YtlhcgiegganbpaaDoorVs
def gbV : Bool → V → V
  | true, v => v
  | false, _ => .undef
section
variable {Φ : Funs} {p q ud : Bool} {x y r : TR} {v w : V} {f : V → TR} {l : List Nat} {K : List V → TR} {vs : List V}
theorem gd_TT : gdV (.bool true) true ud x y = x := rfl
theorem gd_TF : gdV (.bool true) false ud x y = y := rfl
theorem gd_FT : gdV (.bool false) true ud x y = y := rfl
theorem gd_FF : gdV (.bool false) false ud x y = x := rfl
theorem gb_t : gbV true v = v := rfl
theorem gb_f : gbV false v = .undef := rfl
theorem gb_T : gdV (.bool p) true ud (some (.norm [1] [v])) (some (.norm [1] [.undef])) = some (.norm [1] [gbV p v]) := by cases p <;> rfl
theorem gb_F : gdV (.bool p) false ud (some (.norm [1] [v])) (some (.norm [1] [.undef])) = some (.norm [1] [gbV (!p) v]) := by cases p <;> rfl
theorem gb_and : op1V Φ .pick [[.bool p], [gbV p (.bool q)], [.bool false]] f = f (.bool (p && q)) := by cases p <;> rfl
theorem gb_or : op1V Φ .pick [[.bool p], [.bool true], [gbV (!p) (.bool q)]] f = f (.bool (p || q)) := by cases p <;> rfl
theorem i_T : iteV (.bool true) x y = x := rfl
theorem i_F : iteV (.bool false) x y = y := rfl
theorem c_clo {g : Nat} {ys : List V} : chkV 2 (.clo g ys) r = r := rfl
theorem o_callc {g : Nat} {ys : List V} {gs : List (Nat × Nat × List (List Bool))} {ins : List (List (Nat × Nat))} {outs : List (List (Option (Nat × Nat)))} {args : List (List V)} : op1V Φ (.callc gs ins outs) ([.clo g ys] :: args) f = ((lookC gs g).bind fun q => (caps q.2 ys).bind fun cs => (ins.mapM (pks ([.clo g ys] :: args))).bind fun xss => (Φ g q.1 (xss ++ cs)).bind fun raw => outs.mapM (outV raw)).bind (k1 f) := rfl
theorem a_25 {k : V → V → V → V → V → V → V → V → V → V → V → V → V → V → V → V → V → V → V → V → V → V → V → V → V → TR} {z0 z1 z2 z3 z4 z5 z6 z7 z8 z9 z10 z11 z12 z13 z14 z15 z16 z17 z18 z19 z20 z21 z22 z23 z24 : V} : app 25 k [z0, z1, z2, z3, z4, z5, z6, z7, z8, z9, z10, z11, z12, z13, z14, z15, z16, z17, z18, z19, z20, z21, z22, z23, z24] = k z0 z1 z2 z3 z4 z5 z6 z7 z8 z9 z10 z11 z12 z13 z14 z15 z16 z17 z18 z19 z20 z21 z22 z23 z24 := rfl
theorem a_26 {k : V → V → V → V → V → V → V → V → V → V → V → V → V → V → V → V → V → V → V → V → V → V → V → V → V → V → TR} {z0 z1 z2 z3 z4 z5 z6 z7 z8 z9 z10 z11 z12 z13 z14 z15 z16 z17 z18 z19 z20 z21 z22 z23 z24 z25 : V} : app 26 k [z0, z1, z2, z3, z4, z5, z6, z7, z8, z9, z10, z11, z12, z13, z14, z15, z16, z17, z18, z19, z20, z21, z22, z23, z24, z25] = k z0 z1 z2 z3 z4 z5 z6 z7 z8 z9 z10 z11 z12 z13 z14 z15 z16 z17 z18 z19 z20 z21 z22 z23 z24 z25 := rfl
theorem a_27 {k : V → V → V → V → V → V → V → V → V → V → V → V → V → V → V → V → V → V → V → V → V → V → V → V → V → V → V → TR} {z0 z1 z2 z3 z4 z5 z6 z7 z8 z9 z10 z11 z12 z13 z14 z15 z16 z17 z18 z19 z20 z21 z22 z23 z24 z25 z26 : V} : app 27 k [z0, z1, z2, z3, z4, z5, z6, z7, z8, z9, z10, z11, z12, z13, z14, z15, z16, z17, z18, z19, z20, z21, z22, z23, z24, z25, z26] = k z0 z1 z2 z3 z4 z5 z6 z7 z8 z9 z10 z11 z12 z13 z14 z15 z16 z17 z18 z19 z20 z21 z22 z23 z24 z25 z26 := rfl
theorem a_28 {k : V → V → V → V → V → V → V → V → V → V → V → V → V → V → V → V → V → V → V → V → V → V → V → V → V → V → V → V → TR} {z0 z1 z2 z3 z4 z5 z6 z7 z8 z9 z10 z11 z12 z13 z14 z15 z16 z17 z18 z19 z20 z21 z22 z23 z24 z25 z26 z27 : V} : app 28 k [z0, z1, z2, z3, z4, z5, z6, z7, z8, z9, z10, z11, z12, z13, z14, z15, z16, z17, z18, z19, z20, z21, z22, z23, z24, z25, z26, z27] = k z0 z1 z2 z3 z4 z5 z6 z7 z8 z9 z10 z11 z12 z13 z14 z15 z16 z17 z18 z19 z20 z21 z22 z23 z24 z25 z26 z27 := rfl
theorem a_29 {k : V → V → V → V → V → V → V → V → V → V → V → V → V → V → V → V → V → V → V → V → V → V → V → V → V → V → V → V → V → TR} {z0 z1 z2 z3 z4 z5 z6 z7 z8 z9 z10 z11 z12 z13 z14 z15 z16 z17 z18 z19 z20 z21 z22 z23 z24 z25 z26 z27 z28 : V} : app 29 k [z0, z1, z2, z3, z4, z5, z6, z7, z8, z9, z10, z11, z12, z13, z14, z15, z16, z17, z18, z19, z20, z21, z22, z23, z24, z25, z26, z27, z28] = k z0 z1 z2 z3 z4 z5 z6 z7 z8 z9 z10 z11 z12 z13 z14 z15 z16 z17 z18 z19 z20 z21 z22 z23 z24 z25 z26 z27 z28 := rfl
theorem a_30 {k : V → V → V → V → V → V → V → V → V → V → V → V → V → V → V → V → V → V → V → V → V → V → V → V → V → V → V → V → V → V → TR} {z0 z1 z2 z3 z4 z5 z6 z7 z8 z9 z10 z11 z12 z13 z14 z15 z16 z17 z18 z19 z20 z21 z22 z23 z24 z25 z26 z27 z28 z29 : V} : app 30 k [z0, z1, z2, z3, z4, z5, z6, z7, z8, z9, z10, z11, z12, z13, z14, z15, z16, z17, z18, z19, z20, z21, z22, z23, z24, z25, z26, z27, z28, z29] = k z0 z1 z2 z3 z4 z5 z6 z7 z8 z9 z10 z11 z12 z13 z14 z15 z16 z17 z18 z19 z20 z21 z22 z23 z24 z25 z26 z27 z28 z29 := rfl
theorem a_31 {k : V → V → V → V → V → V → V → V → V → V → V → V → V → V → V → V → V → V → V → V → V → V → V → V → V → V → V → V → V → V → V → TR} {z0 z1 z2 z3 z4 z5 z6 z7 z8 z9 z10 z11 z12 z13 z14 z15 z16 z17 z18 z19 z20 z21 z22 z23 z24 z25 z26 z27 z28 z29 z30 : V} : app 31 k [z0, z1, z2, z3, z4, z5, z6, z7, z8, z9, z10, z11, z12, z13, z14, z15, z16, z17, z18, z19, z20, z21, z22, z23, z24, z25, z26, z27, z28, z29, z30] = k z0 z1 z2 z3 z4 z5 z6 z7 z8 z9 z10 z11 z12 z13 z14 z15 z16 z17 z18 z19 z20 z21 z22 z23 z24 z25 z26 z27 z28 z29 z30 := rfl
theorem a_32 {k : V → V → V → V → V → V → V → V → V → V → V → V → V → V → V → V → V → V → V → V → V → V → V → V → V → V → V → V → V → V → V → V → TR} {z0 z1 z2 z3 z4 z5 z6 z7 z8 z9 z10 z11 z12 z13 z14 z15 z16 z17 z18 z19 z20 z21 z22 z23 z24 z25 z26 z27 z28 z29 z30 z31 : V} : app 32 k [z0, z1, z2, z3, z4, z5, z6, z7, z8, z9, z10, z11, z12, z13, z14, z15, z16, z17, z18, z19, z20, z21, z22, z23, z24, z25, z26, z27, z28, z29, z30, z31] = k z0 z1 z2 z3 z4 z5 z6 z7 z8 z9 z10 z11 z12 z13 z14 z15 z16 z17 z18 z19 z20 z21 z22 z23 z24 z25 z26 z27 z28 z29 z30 z31 := rfl
theorem a_33 {k : V → V → V → V → V → V → V → V → V → V → V → V → V → V → V → V → V → V → V → V → V → V → V → V → V → V → V → V → V → V → V → V → V → TR} {z0 z1 z2 z3 z4 z5 z6 z7 z8 z9 z10 z11 z12 z13 z14 z15 z16 z17 z18 z19 z20 z21 z22 z23 z24 z25 z26 z27 z28 z29 z30 z31 z32 : V} : app 33 k [z0, z1, z2, z3, z4, z5, z6, z7, z8, z9, z10, z11, z12, z13, z14, z15, z16, z17, z18, z19, z20, z21, z22, z23, z24, z25, z26, z27, z28, z29, z30, z31, z32] = k z0 z1 z2 z3 z4 z5 z6 z7 z8 z9 z10 z11 z12 z13 z14 z15 z16 z17 z18 z19 z20 z21 z22 z23 z24 z25 z26 z27 z28 z29 z30 z31 z32 := rfl
theorem a_34 {k : V → V → V → V → V → V → V → V → V → V → V → V → V → V → V → V → V → V → V → V → V → V → V → V → V → V → V → V → V → V → V → V → V → V → TR} {z0 z1 z2 z3 z4 z5 z6 z7 z8 z9 z10 z11 z12 z13 z14 z15 z16 z17 z18 z19 z20 z21 z22 z23 z24 z25 z26 z27 z28 z29 z30 z31 z32 z33 : V} : app 34 k [z0, z1, z2, z3, z4, z5, z6, z7, z8, z9, z10, z11, z12, z13, z14, z15, z16, z17, z18, z19, z20, z21, z22, z23, z24, z25, z26, z27, z28, z29, z30, z31, z32, z33] = k z0 z1 z2 z3 z4 z5 z6 z7 z8 z9 z10 z11 z12 z13 z14 z15 z16 z17 z18 z19 z20 z21 z22 z23 z24 z25 z26 z27 z28 z29 z30 z31 z32 z33 := rfl
theorem a_35 {k : V → V → V → V → V → V → V → V → V → V → V → V → V → V → V → V → V → V → V → V → V → V → V → V → V → V → V → V → V → V → V → V → V → V → V → TR} {z0 z1 z2 z3 z4 z5 z6 z7 z8 z9 z10 z11 z12 z13 z14 z15 z16 z17 z18 z19 z20 z21 z22 z23 z24 z25 z26 z27 z28 z29 z30 z31 z32 z33 z34 : V} : app 35 k [z0, z1, z2, z3, z4, z5, z6, z7, z8, z9, z10, z11, z12, z13, z14, z15, z16, z17, z18, z19, z20, z21, z22, z23, z24, z25, z26, z27, z28, z29, z30, z31, z32, z33, z34] = k z0 z1 z2 z3 z4 z5 z6 z7 z8 z9 z10 z11 z12 z13 z14 z15 z16 z17 z18 z19 z20 z21 z22 z23 z24 z25 z26 z27 z28 z29 z30 z31 z32 z33 z34 := rfl
theorem a_36 {k : V → V → V → V → V → V → V → V → V → V → V → V → V → V → V → V → V → V → V → V → V → V → V → V → V → V → V → V → V → V → V → V → V → V → V → V → TR} {z0 z1 z2 z3 z4 z5 z6 z7 z8 z9 z10 z11 z12 z13 z14 z15 z16 z17 z18 z19 z20 z21 z22 z23 z24 z25 z26 z27 z28 z29 z30 z31 z32 z33 z34 z35 : V} : app 36 k [z0, z1, z2, z3, z4, z5, z6, z7, z8, z9, z10, z11, z12, z13, z14, z15, z16, z17, z18, z19, z20, z21, z22, z23, z24, z25, z26, z27, z28, z29, z30, z31, z32, z33, z34, z35] = k z0 z1 z2 z3 z4 z5 z6 z7 z8 z9 z10 z11 z12 z13 z14 z15 z16 z17 z18 z19 z20 z21 z22 z23 z24 z25 z26 z27 z28 z29 z30 z31 z32 z33 z34 z35 := rfl
theorem a_37 {k : V → V → V → V → V → V → V → V → V → V → V → V → V → V → V → V → V → V → V → V → V → V → V → V → V → V → V → V → V → V → V → V → V → V → V → V → V → TR} {z0 z1 z2 z3 z4 z5 z6 z7 z8 z9 z10 z11 z12 z13 z14 z15 z16 z17 z18 z19 z20 z21 z22 z23 z24 z25 z26 z27 z28 z29 z30 z31 z32 z33 z34 z35 z36 : V} : app 37 k [z0, z1, z2, z3, z4, z5, z6, z7, z8, z9, z10, z11, z12, z13, z14, z15, z16, z17, z18, z19, z20, z21, z22, z23, z24, z25, z26, z27, z28, z29, z30, z31, z32, z33, z34, z35, z36] = k z0 z1 z2 z3 z4 z5 z6 z7 z8 z9 z10 z11 z12 z13 z14 z15 z16 z17 z18 z19 z20 z21 z22 z23 z24 z25 z26 z27 z28 z29 z30 z31 z32 z33 z34 z35 z36 := rfl
theorem a_38 {k : V → V → V → V → V → V → V → V → V → V → V → V → V → V → V → V → V → V → V → V → V → V → V → V → V → V → V → V → V → V → V → V → V → V → V → V → V → V → TR} {z0 z1 z2 z3 z4 z5 z6 z7 z8 z9 z10 z11 z12 z13 z14 z15 z16 z17 z18 z19 z20 z21 z22 z23 z24 z25 z26 z27 z28 z29 z30 z31 z32 z33 z34 z35 z36 z37 : V} : app 38 k [z0, z1, z2, z3, z4, z5, z6, z7, z8, z9, z10, z11, z12, z13, z14, z15, z16, z17, z18, z19, z20, z21, z22, z23, z24, z25, z26, z27, z28, z29, z30, z31, z32, z33, z34, z35, z36, z37] = k z0 z1 z2 z3 z4 z5 z6 z7 z8 z9 z10 z11 z12 z13 z14 z15 z16 z17 z18 z19 z20 z21 z22 z23 z24 z25 z26 z27 z28 z29 z30 z31 z32 z33 z34 z35 z36 z37 := rfl
theorem a_39 {k : V → V → V → V → V → V → V → V → V → V → V → V → V → V → V → V → V → V → V → V → V → V → V → V → V → V → V → V → V → V → V → V → V → V → V → V → V → V → V → TR} {z0 z1 z2 z3 z4 z5 z6 z7 z8 z9 z10 z11 z12 z13 z14 z15 z16 z17 z18 z19 z20 z21 z22 z23 z24 z25 z26 z27 z28 z29 z30 z31 z32 z33 z34 z35 z36 z37 z38 : V} : app 39 k [z0, z1, z2, z3, z4, z5, z6, z7, z8, z9, z10, z11, z12, z13, z14, z15, z16, z17, z18, z19, z20, z21, z22, z23, z24, z25, z26, z27, z28, z29, z30, z31, z32, z33, z34, z35, z36, z37, z38] = k z0 z1 z2 z3 z4 z5 z6 z7 z8 z9 z10 z11 z12 z13 z14 z15 z16 z17 z18 z19 z20 z21 z22 z23 z24 z25 z26 z27 z28 z29 z30 z31 z32 z33 z34 z35 z36 z37 z38 := rfl
theorem a_40 {k : V → V → V → V → V → V → V → V → V → V → V → V → V → V → V → V → V → V → V → V → V → V → V → V → V → V → V → V → V → V → V → V → V → V → V → V → V → V → V → V → TR} {z0 z1 z2 z3 z4 z5 z6 z7 z8 z9 z10 z11 z12 z13 z14 z15 z16 z17 z18 z19 z20 z21 z22 z23 z24 z25 z26 z27 z28 z29 z30 z31 z32 z33 z34 z35 z36 z37 z38 z39 : V} : app 40 k [z0, z1, z2, z3, z4, z5, z6, z7, z8, z9, z10, z11, z12, z13, z14, z15, z16, z17, z18, z19, z20, z21, z22, z23, z24, z25, z26, z27, z28, z29, z30, z31, z32, z33, z34, z35, z36, z37, z38, z39] = k z0 z1 z2 z3 z4 z5 z6 z7 z8 z9 z10 z11 z12 z13 z14 z15 z16 z17 z18 z19 z20 z21 z22 z23 z24 z25 z26 z27 z28 z29 z30 z31 z32 z33 z34 z35 z36 z37 z38 z39 := rfl
theorem a_41 {k : V → V → V → V → V → V → V → V → V → V → V → V → V → V → V → V → V → V → V → V → V → V → V → V → V → V → V → V → V → V → V → V → V → V → V → V → V → V → V → V → V → TR} {z0 z1 z2 z3 z4 z5 z6 z7 z8 z9 z10 z11 z12 z13 z14 z15 z16 z17 z18 z19 z20 z21 z22 z23 z24 z25 z26 z27 z28 z29 z30 z31 z32 z33 z34 z35 z36 z37 z38 z39 z40 : V} : app 41 k [z0, z1, z2, z3, z4, z5, z6, z7, z8, z9, z10, z11, z12, z13, z14, z15, z16, z17, z18, z19, z20, z21, z22, z23, z24, z25, z26, z27, z28, z29, z30, z31, z32, z33, z34, z35, z36, z37, z38, z39, z40] = k z0 z1 z2 z3 z4 z5 z6 z7 z8 z9 z10 z11 z12 z13 z14 z15 z16 z17 z18 z19 z20 z21 z22 z23 z24 z25 z26 z27 z28 z29 z30 z31 z32 z33 z34 z35 z36 z37 z38 z39 z40 := rfl
theorem a_42 {k : V → V → V → V → V → V → V → V → V → V → V → V → V → V → V → V → V → V → V → V → V → V → V → V → V → V → V → V → V → V → V → V → V → V → V → V → V → V → V → V → V → V → TR} {z0 z1 z2 z3 z4 z5 z6 z7 z8 z9 z10 z11 z12 z13 z14 z15 z16 z17 z18 z19 z20 z21 z22 z23 z24 z25 z26 z27 z28 z29 z30 z31 z32 z33 z34 z35 z36 z37 z38 z39 z40 z41 : V} : app 42 k [z0, z1, z2, z3, z4, z5, z6, z7, z8, z9, z10, z11, z12, z13, z14, z15, z16, z17, z18, z19, z20, z21, z22, z23, z24, z25, z26, z27, z28, z29, z30, z31, z32, z33, z34, z35, z36, z37, z38, z39, z40, z41] = k z0 z1 z2 z3 z4 z5 z6 z7 z8 z9 z10 z11 z12 z13 z14 z15 z16 z17 z18 z19 z20 z21 z22 z23 z24 z25 z26 z27 z28 z29 z30 z31 z32 z33 z34 z35 z36 z37 z38 z39 z40 z41 := rfl
theorem a_43 {k : V → V → V → V → V → V → V → V → V → V → V → V → V → V → V → V → V → V → V → V → V → V → V → V → V → V → V → V → V → V → V → V → V → V → V → V → V → V → V → V → V → V → V → TR} {z0 z1 z2 z3 z4 z5 z6 z7 z8 z9 z10 z11 z12 z13 z14 z15 z16 z17 z18 z19 z20 z21 z22 z23 z24 z25 z26 z27 z28 z29 z30 z31 z32 z33 z34 z35 z36 z37 z38 z39 z40 z41 z42 : V} : app 43 k [z0, z1, z2, z3, z4, z5, z6, z7, z8, z9, z10, z11, z12, z13, z14, z15, z16, z17, z18, z19, z20, z21, z22, z23, z24, z25, z26, z27, z28, z29, z30, z31, z32, z33, z34, z35, z36, z37, z38, z39, z40, z41, z42] = k z0 z1 z2 z3 z4 z5 z6 z7 z8 z9 z10 z11 z12 z13 z14 z15 z16 z17 z18 z19 z20 z21 z22 z23 z24 z25 z26 z27 z28 z29 z30 z31 z32 z33 z34 z35 z36 z37 z38 z39 z40 z41 z42 := rfl
theorem a_44 {k : V → V → V → V → V → V → V → V → V → V → V → V → V → V → V → V → V → V → V → V → V → V → V → V → V → V → V → V → V → V → V → V → V → V → V → V → V → V → V → V → V → V → V → V → TR} {z0 z1 z2 z3 z4 z5 z6 z7 z8 z9 z10 z11 z12 z13 z14 z15 z16 z17 z18 z19 z20 z21 z22 z23 z24 z25 z26 z27 z28 z29 z30 z31 z32 z33 z34 z35 z36 z37 z38 z39 z40 z41 z42 z43 : V} : app 44 k [z0, z1, z2, z3, z4, z5, z6, z7, z8, z9, z10, z11, z12, z13, z14, z15, z16, z17, z18, z19, z20, z21, z22, z23, z24, z25, z26, z27, z28, z29, z30, z31, z32, z33, z34, z35, z36, z37, z38, z39, z40, z41, z42, z43] = k z0 z1 z2 z3 z4 z5 z6 z7 z8 z9 z10 z11 z12 z13 z14 z15 z16 z17 z18 z19 z20 z21 z22 z23 z24 z25 z26 z27 z28 z29 z30 z31 z32 z33 z34 z35 z36 z37 z38 z39 z40 z41 z42 z43 := rfl
theorem a_45 {k : V → V → V → V → V → V → V → V → V → V → V → V → V → V → V → V → V → V → V → V → V → V → V → V → V → V → V → V → V → V → V → V → V → V → V → V → V → V → V → V → V → V → V → V → V → TR} {z0 z1 z2 z3 z4 z5 z6 z7 z8 z9 z10 z11 z12 z13 z14 z15 z16 z17 z18 z19 z20 z21 z22 z23 z24 z25 z26 z27 z28 z29 z30 z31 z32 z33 z34 z35 z36 z37 z38 z39 z40 z41 z42 z43 z44 : V} : app 45 k [z0, z1, z2, z3, z4, z5, z6, z7, z8, z9, z10, z11, z12, z13, z14, z15, z16, z17, z18, z19, z20, z21, z22, z23, z24, z25, z26, z27, z28, z29, z30, z31, z32, z33, z34, z35, z36, z37, z38, z39, z40, z41, z42, z43, z44] = k z0 z1 z2 z3 z4 z5 z6 z7 z8 z9 z10 z11 z12 z13 z14 z15 z16 z17 z18 z19 z20 z21 z22 z23 z24 z25 z26 z27 z28 z29 z30 z31 z32 z33 z34 z35 z36 z37 z38 z39 z40 z41 z42 z43 z44 := rfl
theorem a_46 {k : V → V → V → V → V → V → V → V → V → V → V → V → V → V → V → V → V → V → V → V → V → V → V → V → V → V → V → V → V → V → V → V → V → V → V → V → V → V → V → V → V → V → V → V → V → V → TR} {z0 z1 z2 z3 z4 z5 z6 z7 z8 z9 z10 z11 z12 z13 z14 z15 z16 z17 z18 z19 z20 z21 z22 z23 z24 z25 z26 z27 z28 z29 z30 z31 z32 z33 z34 z35 z36 z37 z38 z39 z40 z41 z42 z43 z44 z45 : V} : app 46 k [z0, z1, z2, z3, z4, z5, z6, z7, z8, z9, z10, z11, z12, z13, z14, z15, z16, z17, z18, z19, z20, z21, z22, z23, z24, z25, z26, z27, z28, z29, z30, z31, z32, z33, z34, z35, z36, z37, z38, z39, z40, z41, z42, z43, z44, z45] = k z0 z1 z2 z3 z4 z5 z6 z7 z8 z9 z10 z11 z12 z13 z14 z15 z16 z17 z18 z19 z20 z21 z22 z23 z24 z25 z26 z27 z28 z29 z30 z31 z32 z33 z34 z35 z36 z37 z38 z39 z40 z41 z42 z43 z44 z45 := rfl
theorem a_47 {k : V → V → V → V → V → V → V → V → V → V → V → V → V → V → V → V → V → V → V → V → V → V → V → V → V → V → V → V → V → V → V → V → V → V → V → V → V → V → V → V → V → V → V → V → V → V → V → TR} {z0 z1 z2 z3 z4 z5 z6 z7 z8 z9 z10 z11 z12 z13 z14 z15 z16 z17 z18 z19 z20 z21 z22 z23 z24 z25 z26 z27 z28 z29 z30 z31 z32 z33 z34 z35 z36 z37 z38 z39 z40 z41 z42 z43 z44 z45 z46 : V} : app 47 k [z0, z1, z2, z3, z4, z5, z6, z7, z8, z9, z10, z11, z12, z13, z14, z15, z16, z17, z18, z19, z20, z21, z22, z23, z24, z25, z26, z27, z28, z29, z30, z31, z32, z33, z34, z35, z36, z37, z38, z39, z40, z41, z42, z43, z44, z45, z46] = k z0 z1 z2 z3 z4 z5 z6 z7 z8 z9 z10 z11 z12 z13 z14 z15 z16 z17 z18 z19 z20 z21 z22 z23 z24 z25 z26 z27 z28 z29 z30 z31 z32 z33 z34 z35 z36 z37 z38 z39 z40 z41 z42 z43 z44 z45 z46 := rfl
theorem a_48 {k : V → V → V → V → V → V → V → V → V → V → V → V → V → V → V → V → V → V → V → V → V → V → V → V → V → V → V → V → V → V → V → V → V → V → V → V → V → V → V → V → V → V → V → V → V → V → V → V → TR} {z0 z1 z2 z3 z4 z5 z6 z7 z8 z9 z10 z11 z12 z13 z14 z15 z16 z17 z18 z19 z20 z21 z22 z23 z24 z25 z26 z27 z28 z29 z30 z31 z32 z33 z34 z35 z36 z37 z38 z39 z40 z41 z42 z43 z44 z45 z46 z47 : V} : app 48 k [z0, z1, z2, z3, z4, z5, z6, z7, z8, z9, z10, z11, z12, z13, z14, z15, z16, z17, z18, z19, z20, z21, z22, z23, z24, z25, z26, z27, z28, z29, z30, z31, z32, z33, z34, z35, z36, z37, z38, z39, z40, z41, z42, z43, z44, z45, z46, z47] = k z0 z1 z2 z3 z4 z5 z6 z7 z8 z9 z10 z11 z12 z13 z14 z15 z16 z17 z18 z19 z20 z21 z22 z23 z24 z25 z26 z27 z28 z29 z30 z31 z32 z33 z34 z35 z36 z37 z38 z39 z40 z41 z42 z43 z44 z45 z46 z47 := rfl
theorem f_c17 {g w : Nat} {ins : List (List V)} {ps : List (Nat × Nat)} {k : V → V → V → V → V → V → V → V → V → V → V → V → V → V → V → V → V → TR} : callV Φ g w ins 17 ps k = (Φ g w ins).bind fun raw => (pks raw ps).bind (app 17 k) := rfl
theorem f_c18 {g w : Nat} {ins : List (List V)} {ps : List (Nat × Nat)} {k : V → V → V → V → V → V → V → V → V → V → V → V → V → V → V → V → V → V → TR} : callV Φ g w ins 18 ps k = (Φ g w ins).bind fun raw => (pks raw ps).bind (app 18 k) := rfl
theorem f_c19 {g w : Nat} {ins : List (List V)} {ps : List (Nat × Nat)} {k : V → V → V → V → V → V → V → V → V → V → V → V → V → V → V → V → V → V → V → TR} : callV Φ g w ins 19 ps k = (Φ g w ins).bind fun raw => (pks raw ps).bind (app 19 k) := rfl
theorem f_c20 {g w : Nat} {ins : List (List V)} {ps : List (Nat × Nat)} {k : V → V → V → V → V → V → V → V → V → V → V → V → V → V → V → V → V → V → V → V → TR} : callV Φ g w ins 20 ps k = (Φ g w ins).bind fun raw => (pks raw ps).bind (app 20 k) := rfl
theorem f_c21 {g w : Nat} {ins : List (List V)} {ps : List (Nat × Nat)} {k : V → V → V → V → V → V → V → V → V → V → V → V → V → V → V → V → V → V → V → V → V → TR} : callV Φ g w ins 21 ps k = (Φ g w ins).bind fun raw => (pks raw ps).bind (app 21 k) := rfl
theorem f_c22 {g w : Nat} {ins : List (List V)} {ps : List (Nat × Nat)} {k : V → V → V → V → V → V → V → V → V → V → V → V → V → V → V → V → V → V → V → V → V → V → TR} : callV Φ g w ins 22 ps k = (Φ g w ins).bind fun raw => (pks raw ps).bind (app 22 k) := rfl
theorem f_c23 {g w : Nat} {ins : List (List V)} {ps : List (Nat × Nat)} {k : V → V → V → V → V → V → V → V → V → V → V → V → V → V → V → V → V → V → V → V → V → V → V → TR} : callV Φ g w ins 23 ps k = (Φ g w ins).bind fun raw => (pks raw ps).bind (app 23 k) := rfl
theorem f_c24 {g w : Nat} {ins : List (List V)} {ps : List (Nat × Nat)} {k : V → V → V → V → V → V → V → V → V → V → V → V → V → V → V → V → V → V → V → V → V → V → V → V → TR} : callV Φ g w ins 24 ps k = (Φ g w ins).bind fun raw => (pks raw ps).bind (app 24 k) := rfl
theorem f_c25 {g w : Nat} {ins : List (List V)} {ps : List (Nat × Nat)} {k : V → V → V → V → V → V → V → V → V → V → V → V → V → V → V → V → V → V → V → V → V → V → V → V → V → TR} : callV Φ g w ins 25 ps k = (Φ g w ins).bind fun raw => (pks raw ps).bind (app 25 k) := rfl
theorem f_c26 {g w : Nat} {ins : List (List V)} {ps : List (Nat × Nat)} {k : V → V → V → V → V → V → V → V → V → V → V → V → V → V → V → V → V → V → V → V → V → V → V → V → V → V → TR} : callV Φ g w ins 26 ps k = (Φ g w ins).bind fun raw => (pks raw ps).bind (app 26 k) := rfl
theorem f_c27 {g w : Nat} {ins : List (List V)} {ps : List (Nat × Nat)} {k : V → V → V → V → V → V → V → V → V → V → V → V → V → V → V → V → V → V → V → V → V → V → V → V → V → V → V → TR} : callV Φ g w ins 27 ps k = (Φ g w ins).bind fun raw => (pks raw ps).bind (app 27 k) := rfl
theorem f_c28 {g w : Nat} {ins : List (List V)} {ps : List (Nat × Nat)} {k : V → V → V → V → V → V → V → V → V → V → V → V → V → V → V → V → V → V → V → V → V → V → V → V → V → V → V → V → TR} : callV Φ g w ins 28 ps k = (Φ g w ins).bind fun raw => (pks raw ps).bind (app 28 k) := rfl
theorem f_c29 {g w : Nat} {ins : List (List V)} {ps : List (Nat × Nat)} {k : V → V → V → V → V → V → V → V → V → V → V → V → V → V → V → V → V → V → V → V → V → V → V → V → V → V → V → V → V → TR} : callV Φ g w ins 29 ps k = (Φ g w ins).bind fun raw => (pks raw ps).bind (app 29 k) := rfl
theorem f_c30 {g w : Nat} {ins : List (List V)} {ps : List (Nat × Nat)} {k : V → V → V → V → V → V → V → V → V → V → V → V → V → V → V → V → V → V → V → V → V → V → V → V → V → V → V → V → V → V → TR} : callV Φ g w ins 30 ps k = (Φ g w ins).bind fun raw => (pks raw ps).bind (app 30 k) := rfl
def notN : TR → Prop
  | some (.exit ..) => True
  | some (.ret _) => True
  | _ => False
theorem lp_ret' {g : List V → TR} {n : Nat} (h : notN (g vs)) : lpV l g (n + 1) vs = g vs := by
  rw [lp_s]
  cases hg : g vs with
  | none => rw [hg] at h; exact h.elim
  | some o =>
    rw [hg] at h
    cases o with
    | norm => exact h.elim
    | exit => rfl
    | ret => rfl
/-- a loop comes to its end -/
theorem lp_ind {S : Type} (enc : S → List V) {g : List V → TR} (I : S → Prop) (m : S → Nat) (out : S → TR)
    (h : ∀ s, I s → (∃ s', g (enc s) = some (.norm l (enc s')) ∧ I s' ∧ m s' < m s ∧ out s' = out s) ∨ (g (enc s) = out s ∧ notN (out s))) : ∀ (n : Nat) (s : S), I s → m s < n → lpV l g n (enc s) = out s
  | 0, s, hi, hn => by omega
  | n + 1, s, hi, hn => by
    rcases h s hi with ⟨s', h1, h2, h3, h4⟩ | ⟨h1, h2⟩
    · rw [lp_norm h1, ← h4]
      exact lp_ind enc I m out h n s' h2 (by omega)
    · rw [lp_ret' (by rw [h1]; exact h2), h1]
theorem w_in {m : Int} {j : Nat} (h : m = j) (hj : j < 4611686018427387904) : IntKind.i64.wrap m = (j : Int) := by subst h; exact w_i64 (by omega)
theorem o_appN {e : TypeId} {bs : Nat} {xs ys : List V} {n : Nat} (hn : xs.length + ys.length ≤ n) (h : n * bs ≤ 140737488355328) : op1V Φ (.app e bs false) [[.list e xs], [.list e ys]] f = f (.list e (xs ++ ys)) := by
  rw [o_app, if_pos ⟨by simp, Nat.le_trans (Nat.mul_le_mul_right bs hn) h⟩]
end
end Go.Proofs.YtlhcgiegganbpaaDoorVs
set_option linter.unusedVariables false
set_option maxRecDepth 10000
namespace Go.Proofs.YtlhcgiegganbpaaDoorVs
theorem VBs : type_of% @o_add ∧ type_of% @o_sub ∧ type_of% @o_mul ∧ type_of% @o_quo ∧ type_of% @o_rem ∧ type_of% @o_and ∧ type_of% @o_or ∧ type_of% @o_eql ∧ type_of% @o_neq ∧ type_of% @o_lss ∧ type_of% @o_leq ∧ type_of% @o_gtr ∧ type_of% @o_geq ∧ type_of% @o_shl ∧ type_of% @o_shr ∧ type_of% @o_seql ∧ type_of% @o_sneq ∧ type_of% @o_beql ∧ type_of% @o_bneq ∧ type_of% @o_ieql ∧ type_of% @o_ineq ∧ type_of% @o_neql ∧ type_of% @o_nneq ∧ type_of% @o_not ∧ type_of% @o_neg ∧ type_of% @o_notv ∧ type_of% @o_pickT ∧ type_of% @o_pickF ∧ type_of% @o_conv ∧ type_of% @o_len ∧ type_of% @o_lens ∧ type_of% @o_idxN ∧ type_of% @o_ldiI ∧ type_of% @o_ldiI0 ∧ type_of% @o_mk1 ∧ type_of% @o_ifc ∧ type_of% @o_str ∧ type_of% @o_byt ∧ type_of% @c_int ∧ type_of% @c_bool ∧ type_of% @c_str ∧ type_of% @c_list ∧ type_of% @c_agg ∧ type_of% @c_iface ∧ type_of% @c_nilI ∧ type_of% @c_unit2 ∧ type_of% @c_unit ∧ type_of% @c_true ∧ type_of% @g_u ∧ type_of% @b_norm ∧ type_of% @b_exitN ∧ type_of% @b_exitI ∧ type_of% @Nat.one_ne_zero ∧ type_of% @Nat.zero_ne_one ∧ type_of% @b_ret ∧ type_of% @b_none ∧ type_of% @a_0 ∧ type_of% @a_1 ∧ type_of% @a_2 ∧ type_of% @a_3 ∧ type_of% @a_4 ∧ type_of% @a_5 ∧ type_of% @a_6 ∧ type_of% @a_7 ∧ type_of% @a_8 ∧ type_of% @a_9 ∧ type_of% @a_10 ∧ type_of% @a_11 ∧ type_of% @a_12 ∧ type_of% @a_13 ∧ type_of% @a_14 ∧ type_of% @a_15 ∧ type_of% @a_16 ∧ type_of% @a_17 ∧ type_of% @a_18 ∧ type_of% @a_19 ∧ type_of% @a_20 ∧ type_of% @a_21 ∧ type_of% @a_22 ∧ type_of% @a_23 ∧ type_of% @a_24 ∧ type_of% @f_c0 ∧ type_of% @f_c1 ∧ type_of% @f_c2 ∧ type_of% @f_c3 ∧ type_of% @f_c4 ∧ type_of% @f_c5 ∧ type_of% @f_c6 ∧ type_of% @f_c7 ∧ type_of% @f_c8 ∧ type_of% @f_c9 ∧ type_of% @f_c10 ∧ type_of% @f_c11 ∧ type_of% @f_c12 ∧ type_of% @f_c13 ∧ type_of% @f_c14 ∧ type_of% @f_c15 ∧ type_of% @f_c16 ∧ type_of% @p_nil ∧ type_of% @p_cons ∧ type_of% @pk_of ∧ type_of% @decide_eq_true_eq ∧ type_of% @Bool.not_eq_true' ∧ type_of% @Bool.false_eq_true ∧ type_of% @Bool.true_eq_false ∧ type_of% @not_false_eq_true ∧ type_of% @not_true_eq_false ∧ type_of% @decide_true ∧ type_of% @decide_false ∧ type_of% @Int.toNat_natCast ∧ type_of% @Int.natCast_zero ∧ type_of% @Bool.not_true ∧ type_of% @Bool.not_false ∧ type_of% @a_25 ∧ type_of% @a_26 ∧ type_of% @a_27 ∧ type_of% @a_28 ∧ type_of% @a_29 ∧ type_of% @a_30 ∧ type_of% @a_31 ∧ type_of% @a_32 ∧ type_of% @a_33 ∧ type_of% @a_34 ∧ type_of% @a_35 ∧ type_of% @a_36 ∧ type_of% @a_37 ∧ type_of% @a_38 ∧ type_of% @a_39 ∧ type_of% @a_40 ∧ type_of% @a_41 ∧ type_of% @a_42 ∧ type_of% @a_43 ∧ type_of% @a_44 ∧ type_of% @a_45 ∧ type_of% @a_46 ∧ type_of% @a_47 ∧ type_of% @a_48 ∧ type_of% @f_c17 ∧ type_of% @f_c18 ∧ type_of% @f_c19 ∧ type_of% @f_c20 ∧ type_of% @f_c21 ∧ type_of% @f_c22 ∧ type_of% @f_c23 ∧ type_of% @f_c24 ∧ type_of% @f_c25 ∧ type_of% @f_c26 ∧ type_of% @f_c27 ∧ type_of% @f_c28 ∧ type_of% @f_c29 ∧ type_of% @f_c30 ∧ type_of% @gd_TT ∧ type_of% @gd_TF ∧ type_of% @gd_FT ∧ type_of% @gd_FF ∧ type_of% @gb_t ∧ type_of% @gb_f ∧ type_of% @gb_T ∧ type_of% @gb_F ∧ type_of% @gb_and ∧ type_of% @gb_or ∧ type_of% @i_T ∧ type_of% @i_F ∧ type_of% @c_clo ∧ type_of% @Bool.true_and ∧ type_of% @Bool.false_and ∧ type_of% @Bool.true_or ∧ type_of% @Bool.false_or ∧ type_of% @Bool.and_true ∧ type_of% @Bool.or_false :=
  ⟨@o_add, @o_sub, @o_mul, @o_quo, @o_rem, @o_and, @o_or, @o_eql, @o_neq, @o_lss, @o_leq, @o_gtr, @o_geq, @o_shl, @o_shr, @o_seql, @o_sneq, @o_beql, @o_bneq, @o_ieql, @o_ineq, @o_neql, @o_nneq, @o_not, @o_neg, @o_notv, @o_pickT, @o_pickF, @o_conv, @o_len, @o_lens, @o_idxN, @o_ldiI, @o_ldiI0, @o_mk1, @o_ifc, @o_str, @o_byt, @c_int, @c_bool, @c_str, @c_list, @c_agg, @c_iface, @c_nilI, @c_unit2, @c_unit, @c_true, @g_u, @b_norm, @b_exitN, @b_exitI, @Nat.one_ne_zero, @Nat.zero_ne_one, @b_ret, @b_none, @a_0, @a_1, @a_2, @a_3, @a_4, @a_5, @a_6, @a_7, @a_8, @a_9, @a_10, @a_11, @a_12, @a_13, @a_14, @a_15, @a_16, @a_17, @a_18, @a_19, @a_20, @a_21, @a_22, @a_23, @a_24, @f_c0, @f_c1, @f_c2, @f_c3, @f_c4, @f_c5, @f_c6, @f_c7, @f_c8, @f_c9, @f_c10, @f_c11, @f_c12, @f_c13, @f_c14, @f_c15, @f_c16, @p_nil, @p_cons, @pk_of, @decide_eq_true_eq, @Bool.not_eq_true', @Bool.false_eq_true, @Bool.true_eq_false, @not_false_eq_true, @not_true_eq_false, @decide_true, @decide_false, @Int.toNat_natCast, @Int.natCast_zero, @Bool.not_true, @Bool.not_false, @a_25, @a_26, @a_27, @a_28, @a_29, @a_30, @a_31, @a_32, @a_33, @a_34, @a_35, @a_36, @a_37, @a_38, @a_39, @a_40, @a_41, @a_42, @a_43, @a_44, @a_45, @a_46, @a_47, @a_48, @f_c17, @f_c18, @f_c19, @f_c20, @f_c21, @f_c22, @f_c23, @f_c24, @f_c25, @f_c26, @f_c27, @f_c28, @f_c29, @f_c30, @gd_TT, @gd_TF, @gd_FT, @gd_FF, @gb_t, @gb_f, @gb_T, @gb_F, @gb_and, @gb_or, @i_T, @i_F, @c_clo, @Bool.true_and, @Bool.false_and, @Bool.true_or, @Bool.false_or, @Bool.and_true, @Bool.or_false⟩
end Go.Proofs.YtlhcgiegganbpaaDoorVs
set_option linter.unusedVariables false
set_option linter.unusedSimpArgs false
set_option maxRecDepth 100000
namespace Go.Proofs.YtlhcgiegganbpaaDoorVs
structure Pr where
  id : Int
  lv : Int
  sem : Int
  deriving DecidableEq
def Pr.vs (p : Pr) : List V := [.int .i64 p.id, .int .i64 p.lv, .int .i64 p.sem]
def Pr.may (p : Pr) : Bool := decide (0 ≤ p.id) && decide (p.id ≤ 9007199254740991) && decide (0 ≤ p.lv) && decide (p.lv < 8) && decide (0 ≤ p.sem) && decide (p.sem < 65536)
theorem s39 (p : Pr) : Fix T 39 0 [p.vs] = some [[.bool p.may]] := by
  refine e39_0 0 ?_
  simp only [F39_0, Pr.vs, VBs, reduceCtorEq, Nat.reduceEqDiff, Option.bind_some, Option.bind_none, List.getElem?_cons_zero, List.getElem?_cons_succ, if_true, if_false, ne_eq]
  rfl
theorem s47 (p : Pr) : Fix T 47 0 [p.vs] = some [[.bool p.may]] := by
  refine e47_0 0 ?_
  have h1 : decide (p.lv < 8) = decide (p.lv ≤ 7) := by rw [decide_eq_decide]; omega
  have h2 : decide (p.sem < 65536) = decide (p.sem ≤ 65535) := by rw [decide_eq_decide]; omega
  simp only [F47_0, Pr.vs, VBs, reduceCtorEq, Nat.reduceEqDiff, Option.bind_some, Option.bind_none, List.getElem?_cons_zero, List.getElem?_cons_succ, if_true, if_false, ne_eq]
  simp only [Pr.may, h1, h2]
/-- a row of processes -/
abbrev prs (e : TypeId) (l : List Pr) : V := .list e (l.map fun p => .agg p.vs)
theorem o_ldi3 {Φ : Funs} {m : List Bool} {p : Pr} {k : V → V → V → TR} (hm : m = [true, true, true] ∨ m = []) : opnV Φ (.ldi 0 3 true m) [[.agg p.vs]] 3 k = k (.int .i64 p.id) (.int .i64 p.lv) (.int .i64 p.sem) := by
  rw [o_n3]
  rcases hm with rfl | rfl <;> simp [VF.sem, vsub, k1, maskOk, Pr.vs, scalarE, scalarV] <;> rfl
theorem o_ldo3 {Φ : Funs} {e : TypeId} {i : Nat} {l : List Pr} {p : Pr} (h : l[i]? = some p) {k : V → V → V → TR} : opnV Φ (.ldo 0 3 true) [[.int .i64 (i : Int)], [.list e (l.map fun p => .agg p.vs)]] 3 k = k (.int .i64 p.id) (.int .i64 p.lv) (.int .i64 p.sem) := by
  rw [o_n3]
  simp [VF.sem, vsub, Pr.vs, h]
  rfl
theorem o_mk3 {Φ : Funs} {e : TypeId} {a b c : Int} {k : V → TR} : op1V Φ (.mk e [(true, [(0, 0), (1, 1), (2, 2)])]) [[.int .i64 a, .int .i64 b, .int .i64 c], [.int .i64 a, .int .i64 b, .int .i64 c], [.int .i64 a, .int .i64 b, .int .i64 c]] k = k (.list e [.agg (Pr.vs ⟨a, b, c⟩)]) := rfl
theorem o_mk0 {Φ : Funs} {e : TypeId} {k : V → TR} : op1V Φ (.mk e []) [] k = k (.list e []) := rfl
theorem prs_get {l : List Pr} {i : Nat} {p : Pr} (h : l[i]? = some p) : (l.map fun p => V.agg p.vs)[i]? = some (.agg p.vs) := by simp [h]
theorem prs_scalar (l : List Pr) : (l.map fun p => V.agg p.vs).all scalarE = true := by simp [scalarE, Pr.vs, scalarV]
theorem ints_scalar (l : List Int) (k : IntKind) : (l.map (V.int k)).all scalarE = true := by simp [scalarE, scalarV]
theorem o_appS {Φ : Funs} {f : V → TR} {e : TypeId} {bs : Nat} {sc : Bool} {xs ys : List V} {n : Nat} (hs : ys.all scalarE = true) (hn : xs.length + ys.length ≤ n) (h : n * bs ≤ 140737488355328) : op1V Φ (.app e bs sc) [[.list e xs], [.list e ys]] f = f (.list e (xs ++ ys)) := by
  rw [o_app, if_pos ⟨fun _ => hs, Nat.le_trans (Nat.mul_le_mul_right bs hn) h⟩]
/-! ### IndexFunc -/
/-- the first one that is so, from the i-th on; -1 -/
def idxF {β : Type} (P : β → Bool) : Nat → List β → Int
  | _, [] => -1
  | i, x :: r => if P x then i else idxF P (i + 1) r
theorem idxF_any {β : Type} (P : β → Bool) : ∀ (l : List β) (i : Nat), decide (0 ≤ idxF P i l) = l.any P
  | [], i => by simp [idxF]
  | x :: r, i => by
    unfold idxF
    by_cases h : P x
    · simp [h]
    · simp [h, idxF_any P r (i + 1)]
/-- what a closure answers of processes -/
def Ans23 (c : V) (P : Pr → Bool) : Prop := defV c = true ∧ ∀ (p : Pr) (k : V → TR), op1V (Fix T) (.callc [(36, 0, [[true]]), (39, 0, []), (45, 0, []), (47, 0, []), (64, 0, [[true]])] [[(1, 0), (2, 1), (3, 2)]] [[some (0, 0)]]) [[c], p.vs, p.vs, p.vs] k = k (.bool (P p))
theorem c_def {c : V} {r : TR} (h : defV c = true) : chkV 2 c r = r := by cases c <;> first | rfl | cases h
theorem s35 (c : V) (P : Pr → Bool) (hc : Ans23 c P) (l : List Pr) (hl : l.length < 4611686018427387904) : Fix T 35 0 [[prs 30 l], [c]] = some [[.int .i64 (idxF P 0 l)]] := by
  refine e35_0 (l.length + 1) ?_
  have hloop : ∀ i : Nat, i ≤ l.length → lpV [1, 1] (F35_0_b0 (Fix T) (l.length + 1) (prs 30 l) c (.int .i64 l.length)) (l.length + 1) [.int .i64 0, .int .i64 (i : Int)] = if idxF P i (l.drop i) = -1 then some (.exit 0 [1, 1] [.int .i64 0, .int .i64 l.length]) else some (.ret [[.int .i64 (idxF P i (l.drop i))]]) := by
    intro i hi
    refine lp_ind (S := Nat) (fun i => [.int .i64 0, .int .i64 (i : Int)]) (fun i => i ≤ l.length) (fun i => l.length - i) (fun i => if idxF P i (l.drop i) = -1 then some (.exit 0 [1, 1] [.int .i64 0, .int .i64 l.length]) else some (.ret [[.int .i64 (idxF P i (l.drop i))]])) ?_ _ i hi (by omega)
    intro i hi
    by_cases h : i < l.length
    · have hd : l.drop i = l[i] :: l.drop (i + 1) := List.drop_eq_getElem_cons h
      have b1 : ((i : Int) < l.length) = True := eq_true (by omega)
      have hg := prs_get (List.getElem?_eq_getElem h)
      simp only [hd, idxF]
      by_cases hP : P l[i]
      · refine .inr ⟨?_, ?_⟩
        · have hne : ((i : Int) = -1) = False := eq_false (by omega)
          have h2 := hc.2 l[i]
          simp only [Pr.vs] at h2 hg
          have h3 : ∀ (k : V → V → V → TR), opnV (Fix T) (.ldi 0 3 true [true, true, true]) [[.agg [.int .i64 l[i].id, .int .i64 l[i].lv, .int .i64 l[i].sem]]] 3 k = _ := fun k => o_ldi3 (p := l[i]) (.inl rfl)
          simp only [F35_0_b0, prs, Pr.vs, b1, hg, h3, h2, hP, hne, c_def hc.1, VBs, reduceCtorEq, Nat.reduceEqDiff, Option.bind_some, Option.bind_none, List.getElem?_cons_zero, List.getElem?_cons_succ, if_true, if_false, ne_eq]
        · simp only [hP, if_true]
          split <;> trivial
      · refine .inl ⟨i + 1, ?_, by omega, by omega, ?_⟩
        · have h2 := hc.2 l[i]
          simp only [Pr.vs] at h2 hg
          have h3 : ∀ (k : V → V → V → TR), opnV (Fix T) (.ldi 0 3 true [true, true, true]) [[.agg [.int .i64 l[i].id, .int .i64 l[i].lv, .int .i64 l[i].sem]]] 3 k = _ := fun k => o_ldi3 (p := l[i]) (.inl rfl)
          simp only [F35_0_b0, prs, Pr.vs, b1, hg, h3, h2, hP, c_def hc.1, w_succ (show i < 4611686018427387904 by omega), VBs, reduceCtorEq, Nat.reduceEqDiff, Option.bind_some, Option.bind_none, List.getElem?_cons_zero, List.getElem?_cons_succ, if_true, if_false, ne_eq]
        · simp only [hP]; rfl
    · obtain rfl : i = l.length := by omega
      have b1 : ((l.length : Int) < l.length) = False := eq_false (by omega)
      refine .inr ⟨?_, ?_⟩
      · simp only [F35_0_b0, prs, b1, List.drop_length, idxF, if_true, VBs, reduceCtorEq, Nat.reduceEqDiff, Option.bind_some, Option.bind_none, List.getElem?_cons_zero, List.getElem?_cons_succ, if_true, if_false, ne_eq]
      · simp only [List.drop_length, idxF, if_true]; trivial
  have h0 := hloop 0 (by omega)
  simp only [List.drop_zero, Int.natCast_zero] at h0
  by_cases hn : idxF P 0 l = -1
  · rw [if_pos hn] at h0
    simp only [F35_0, prs, List.length_map, h0, hn, VBs, reduceCtorEq, Nat.reduceEqDiff, Option.bind_some, Option.bind_none, List.getElem?_cons_zero, List.getElem?_cons_succ, if_true, if_false, ne_eq]
  · rw [if_neg hn] at h0
    simp only [F35_0, prs, List.length_map, h0, VBs, reduceCtorEq, Nat.reduceEqDiff, Option.bind_some, Option.bind_none, List.getElem?_cons_zero, List.getElem?_cons_succ, if_true, if_false, ne_eq]
theorem s44 (c : V) (P : Pr → Bool) (hc : Ans23 c P) (l : List Pr) (hl : l.length < 4611686018427387904) : Fix T 44 0 [[prs 30 l], [c]] = some [[.bool (l.any P)]] := by
  refine e44_0 0 ?_
  have h := s35 c P hc l hl
  simp only [F44_0, prs, c_def hc.1, h, idxF_any, VBs, reduceCtorEq, Nat.reduceEqDiff, Option.bind_some, Option.bind_none, List.getElem?_cons_zero, List.getElem?_cons_succ, if_true, if_false, ne_eq]
theorem ans36 (sem : Int) : Ans23 (.clo 36 [.agg [.int .i64 sem]]) (fun p => decide (p.sem = sem)) := by
  refine ⟨rfl, fun p k => ?_⟩
  have h : Fix T 36 0 [p.vs, [.int .i64 sem]] = some [[.bool (decide (p.sem = sem))]] := by
    refine e36_0 0 ?_
    simp only [F36_0, Pr.vs, VBs, reduceCtorEq, Nat.reduceEqDiff, Option.bind_some, Option.bind_none, List.getElem?_cons_zero, List.getElem?_cons_succ, if_true, if_false, ne_eq]
  simp only [Pr.vs] at *
  rw [o_callc]
  simp [lookC, caps, cap1, maskOk, scalarV, pks, pk, h, outV, outV1, k1]
theorem ans64 (id : Int) : Ans23 (.clo 64 [.agg [.int .i64 id]]) (fun p => decide (p.id = id)) := by
  refine ⟨rfl, fun p k => ?_⟩
  have h : Fix T 64 0 [p.vs, [.int .i64 id]] = some [[.bool (decide (p.id = id))]] := by
    refine e64_0 0 ?_
    simp only [F64_0, Pr.vs, VBs, reduceCtorEq, Nat.reduceEqDiff, Option.bind_some, Option.bind_none, List.getElem?_cons_zero, List.getElem?_cons_succ, if_true, if_false, ne_eq]
  simp only [Pr.vs] at *
  rw [o_callc]
  simp [lookC, caps, cap1, maskOk, scalarV, pks, pk, h, outV, outV1, k1]
theorem ans45 : Ans23 (.clo 45 []) (fun p => decide (p.sem ≠ 0)) := by
  refine ⟨rfl, fun p k => ?_⟩
  have h : Fix T 45 0 [p.vs] = some [[.bool (decide (p.sem ≠ 0))]] := by
    refine e45_0 0 ?_
    simp only [F45_0, Pr.vs, VBs, reduceCtorEq, Nat.reduceEqDiff, Option.bind_some, Option.bind_none, List.getElem?_cons_zero, List.getElem?_cons_succ, if_true, if_false, ne_eq]
  simp only [Pr.vs] at *
  rw [o_callc]
  simp [lookC, caps, pks, pk, h, outV, outV1, k1]
theorem o_mkc1 {Φ : Funs} {g : Nat} {n : Int} {f : V → TR} : op1V Φ (.mkc g) [[.int .i64 n]] f = f (.clo g [.agg [.int .i64 n]]) := rfl
theorem s40 (l : List Pr) (id : Int) (hl : l.length < 4611686018427387904) : Fix T 40 0 [[prs 30 l], [.int .i64 id]] = some [[.bool (l.any fun p => decide (p.id = id))]] := by
  refine e40_0 0 ?_
  have h := s44 _ _ (ans64 id) l hl
  simp only [F40_0, prs, o_mkc1, h, VBs, reduceCtorEq, Nat.reduceEqDiff, Option.bind_some, Option.bind_none, List.getElem?_cons_zero, List.getElem?_cons_succ, if_true, if_false, ne_eq]
end Go.Proofs.YtlhcgiegganbpaaDoorVs
set_option linter.unusedVariables false
set_option linter.unusedSimpArgs false
set_option maxRecDepth 100000
namespace Go.Proofs.YtlhcgiegganbpaaDoorVs
structure Sc where
  busy : Bool
  cur : Pr
  left : Int
  ready : List Pr
  waits : List Pr
  ticks : List (List Int)
abbrev ints (l : List Int) : V := .list 3 (l.map (V.int .i64))
abbrev tks (l : List (List Int)) : V := .list 63 (l.map ints)
def Sc.vs (e : TypeId) (s : Sc) : List V := [.bool s.busy, .int .i64 s.cur.id, .int .i64 s.cur.lv, .int .i64 s.cur.sem, .int .i64 s.left, prs e s.ready, prs e s.waits, tks s.ticks]
/-- not too many -/
structure Sc.Few (s : Sc) : Prop where
  r : s.ready.length ≤ 500
  w : s.waits.length ≤ 500
  t : s.ticks.length ≤ 500
theorem o_appP {Φ : Funs} {f : V → TR} {e : TypeId} {sc : Bool} {l : List Pr} {p : Pr} (h : l.length ≤ 500) : op1V Φ (.app e 24 sc) [[.list e (l.map fun p => .agg p.vs)], [.list e [.agg p.vs]]] f = f (prs e (l ++ [p])) := by
  have := o_appS (Φ := Φ) (f := f) (e := e) (bs := 24) (sc := sc) (xs := l.map fun p => .agg p.vs) (ys := [.agg p.vs]) (n := 501) (prs_scalar [p]) (by simp; omega) (by decide)
  rw [this]
  simp [prs]
def nilP : Pr := ⟨0, 0, 0⟩
def Sc.rest (s : Sc) : Sc := { s with busy := false, cur := nilP, left := 0 }
theorem s33 (s : Sc) : Fix T 33 0 [s.vs 30] = some [s.rest.vs 30] := by
  refine e33_0 0 ?_
  simp only [F33_0, Sc.vs, VBs, reduceCtorEq, Nat.reduceEqDiff, Option.bind_some, Option.bind_none, List.getElem?_cons_zero, List.getElem?_cons_succ, if_true, if_false, ne_eq]
  rfl
def Sc.quant (s : Sc) (lv : Int) : Int × Sc := match s.ticks[lv.toNat]? with
  | some (t :: r) => (t, { s with ticks := s.ticks.set lv.toNat r })
  | _ => (-1, s)
theorem o_ldoL {Φ : Funs} {e : TypeId} {i : Nat} {l : List (List Int)} {p : List Int} (h : l[i]? = some p) {k : V → TR} : op1V Φ (.ldo 0 1 false) [[.int .i64 (i : Int)], [.list e (l.map ints)]] k = k (ints p) := by
  simp [op1V, VF.sem, vsub, h, k1]
theorem o_stoL {Φ : Funs} {e : TypeId} {i : Nat} {l : List (List Int)} {q : List Int} (h : i < l.length) {k : V → TR} : op1V Φ (.sto 0 1 [(0, 0)]) [[.int .i64 (i : Int)], [.list e (l.map ints)], [ints q]] k = k (.list e ((l.set i q).map ints)) := by
  simp [op1V, VF.sem, h, vput, pks, pk, k1, List.map_set]
theorem o_ldiL {Φ : Funs} {m : List Bool} {p : List Int} (hm : m = [] ∨ m = [false]) {k : V → TR} : op1V Φ (.ldi 0 1 false m) [[ints p]] k = k (ints p) := by
  rcases hm with rfl | rfl <;> simp [op1V, VF.sem, vsub, k1, maskOk]
theorem o_ldiN {Φ : Funs} {m : List Bool} {a : Int} (hm : m = [] ∨ m = [true]) {k : V → TR} : op1V Φ (.ldi 0 1 false m) [[.int .i64 a]] k = k (.int .i64 a) := by
  rcases hm with rfl | rfl <;> simp [op1V, VF.sem, vsub, k1, maskOk, scalarV]
theorem s34 (s : Sc) (lv : Int) (h : 0 ≤ lv) : Fix T 34 0 [s.vs 30, [.int .i64 lv]] = some [[.int .i64 (s.quant lv).1], (s.quant lv).2.vs 30] := by
  refine e34_0 0 ?_
  obtain ⟨n, rfl⟩ := Int.eq_ofNat_of_zero_le h
  obtain ⟨busy, ⟨id, lv', sem⟩, left, ready, waits, ticks⟩ := s
  by_cases hn : n < ticks.length
  · have hg := List.getElem?_eq_getElem hn
    have b1 : ((ticks.length : Int) ≤ n) = False := eq_false (by omega)
    have b2 : ((n : Int) < ticks.length) = True := eq_true (by omega)
    have b3 : ((0 : Int) ≤ n) = True := eq_true (by omega)
    have hld : ∀ k : V → TR, op1V (Fix T) (.ldo 0 1 false) [[.int .i64 (n : Int)], [.list 63 (ticks.map ints)]] k = k (ints ticks[n]) := fun k => o_ldoL hg
    have hst : ∀ (q : List Int) (k : V → TR), op1V (Fix T) (.sto 0 1 [(0, 0)]) [[.int .i64 (n : Int)], [.list 63 (ticks.map ints)], [ints q]] k = k (.list 63 ((ticks.set n q).map ints)) := fun q k => o_stoL hn
    generalize ticks[n] = t at hg hld
    cases t with
    | nil =>
      simp only [ints, List.map_nil] at hld
      simp only [F34_0, Sc.vs, Sc.quant, Int.toNat_natCast, hg, b1, b2, b3, hld, o_eix, tks, prs, ints, List.map_nil, List.length_map, List.length_nil, Int.natCast_zero, and_self, VBs, reduceCtorEq, Nat.reduceEqDiff, Option.bind_some, Option.bind_none, List.getElem?_cons_zero, List.getElem?_cons_succ, if_true, if_false, ne_eq]
    | cons a r =>
      have b4 : (((r.length + 1 : Nat) : Int) = 0) = False := eq_false (by omega)
      have b5 : ((0 : Int) ≤ 1 ∧ (1 : Int) ≤ ((r.length + 1 : Nat) : Int)) = True := eq_true (by omega)
      have hix : ∀ k : V → TR, op1V (Fix T) (.idx 3) [[.list 3 (V.int .i64 a :: r.map (V.int .i64))], [.int .i64 0]] k = k (.int .i64 a) := fun k => o_idxN (j := 0)
      have hsl : ∀ k : V → TR, op1V (Fix T) (.slc 3 true false) [[.list 3 (V.int .i64 a :: r.map (V.int .i64))], [.int .i64 1]] k = k (.list 3 (r.map (V.int .i64))) := fun k => by
        rw [o_slcL, if_pos (by simp <;> omega)]; rfl
      have hst2 := hst r
      simp only [ints, List.map_cons] at hld hst2
      simp only [F34_0, Sc.vs, Sc.quant, Int.toNat_natCast, hg, b1, b2, b3, b4, hld, hix, hsl, hst2, o_eix, tks, prs, ints, List.map_cons, List.length_map, List.length_cons, Int.natCast_zero, and_self, VBs, reduceCtorEq, Nat.reduceEqDiff, Option.bind_some, Option.bind_none, List.getElem?_cons_zero, List.getElem?_cons_succ, if_true, if_false, ne_eq]
  · have hg : ticks[n]? = none := by simp; omega
    have b1 : ((ticks.length : Int) ≤ n) = True := eq_true (by omega)
    simp only [F34_0, Sc.vs, Sc.quant, Int.toNat_natCast, hg, b1, tks, prs, List.length_map, VBs, reduceCtorEq, Nat.reduceEqDiff, Option.bind_some, Option.bind_none, List.getElem?_cons_zero, List.getElem?_cons_succ, if_true, if_false, ne_eq]
def Sc.fin (s : Sc) (b : Bool) : Sc := if b = true ∧ 0 < s.left then { s with left := s.left - 1 } else s
def Sc.put (s : Sc) (base : Bool) : Sc := if (s.busy && base && decide (s.left = 0)) = true then Sc.rest { s with ready := s.ready ++ [s.cur] } else s
def Sc.next (s : Sc) : Option Sc := match s.ready with
  | [] => none
  | p :: r => let q := Sc.quant { s with busy := true, cur := p, ready := r } p.lv; some { q.2 with left := q.1 }
def Sc.turn (s : Sc) (base : Bool) : (Pr × Bool) × Sc :=
  let s1 := s.put base
  if s1.busy = true then let s2 := s1.fin base; ((s2.cur, true), s2)
  else match s1.next with
    | none => ((nilP, false), s1)
    | some s2 => let s3 := s2.fin true; ((s3.cur, true), s3)
theorem s6A (s : Sc) (n : Nat) (hb : s.busy = true) (hl : s.left = 0) (hr : s.ready.length ≤ 500) : ∀ s1, s1 = s.put true → F6_0 (Fix T) n (.bool s.busy) (.int .i64 s.cur.id) (.int .i64 s.cur.lv) (.int .i64 s.cur.sem) (.int .i64 s.left) (prs 30 s.ready) (prs 30 s.waits) (tks s.ticks) (.bool true) =
    F6_0 (Fix T) n (.bool s1.busy) (.int .i64 s1.cur.id) (.int .i64 s1.cur.lv) (.int .i64 s1.cur.sem) (.int .i64 s1.left) (prs 30 s1.ready) (prs 30 s1.waits) (tks s1.ticks) (.bool true) := by
  intro s1 hs
  obtain ⟨busy, cur, left, ready, waits, ticks⟩ := s
  simp only at hb hl hr
  subst hb; subst hl
  have h33 := s33 { busy := true, cur, left := 0, ready := ready ++ [cur], waits, ticks }
  have ha : ∀ f : V → TR, op1V (Fix T) (.app 30 24 false) [[.list 30 (ready.map fun p => .agg p.vs)], [.list 30 [.agg (Pr.vs ⟨cur.id, cur.lv, cur.sem⟩)]]] f = f (prs 30 (ready ++ [cur])) := fun f => o_appP hr
  have h0 : ((0 : Int) = 0) = True := eq_true rfl
  simp only [Sc.put, h0, decide_true, Bool.and_self, if_true] at hs
  subst hs
  simp only [Sc.vs, prs] at h33 ha ⊢
  simp only [Sc.rest, nilP] at h33 ⊢
  simp only [F6_0, o_mk3, ha, h33, h0, VBs, reduceCtorEq, Nat.reduceEqDiff, Option.bind_some, Option.bind_none, List.getElem?_cons_zero, List.getElem?_cons_succ, if_true, if_false, ne_eq]
theorem o_eix0 {Φ : Funs} {e : TypeId} {x : V} {xs : List V} {f : V → TR} : op1V Φ (.eix e) [[.list e (x :: xs)], [.int .i64 0]] f = f (.int .i64 0) := by
  rw [o_eix, if_pos (by simp <;> omega)]
theorem o_slc1 {Φ : Funs} {e : TypeId} {x : V} {xs : List V} {f : V → TR} : op1V Φ (.slc e true false) [[.list e (x :: xs)], [.int .i64 1]] f = f (.list e xs) := by
  rw [o_slcL, if_pos (by simp <;> omega)]; rfl
theorem o_ldo30 {Φ : Funs} {e : TypeId} {l : List V} {p : Pr} {k : V → V → V → TR} : opnV Φ (.ldo 0 3 true) [[.int .i64 0], [.list e (.agg p.vs :: l)]] 3 k = k (.int .i64 p.id) (.int .i64 p.lv) (.int .i64 p.sem) := by
  rw [o_n3]
  simp [VF.sem, vsub, Pr.vs]
  rfl
/-- the parts of a Sched as they stand -/
noncomputable abbrev Sc.F6 (s : Sc) (n : Nat) (base : Bool) : TR := F6_0 (Fix T) n (.bool s.busy) (.int .i64 s.cur.id) (.int .i64 s.cur.lv) (.int .i64 s.cur.sem) (.int .i64 s.left) (prs 30 s.ready) (prs 30 s.waits) (tks s.ticks) (.bool base)
theorem s6B (s : Sc) (n : Nat) (base : Bool) (hb : s.busy = true) (hl : ¬ (base = true ∧ s.left = 0)) (hlr : s.left ≤ 9223372036854775807) : s.F6 n base = some (.ret [(s.fin base).cur.vs, [.bool true], (s.fin base).vs 30]) := by
  obtain ⟨busy, cur, left, ready, waits, ticks⟩ := s
  simp only at hb hl hlr
  subst hb
  by_cases hbase : base = true
  · subst hbase
    have h0 : (left = 0) = False := eq_false (fun h => hl ⟨rfl, h⟩)
    by_cases hp : 0 < left
    · have bp := eq_true hp
      have w1 : IntKind.i64.wrap (left - 1) = left - 1 := w_i64 (by omega)
      simp only [Sc.F6, F6_0, Sc.fin, Sc.vs, Pr.vs, prs, h0, bp, w1, and_self, if_true, VBs, reduceCtorEq, Nat.reduceEqDiff, Option.bind_some, Option.bind_none, List.getElem?_cons_zero, List.getElem?_cons_succ, if_true, if_false, ne_eq]
    · have bp := eq_false hp
      simp only [Sc.F6, F6_0, Sc.fin, Sc.vs, Pr.vs, prs, h0, bp, and_false, if_false, VBs, reduceCtorEq, Nat.reduceEqDiff, Option.bind_some, Option.bind_none, List.getElem?_cons_zero, List.getElem?_cons_succ, if_true, if_false, ne_eq]
  · have hbase : base = false := by simpa using hbase
    subst hbase
    simp only [Sc.F6, F6_0, Sc.fin, Sc.vs, Pr.vs, prs, false_and, if_false, VBs, reduceCtorEq, Nat.reduceEqDiff, Option.bind_some, Option.bind_none, List.getElem?_cons_zero, List.getElem?_cons_succ, if_true, if_false, ne_eq]
theorem s6N (s : Sc) (n : Nat) (base : Bool) (hb : s.busy = false) (hr : s.ready = []) : s.F6 n base = some (.ret [nilP.vs, [.bool false], s.vs 30]) := by
  obtain ⟨busy, cur, left, ready, waits, ticks⟩ := s
  simp only at hb hr
  subst hb; subst hr
  simp only [Sc.F6, F6_0, Sc.vs, Pr.vs, nilP, prs, List.map_nil, List.length_nil, Int.natCast_zero, VBs, reduceCtorEq, Nat.reduceEqDiff, Option.bind_some, Option.bind_none, List.getElem?_cons_zero, List.getElem?_cons_succ, if_true, if_false, ne_eq]
theorem s6C (s : Sc) (n : Nat) (base : Bool) (hb : s.busy = false) (p : Pr) (r : List Pr) (hr : s.ready = p :: r) (hlv : 0 ≤ p.lv) (s2 : Sc) (h2 : s.next = some s2) (hlr : s2.left ≤ 9223372036854775807) : s.F6 n base = some (.ret [(s2.fin true).cur.vs, [.bool true], (s2.fin true).vs 30]) := by
  obtain ⟨busy, cur, left, ready, waits, ticks⟩ := s
  simp only at hb hr
  subst hb; subst hr
  have h34 := s34 { busy := true, cur := p, left, ready := r, waits, ticks } p.lv hlv
  simp only [Sc.next, Option.some.injEq] at h2
  have hq : ∃ q ts, Sc.quant { busy := true, cur := p, left, ready := r, waits, ticks } p.lv = (q, { busy := true, cur := p, left, ready := r, waits, ticks := ts }) := by
    unfold Sc.quant
    split
    · exact ⟨_, _, rfl⟩
    · exact ⟨_, _, rfl⟩
  obtain ⟨q, ts, hq⟩ := hq
  rw [hq] at h34 h2
  subst h2
  simp only at hlr
  have h0 : (((r.length + 1 : Nat) : Int) = 0) = False := eq_false (by omega)
  simp only [Sc.vs, prs] at h34
  by_cases hp : 0 < q
  · have bp := eq_true hp
    have w1 : IntKind.i64.wrap (q - 1) = q - 1 := w_i64 (by omega)
    simp only [Sc.F6, F6_0, Sc.fin, Sc.vs, prs, List.map_cons, List.length_cons, List.length_map, h0, bp, w1, h34, o_eix0, o_slc1, o_ldo30, and_self, if_true, VBs, reduceCtorEq, Nat.reduceEqDiff, Option.bind_some, Option.bind_none, List.getElem?_cons_zero, List.getElem?_cons_succ, if_true, if_false, ne_eq]
    rfl
  · have bp := eq_false hp
    simp only [Sc.F6, F6_0, Sc.fin, Sc.vs, prs, List.map_cons, List.length_cons, List.length_map, h0, bp, h34, o_eix0, o_slc1, o_ldo30, and_false, if_false, VBs, reduceCtorEq, Nat.reduceEqDiff, Option.bind_some, Option.bind_none, List.getElem?_cons_zero, List.getElem?_cons_succ, if_true, if_false, ne_eq]
    rfl
/-- what is known of a Sched's numbers -/
structure Sc.Ok (s : Sc) : Prop where
  few : s.Few
  left : s.left ≤ 65536
  lvs : ∀ p ∈ s.cur :: s.ready, 0 ≤ p.lv
  tk : ∀ t ∈ s.ticks, ∀ n ∈ t, n ≤ 65536
theorem quant_le (s : Sc) (lv : Int) (h : ∀ t ∈ s.ticks, ∀ n ∈ t, n ≤ 65536) : (s.quant lv).1 ≤ 65536 := by
  unfold Sc.quant
  split
  · rename_i t r hg
    exact h _ (List.mem_of_getElem? hg) t (by simp)
  · show (-1 : Int) ≤ 65536; omega
theorem s6' (s : Sc) (n : Nat) (base : Bool) (hs : s.busy = false ∨ ¬ (base = true ∧ s.left = 0)) (hl : s.left ≤ 65536) (hlv : ∀ p ∈ s.ready, 0 ≤ p.lv) (htk : ∀ t ∈ s.ticks, ∀ n ∈ t, n ≤ 65536) : s.put base = s ∧ s.F6 n base = some (.ret [(s.turn base).1.1.vs, [.bool (s.turn base).1.2], (s.turn base).2.vs 30]) := by
  have hput : s.put base = s := by
    unfold Sc.put
    rw [if_neg]
    simp only [Bool.and_eq_true, decide_eq_true_eq]
    rintro ⟨⟨h1, h2⟩, h3⟩
    rcases hs with h | h
    · rw [h] at h1; cases h1
    · exact h ⟨h2, h3⟩
  refine ⟨hput, ?_⟩
  by_cases hb : s.busy = true
  · have hs' : ¬ (base = true ∧ s.left = 0) := by
      rcases hs with h | h
      · rw [h] at hb; cases hb
      · exact h
    rw [s6B s n base hb hs' (by omega)]
    simp only [Sc.turn, hput, hb, if_true]
  · have hb : s.busy = false := by simpa using hb
    cases hr : s.ready with
    | nil =>
      rw [s6N s n base hb hr]
      simp only [Sc.turn, hput, hb, Sc.next, hr]
      rfl
    | cons p r =>
      have hq := quant_le { s with busy := true, cur := p, ready := r } p.lv htk
      rw [s6C s n base hb p r hr (hlv p (by simp [hr])) _ (by simp only [Sc.next, hr]; rfl) (by simp only; omega)]
      simp only [Sc.turn, hput, hb, Sc.next, hr]
      rfl
theorem s6 (s : Sc) (base : Bool) (h : s.Ok) : Fix T 6 0 [s.vs 30, [.bool base]] = some [(s.turn base).1.1.vs, [.bool (s.turn base).1.2], (s.turn base).2.vs 30] := by
  refine e6_0 0 ?_
  show s.F6 0 base = _
  have hlr : ∀ p ∈ s.ready, 0 ≤ p.lv := fun p hp => h.lvs p (List.mem_cons_of_mem _ hp)
  by_cases hc : s.busy = true ∧ base = true ∧ s.left = 0
  · obtain ⟨hb, rfl, hl⟩ := hc
    have e := s6A s 0 hb hl h.few.r _ rfl
    have hp : s.put true = Sc.rest { s with ready := s.ready ++ [s.cur] } := by simp [Sc.put, hb, hl]
    have hput2 : (s.put true).put true = s.put true := by rw [hp]; rfl
    have h2 := (s6' (s.put true) 0 true (.inl (by rw [hp]; rfl)) (by rw [hp]; show (0 : Int) ≤ 65536; omega) (by
      rw [hp]
      intro p hp
      simp only [Sc.rest, List.mem_append, List.mem_singleton] at hp
      rcases hp with hp | rfl
      · exact hlr p hp
      · exact h.lvs _ (by simp)) (by rw [hp]; exact h.tk)).2
    rw [show s.F6 0 true = (s.put true).F6 0 true from e, h2]
    have : (s.put true).turn true = s.turn true := by
      unfold Sc.turn
      rw [hput2]
    rw [this]
  · refine (s6' s 0 base ?_ h.left hlr h.tk).2
    by_cases hb : s.busy = true
    · exact .inr fun h => hc ⟨hb, h⟩
    · exact .inl (by simpa using hb)
end Go.Proofs.YtlhcgiegganbpaaDoorVs
set_option linter.unusedVariables false
set_option linter.unusedSimpArgs false
set_option maxRecDepth 100000
namespace Go.Proofs.YtlhcgiegganbpaaDoorVs
theorem o_ldiP {Φ : Funs} {e : TypeId} {m : List Bool} {xs : List V} (hm : m = [] ∨ m = [false]) {k : V → TR} : op1V Φ (.ldi 0 1 false m) [[.list e xs]] k = k (.list e xs) := by
  rcases hm with rfl | rfl <;> simp [op1V, VF.sem, vsub, k1, maskOk]
theorem s74 (n : Int) (h : 0 ≤ n ∧ n ≤ 1000) : Fix T 74 0 [[], [.int .i64 n]] = some [[.list 30 []]] := gv74 (by simp only [growφ]; rw [if_pos h])
theorem s65 (a b : List Pr) (h : a.length + b.length ≤ 1000) : Fix T 65 0 [[.list 77 [prs 30 a, prs 30 b]]] = some [[prs 30 (a ++ b)]] := by
  refine e65_0 3 ?_
  have b1 : ((0 : Int) < 2) = True := eq_true (by decide)
  have b2 : ((1 : Int) < 2) = True := eq_true (by decide)
  have b3 : ((2 : Int) < 2) = False := eq_false (by decide)
  have b4 : ((a.length : Int) < 0) = False := eq_false (by omega)
  have b5 : (((a.length + b.length : Nat) : Int) < 0) = False := eq_false (by omega)
  have w1 : IntKind.i64.wrap (0 + (a.length : Int)) = (a.length : Int) := w_in (by omega) (by omega)
  have w2 : IntKind.i64.wrap ((a.length : Int) + (b.length : Int)) = ((a.length + b.length : Nat) : Int) := w_in (by omega) (by omega)
  have w3 : IntKind.i64.wrap (0 + 1) = 1 := by decide
  have w4 : IntKind.i64.wrap (1 + 1) = 2 := by decide
  have i0 : ∀ k : V → TR, op1V (Fix T) (.idx 77) [[.list 77 [prs 30 a, prs 30 b]], [.int .i64 0]] k = k (prs 30 a) := fun k => o_idxN (j := 0)
  have i1 : ∀ k : V → TR, op1V (Fix T) (.idx 77) [[.list 77 [prs 30 a, prs 30 b]], [.int .i64 1]] k = k (prs 30 b) := fun k => o_idxN (j := 1)
  have l0 : ∀ (a : List Pr) (k : V → TR), op1V (Fix T) (.ldi 0 1 false [false]) [[prs 30 a]] k = k (prs 30 a) := fun a k => o_ldiP (.inr rfl)
  have hA : lpV [1, 1] (F65_0_b0 (Fix T) 3 (.list 77 [prs 30 a, prs 30 b]) (.int .i64 2)) 3 [.int .i64 0, .int .i64 0] = some (.exit 0 [1, 1] [.int .i64 ((a.length + b.length : Nat) : Int), .int .i64 2]) := by
    rw [lp_norm (vs' := [.int .i64 a.length, .int .i64 1]) (by simp only [prs] at i0 l0; simp only [F65_0_b0, b1, b4, i0, l0, w1, w3, prs, List.length_map, VBs, reduceCtorEq, Nat.reduceEqDiff, Option.bind_some, Option.bind_none, List.getElem?_cons_zero, List.getElem?_cons_succ, if_true, if_false, ne_eq]),
      lp_norm (vs' := [.int .i64 ((a.length + b.length : Nat) : Int), .int .i64 2]) (by simp only [prs] at i1 l0; simp only [F65_0_b0, b2, b5, i1, l0, w2, w4, prs, List.length_map, VBs, reduceCtorEq, Nat.reduceEqDiff, Option.bind_some, Option.bind_none, List.getElem?_cons_zero, List.getElem?_cons_succ, if_true, if_false, ne_eq]),
      lp_exit (j := 0) (l' := [1, 1]) (vs' := [.int .i64 ((a.length + b.length : Nat) : Int), .int .i64 2]) (by simp only [F65_0_b0, b3, VBs, reduceCtorEq, Nat.reduceEqDiff, Option.bind_some, Option.bind_none, List.getElem?_cons_zero, List.getElem?_cons_succ, if_true, if_false, ne_eq])]
  have hB : lpV [1, 1, 1] (F65_0_b1 (Fix T) 3 (.list 77 [prs 30 a, prs 30 b]) (.int .i64 2)) 3 [.list 30 [], .unit, .int .i64 0] = some (.exit 2 [1, 1, 1] [.unit, prs 30 (a ++ b), .int .i64 2]) := by
    have a1 : ∀ k : V → TR, op1V (Fix T) (.app 30 24 true) [[.list 30 []], [prs 30 a]] k = k (prs 30 a) := fun k => by
      have := o_appS (Φ := Fix T) (f := k) (e := 30) (bs := 24) (sc := true) (xs := []) (ys := a.map fun p => .agg p.vs) (n := 1000) (prs_scalar a) (by simp; omega) (by decide)
      simpa using this
    have a2 : ∀ k : V → TR, op1V (Fix T) (.app 30 24 true) [[prs 30 a], [prs 30 b]] k = k (prs 30 (a ++ b)) := fun k => by
      have := o_appS (Φ := Fix T) (f := k) (e := 30) (bs := 24) (sc := true) (xs := a.map fun p => .agg p.vs) (ys := b.map fun p => .agg p.vs) (n := 1000) (prs_scalar b) (by simp; omega) (by decide)
      simpa [prs] using this
    rw [lp_norm (vs' := [prs 30 a, .unit, .int .i64 1]) (by simp only [prs] at i0 l0 a1; simp only [F65_0_b1, b1, i0, l0, a1, w3, prs, VBs, reduceCtorEq, Nat.reduceEqDiff, Option.bind_some, Option.bind_none, List.getElem?_cons_zero, List.getElem?_cons_succ, if_true, if_false, ne_eq]),
      lp_norm (vs' := [prs 30 (a ++ b), .unit, .int .i64 2]) (by simp only [prs] at i1 l0 a2; simp only [F65_0_b1, b2, i1, l0, a2, w4, prs, VBs, reduceCtorEq, Nat.reduceEqDiff, Option.bind_some, Option.bind_none, List.getElem?_cons_zero, List.getElem?_cons_succ, if_true, if_false, ne_eq]),
      lp_exit (j := 2) (l' := [1, 1, 1]) (vs' := [.unit, prs 30 (a ++ b), .int .i64 2]) (by simp only [F65_0_b1, b3, VBs, reduceCtorEq, Nat.reduceEqDiff, Option.bind_some, Option.bind_none, List.getElem?_cons_zero, List.getElem?_cons_succ, if_true, if_false, ne_eq])]
  have h74 := s74 ((a.length + b.length : Nat) : Int) (by omega)
  have hl2 : (([prs 30 a, prs 30 b].length : Nat) : Int) = 2 := rfl
  simp only [prs] at hA hB hl2 ⊢
  simp only [F65_0, hl2, hA, hB, h74, VBs, reduceCtorEq, Nat.reduceEqDiff, Option.bind_some, Option.bind_none, List.getElem?_cons_zero, List.getElem?_cons_succ, if_true, if_false, ne_eq]
def Sc.all (s : Sc) : List Pr := s.ready ++ s.waits ++ (if s.busy = true then [s.cur] else [])
theorem s41 (s : Sc) (h : s.ready.length ≤ 250 ∧ s.waits.length ≤ 250) : Fix T 41 0 [s.vs 30] = some [[prs 30 s.all]] := by
  refine e41_0 0 ?_
  obtain ⟨busy, cur, left, ready, waits, ticks⟩ := s
  simp only at h
  have h65 := s65 ready waits (by omega)
  have hmk : ∀ k : V → TR, op1V (Fix T) (.mk 77 [(false, [(0, 0)]), (false, [(1, 0)])]) [[prs 30 ready], [prs 30 waits]] k = k (.list 77 [prs 30 ready, prs 30 waits]) := fun k => rfl
  have ha : ∀ f : V → TR, op1V (Fix T) (.app 30 24 false) [[.list 30 ((ready ++ waits).map fun p => .agg p.vs)], [.list 30 [.agg (Pr.vs ⟨cur.id, cur.lv, cur.sem⟩)]]] f = f (prs 30 ((ready ++ waits) ++ [cur])) := fun f => o_appP (by simp; omega)
  simp only [prs] at hmk h65 ha
  cases busy with
  | true => simp only [F41_0, Sc.vs, Sc.all, prs, hmk, h65, o_mk3, ha, VBs, reduceCtorEq, Nat.reduceEqDiff, Option.bind_some, Option.bind_none, List.getElem?_cons_zero, List.getElem?_cons_succ, if_true, if_false, ne_eq]
  | false => simp only [F41_0, Sc.vs, Sc.all, prs, hmk, h65, List.append_nil, VBs, reduceCtorEq, Nat.reduceEqDiff, Option.bind_some, Option.bind_none, List.getElem?_cons_zero, List.getElem?_cons_succ, if_true, if_false, ne_eq]
def errV (n : Int) : V := if n = 0 then .nilI else .iface 84 (.int .i64 n)
theorem s8 (n : Int) : Fix T 8 0 [[errV n]] = some [[.int .i64 n]] := by
  unfold errV
  split
  · rename_i h; subst h; exact gv8 rfl
  · exact gv8 rfl
/-- few processes -/
structure Sc.Sm (s : Sc) : Prop where
  r : s.ready.length ≤ 250
  w : s.waits.length ≤ 250
def Sc.add (s : Sc) (id lv : Int) : Int × Sc :=
  if (!(Pr.may ⟨id, lv, 0⟩) || (s.all.any fun p => decide (p.id = id))) = true then (1, s)
  else if 8 ≤ s.all.length then (12, s) else (0, { s with ready := s.ready ++ [⟨id, lv, 0⟩] })
theorem all_len (s : Sc) (h : s.Sm) : s.all.length ≤ 501 := by
  have := h.r; have := h.w
  unfold Sc.all
  split <;> simp <;> omega
theorem s9 (s : Sc) (id lv : Int) (h : s.Sm) : Fix T 9 0 [s.vs 30, [.int .i64 id], [.int .i64 lv]] = some [[errV (s.add id lv).1], (s.add id lv).2.vs 30] := by
  refine e9_0 0 ?_
  have h39 := s39 ⟨id, lv, 0⟩
  have h41 := s41 s ⟨h.r, h.w⟩
  have hal := all_len s h
  have h40 := s40 s.all id (by omega)
  have ha : ∀ f : V → TR, op1V (Fix T) (.app 30 24 false) [[.list 30 (s.ready.map fun p => .agg p.vs)], [.list 30 [.agg (Pr.vs ⟨id, lv, 0⟩)]]] f = f (prs 30 (s.ready ++ [⟨id, lv, 0⟩])) := fun f => o_appP (by have := h.r; omega)
  unfold Sc.add
  generalize Pr.may ⟨id, lv, 0⟩ = m at *
  generalize (s.all.any fun p => decide (p.id = id)) = q at *
  generalize hall : s.all = al at *
  clear hall
  obtain ⟨busy, cur, left, ready, waits, ticks⟩ := s
  simp only [Pr.vs] at h39
  simp only [prs, Sc.vs] at *
  by_cases hm : (!m || q) = true
  · rw [if_pos hm]
    rcases m with _ | _
    · simp only [F9_0, h39, h40, h41, errV, VBs, reduceCtorEq, Nat.reduceEqDiff, Option.bind_some, Option.bind_none, List.getElem?_cons_zero, List.getElem?_cons_succ, if_true, if_false, ne_eq]
      rfl
    · have hq : q = true := by simpa using hm
      subst hq
      simp only [F9_0, h39, h40, h41, errV, VBs, reduceCtorEq, Nat.reduceEqDiff, Option.bind_some, Option.bind_none, List.getElem?_cons_zero, List.getElem?_cons_succ, if_true, if_false, ne_eq]
      rfl
  · rw [if_neg hm]
    obtain ⟨rfl, rfl⟩ : m = true ∧ q = false := by simpa using hm
    by_cases h8 : 8 ≤ al.length
    · have b1 : ((8 : Int) ≤ al.length) = True := eq_true (by omega)
      rw [if_pos h8]
      simp only [F9_0, h39, h40, h41, errV, b1, List.length_map, VBs, reduceCtorEq, Nat.reduceEqDiff, Option.bind_some, Option.bind_none, List.getElem?_cons_zero, List.getElem?_cons_succ, if_true, if_false, ne_eq]
      rfl
    · have b1 : ((8 : Int) ≤ al.length) = False := eq_false (by omega)
      rw [if_neg h8]
      simp only [F9_0, h39, h40, h41, errV, b1, o_mk3, ha, List.length_map, VBs, reduceCtorEq, Nat.reduceEqDiff, Option.bind_some, Option.bind_none, List.getElem?_cons_zero, List.getElem?_cons_succ, if_true, if_false, ne_eq]
def Sc.wait (s : Sc) (sem : Int) : Int × Sc :=
  if sem < 0 ∨ 65536 ≤ sem then (1, s) else if s.busy = true then (0, Sc.rest { s with waits := s.waits ++ [{ s.cur with sem := sem }] }) else (6, s)
theorem s10 (s : Sc) (sem : Int) (h : s.Sm) : Fix T 10 0 [s.vs 30, [.int .i64 sem]] = some [[errV (s.wait sem).1], (s.wait sem).2.vs 30] := by
  refine e10_0 0 ?_
  have h33 := s33 { s with waits := s.waits ++ [{ s.cur with sem := sem }] }
  have ha : ∀ f : V → TR, op1V (Fix T) (.app 30 24 false) [[.list 30 (s.waits.map fun p => .agg p.vs)], [.list 30 [.agg (Pr.vs ⟨s.cur.id, s.cur.lv, sem⟩)]]] f = f (prs 30 (s.waits ++ [⟨s.cur.id, s.cur.lv, sem⟩])) := fun f => o_appP (by have := h.w; omega)
  obtain ⟨busy, cur, left, ready, waits, ticks⟩ := s
  simp only [prs, Sc.vs, Sc.rest] at *
  unfold Sc.wait
  by_cases h1 : sem < 0
  · have b1 := eq_true h1
    rw [if_pos (.inl h1)]
    simp only [F10_0, b1, errV, VBs, reduceCtorEq, Nat.reduceEqDiff, Option.bind_some, Option.bind_none, List.getElem?_cons_zero, List.getElem?_cons_succ, if_true, if_false, ne_eq]
    rfl
  · have b1 := eq_false h1
    by_cases h2 : 65536 ≤ sem
    · have b2 := eq_true h2
      rw [if_pos (.inr h2)]
      simp only [F10_0, b1, b2, errV, VBs, reduceCtorEq, Nat.reduceEqDiff, Option.bind_some, Option.bind_none, List.getElem?_cons_zero, List.getElem?_cons_succ, if_true, if_false, ne_eq]
      rfl
    · have b2 := eq_false h2
      rw [if_neg (by omega)]
      cases busy with
      | true =>
        simp only [F10_0, b1, b2, h33, ha, o_mk3, errV, VBs, reduceCtorEq, Nat.reduceEqDiff, Option.bind_some, Option.bind_none, List.getElem?_cons_zero, List.getElem?_cons_succ, if_true, if_false, ne_eq]
        rfl
      | false =>
        simp only [F10_0, b1, b2, errV, VBs, reduceCtorEq, Nat.reduceEqDiff, Option.bind_some, Option.bind_none, List.getElem?_cons_zero, List.getElem?_cons_succ, if_true, if_false, ne_eq]
        rfl
def Sc.fini (s : Sc) : Int × Sc := if s.busy = true then (0, s.rest) else (6, s)
theorem s11 (s : Sc) : Fix T 11 0 [s.vs 30] = some [[errV s.fini.1], s.fini.2.vs 30] := by
  refine e11_0 0 ?_
  have h33 := s33 s
  obtain ⟨busy, cur, left, ready, waits, ticks⟩ := s
  simp only [prs, Sc.vs, Sc.rest] at *
  unfold Sc.fini
  cases busy with
  | true => simp only [F11_0, h33, errV, VBs, reduceCtorEq, Nat.reduceEqDiff, Option.bind_some, Option.bind_none, List.getElem?_cons_zero, List.getElem?_cons_succ, if_true, if_false, ne_eq]; rfl
  | false => simp only [F11_0, errV, VBs, reduceCtorEq, Nat.reduceEqDiff, Option.bind_some, Option.bind_none, List.getElem?_cons_zero, List.getElem?_cons_succ, if_true, if_false, ne_eq]; rfl
def Sc.dead (s : Sc) : Bool := !s.busy && decide (s.ready.length = 0) && decide (0 < s.waits.length)
theorem nat0 {n : Nat} : ((n : Int) = 0) = (n = 0) := by rw [eq_iff_iff]; omega
theorem nat1 {n : Nat} : ((0 : Int) < (n : Int)) = (0 < n) := by rw [eq_iff_iff]; omega
theorem s12 (s : Sc) : Fix T 12 0 [s.vs 30] = some [[.bool s.dead]] := by
  refine e12_0 0 ?_
  simp only [F12_0, Sc.vs, Sc.dead, prs, nat0, nat1, List.length_map, VBs, reduceCtorEq, Nat.reduceEqDiff, Option.bind_some, Option.bind_none, List.getElem?_cons_zero, List.getElem?_cons_succ, if_true, if_false, ne_eq]
theorem s27 (s : Sc) : Fix T 27 0 [s.vs 23] = some [[.bool s.dead]] := by
  refine e27_0 0 ?_
  simp only [F27_0, Sc.vs, Sc.dead, prs, nat0, nat1, List.length_map, VBs, reduceCtorEq, Nat.reduceEqDiff, Option.bind_some, Option.bind_none, List.getElem?_cons_zero, List.getElem?_cons_succ, if_true, if_false, ne_eq]
/-- the first one that is so, and what is left without it -/
def cutF (P : Pr → Bool) : List Pr → Option (Pr × List Pr)
  | [] => none
  | x :: r => if P x then some (x, r) else (cutF P r).map fun q => (q.1, x :: q.2)
theorem cutF_idx (P : Pr → Bool) : ∀ (l : List Pr) (i : Nat), (cutF P l = none ∧ idxF P i l = -1) ∨ ∃ (k : Nat) (p : Pr), idxF P i l = ((i + k : Nat) : Int) ∧ l[k]? = some p ∧ cutF P l = some (p, l.take k ++ l.drop (k + 1))
  | [], i => .inl ⟨rfl, rfl⟩
  | x :: r, i => by
    unfold idxF cutF
    by_cases h : P x
    · rw [if_pos h, if_pos h]
      exact .inr ⟨0, x, rfl, rfl, rfl⟩
    · rw [if_neg h, if_neg h]
      rcases cutF_idx P r (i + 1) with ⟨h1, h2⟩ | ⟨k, p, h1, h2, h3⟩
      · exact .inl ⟨by rw [h1]; rfl, h2⟩
      · exact .inr ⟨k + 1, p, by rw [h1]; congr 1; omega, by simpa using h2, by rw [h3]; simp⟩
def Sc.sig (s : Sc) (sem : Int) : (Pr × Bool) × Sc := match cutF (fun p => decide (p.sem = sem)) s.waits with
  | none => ((nilP, false), s)
  | some (p, r) => (({ p with sem := 0 }, true), { s with waits := r, ready := s.ready ++ [{ p with sem := 0 }] })
theorem s37 (l : List Pr) (k : Nat) (h : k < l.length) : Fix T 37 0 [[prs 30 l], [.int .i64 (k : Int)], [.int .i64 ((k + 1 : Nat) : Int)]] = some [[prs 30 (l.take k ++ l.drop (k + 1))]] := by
  refine gv37 ?_
  simp only [delφ, prs]
  rw [if_pos (by simp; omega)]
  simp
theorem s7 (s : Sc) (sem : Int) (h : s.Sm) : Fix T 7 0 [s.vs 30, [.int .i64 sem]] = some [(s.sig sem).1.1.vs, [.bool (s.sig sem).1.2], (s.sig sem).2.vs 30] := by
  refine e7_0 0 ?_
  have hr := h.r
  have hw := h.w
  have h35 := s35 _ _ (ans36 sem) s.waits (by omega)
  obtain ⟨busy, cur, left, ready, waits, ticks⟩ := s
  simp only at hr hw h35
  unfold Sc.sig
  simp only
  rcases cutF_idx (fun p => decide (p.sem = sem)) waits 0 with ⟨h1, h2⟩ | ⟨k, p, h1, h2, h3⟩
  · rw [h1]
    rw [h2] at h35
    simp only [prs] at h35
    have b1 : ((-1 : Int) < 0) = True := eq_true (by decide)
    simp only [F7_0, Sc.vs, prs, o_mkc1, h35, b1, VBs, reduceCtorEq, Nat.reduceEqDiff, Option.bind_some, Option.bind_none, List.getElem?_cons_zero, List.getElem?_cons_succ, if_true, if_false, ne_eq]
    rfl
  · rw [h3]
    rw [h1] at h35
    simp only [Nat.zero_add] at h35
    have hk : k < waits.length := (List.getElem?_eq_some_iff.1 h2).1
    have h37 := s37 waits k hk
    have hld : ∀ q : V → V → V → TR, opnV (Fix T) (.ldo 0 3 true) [[.int .i64 (k : Int)], [.list 30 (waits.map fun p => .agg p.vs)]] 3 q = q (.int .i64 p.id) (.int .i64 p.lv) (.int .i64 p.sem) := fun q => o_ldo3 h2
    have b1 : ((k : Int) < 0) = False := eq_false (by omega)
    have b2 : ∀ f : V → TR, op1V (Fix T) (.eix 30) [[.list 30 (waits.map fun p => V.agg p.vs)], [.int .i64 (k : Int)]] f = f (.int .i64 (k : Int)) := fun f => by rw [o_eix, if_pos (by simp; omega)]
    have ws := w_succ (i := k) (by omega)
    have ha : ∀ f : V → TR, op1V (Fix T) (.app 30 24 false) [[.list 30 (ready.map fun p => .agg p.vs)], [.list 30 [.agg (Pr.vs ⟨p.id, p.lv, 0⟩)]]] f = f (prs 30 (ready ++ [⟨p.id, p.lv, 0⟩])) := fun f => o_appP (by omega)
    simp only [prs] at h35 h37 ha
    simp only [F7_0, Sc.vs, prs, o_mkc1, h35, b1, b2, hld, ws, h37, o_mk3, ha, VBs, reduceCtorEq, Nat.reduceEqDiff, Option.bind_some, Option.bind_none, List.getElem?_cons_zero, List.getElem?_cons_succ, if_true, if_false, ne_eq]
    rfl
end Go.Proofs.YtlhcgiegganbpaaDoorVs
set_option linter.unusedVariables false
set_option linter.unusedSimpArgs false
set_option maxRecDepth 100000
namespace Go.Proofs.YtlhcgiegganbpaaDoorVs
def tickB (n : Int) : Bool := decide (n < 1) || decide (65536 < n)
theorem s69 (n : Int) : Fix T 69 0 [[.int .i64 n]] = some [[.bool (tickB n)]] := by
  refine e69_0 0 ?_
  simp only [F69_0, tickB, VBs, reduceCtorEq, Nat.reduceEqDiff, Option.bind_some, Option.bind_none, List.getElem?_cons_zero, List.getElem?_cons_succ, if_true, if_false, ne_eq]
theorem cc69 (n : Int) (k : V → TR) : op1V (Fix T) (.callc [(8, 0, []), (69, 0, [])] [[(1, 0)]] [[some (0, 0)]]) [[.clo 69 []], [.int .i64 n]] k = k (.bool (tickB n)) := by
  rw [o_callc]
  simp [lookC, caps, pks, pk, s69, outV, outV1, k1]
theorem ints_get {l : List Int} {i : Nat} (h : i < l.length) : (l.map (V.int .i64))[i]? = some (.int .i64 l[i]) := by simp [h]
theorem s76 (l : List Int) (hl : l.length < 4611686018427387904) : Fix T 76 0 [[ints l], [.clo 69 []]] = some [[.int .i64 (idxF tickB 0 l)]] := by
  refine e76_0 (l.length + 1) ?_
  have hloop : ∀ i : Nat, i ≤ l.length → lpV [1, 1] (F76_0_b0 (Fix T) (l.length + 1) (ints l) (.clo 69 []) (.int .i64 l.length)) (l.length + 1) [.int .i64 0, .int .i64 (i : Int)] = if idxF tickB i (l.drop i) = -1 then some (.exit 0 [1, 1] [.int .i64 0, .int .i64 l.length]) else some (.ret [[.int .i64 (idxF tickB i (l.drop i))]]) := by
    intro i hi
    refine lp_ind (S := Nat) (fun i => [.int .i64 0, .int .i64 (i : Int)]) (fun i => i ≤ l.length) (fun i => l.length - i) (fun i => if idxF tickB i (l.drop i) = -1 then some (.exit 0 [1, 1] [.int .i64 0, .int .i64 l.length]) else some (.ret [[.int .i64 (idxF tickB i (l.drop i))]])) ?_ _ i hi (by omega)
    intro i hi
    by_cases h : i < l.length
    · have hd : l.drop i = l[i] :: l.drop (i + 1) := List.drop_eq_getElem_cons h
      have b1 : ((i : Int) < l.length) = True := eq_true (by omega)
      have hg := ints_get h
      have hl1 : ∀ (n : Int) (k : V → TR), op1V (Fix T) (.ldi 0 1 false [true]) [[.int .i64 n]] k = k (.int .i64 n) := fun n k => o_ldiN (.inr rfl)
      simp only [hd, idxF]
      by_cases hP : tickB l[i]
      · refine .inr ⟨?_, ?_⟩
        · have hne : ((i : Int) = -1) = False := eq_false (by omega)
          simp only [F76_0_b0, ints, b1, hg, cc69, hl1, hP, hne, VBs, reduceCtorEq, Nat.reduceEqDiff, Option.bind_some, Option.bind_none, List.getElem?_cons_zero, List.getElem?_cons_succ, if_true, if_false, ne_eq]
        · simp only [hP, if_true]
          split <;> trivial
      · refine .inl ⟨i + 1, ?_, by omega, by omega, ?_⟩
        · simp only [F76_0_b0, ints, b1, hg, cc69, hl1, hP, w_succ (show i < 4611686018427387904 by omega), VBs, reduceCtorEq, Nat.reduceEqDiff, Option.bind_some, Option.bind_none, List.getElem?_cons_zero, List.getElem?_cons_succ, if_true, if_false, ne_eq]
        · simp only [hP]; rfl
    · obtain rfl : i = l.length := by omega
      have b1 : ((l.length : Int) < l.length) = False := eq_false (by omega)
      refine .inr ⟨?_, ?_⟩
      · simp only [F76_0_b0, ints, b1, List.drop_length, idxF, if_true, VBs, reduceCtorEq, Nat.reduceEqDiff, Option.bind_some, Option.bind_none, List.getElem?_cons_zero, List.getElem?_cons_succ, if_true, if_false, ne_eq]
      · simp only [List.drop_length, idxF, if_true]; trivial
  have h0 := hloop 0 (by omega)
  simp only [List.drop_zero, Int.natCast_zero] at h0
  by_cases hn : idxF tickB 0 l = -1
  · rw [if_pos hn] at h0
    simp only [F76_0, ints, List.length_map, h0, hn, VBs, reduceCtorEq, Nat.reduceEqDiff, Option.bind_some, Option.bind_none, List.getElem?_cons_zero, List.getElem?_cons_succ, if_true, if_false, ne_eq]
  · rw [if_neg hn] at h0
    simp only [F76_0, ints, List.length_map, h0, VBs, reduceCtorEq, Nat.reduceEqDiff, Option.bind_some, Option.bind_none, List.getElem?_cons_zero, List.getElem?_cons_succ, if_true, if_false, ne_eq]
def tickL (t : List Int) : Bool := decide (256 < t.length) || t.any tickB
theorem nat256 {n : Nat} : ((256 : Int) < (n : Int)) = (256 < n) := by rw [eq_iff_iff]; omega
theorem s67 (t : List Int) (hl : t.length < 4611686018427387904) : Fix T 67 0 [[ints t]] = some [[.bool (tickL t)]] := by
  refine e67_0 0 ?_
  have h68 : Fix T 68 0 [[ints t], [.clo 69 []]] = some [[.bool (t.any tickB)]] := by
    refine e68_0 0 ?_
    have h := s76 t hl
    simp only [ints] at h
    simp only [F68_0, ints, h, idxF_any, VBs, reduceCtorEq, Nat.reduceEqDiff, Option.bind_some, Option.bind_none, List.getElem?_cons_zero, List.getElem?_cons_succ, if_true, if_false, ne_eq]
  simp only [ints] at h68
  simp only [F67_0, ints, h68, tickL, nat256, List.length_map, VBs, reduceCtorEq, Nat.reduceEqDiff, Option.bind_some, Option.bind_none, List.getElem?_cons_zero, List.getElem?_cons_succ, if_true, if_false, ne_eq]
theorem cc67 (t : List Int) (hl : t.length < 4611686018427387904) (k : V → TR) : op1V (Fix T) (.callc [(13, 0, []), (43, 0, []), (46, 0, []), (67, 0, [])] [[(1, 0)]] [[some (0, 0)]]) [[.clo 67 []], [ints t]] k = k (.bool (tickL t)) := by
  have h := s67 t hl
  rw [o_callc]
  simp [lookC, caps, pks, pk, h, outV, outV1, k1]
/-- numbers of steps as few as can be looked at -/
structure TkFew (l : List (List Int)) : Prop where
  o : l.length ≤ 500
  i : ∀ t ∈ l, t.length ≤ 500
theorem tks_get {l : List (List Int)} {i : Nat} (h : i < l.length) : (l.map ints)[i]? = some (ints l[i]) := by simp [h]
theorem s75 (l : List (List Int)) (hl : TkFew l) : Fix T 75 0 [[tks l], [.clo 67 []]] = some [[.int .i64 (idxF tickL 0 l)]] := by
  refine e75_0 (l.length + 1) ?_
  have hl1 := hl.o
  have hloop : ∀ i : Nat, i ≤ l.length → lpV [1, 1] (F75_0_b0 (Fix T) (l.length + 1) (tks l) (.clo 67 []) (.int .i64 l.length)) (l.length + 1) [.int .i64 0, .int .i64 (i : Int)] = if idxF tickL i (l.drop i) = -1 then some (.exit 0 [1, 1] [.int .i64 0, .int .i64 l.length]) else some (.ret [[.int .i64 (idxF tickL i (l.drop i))]]) := by
    intro i hi
    refine lp_ind (S := Nat) (fun i => [.int .i64 0, .int .i64 (i : Int)]) (fun i => i ≤ l.length) (fun i => l.length - i) (fun i => if idxF tickL i (l.drop i) = -1 then some (.exit 0 [1, 1] [.int .i64 0, .int .i64 l.length]) else some (.ret [[.int .i64 (idxF tickL i (l.drop i))]])) ?_ _ i hi (by omega)
    intro i hi
    by_cases h : i < l.length
    · have hd : l.drop i = l[i] :: l.drop (i + 1) := List.drop_eq_getElem_cons h
      have b1 : ((i : Int) < l.length) = True := eq_true (by omega)
      have hg := tks_get h
      have hli := hl.i l[i] (List.getElem_mem h)
      have hc : ∀ k : V → TR, _ := fun k => cc67 l[i] (by omega) k
      have hl1 : ∀ (k : V → TR), op1V (Fix T) (.ldi 0 1 false [false]) [[ints l[i]]] k = k (ints l[i]) := fun k => o_ldiL (.inr rfl)
      simp only [hd, idxF]
      by_cases hP : tickL l[i]
      · refine .inr ⟨?_, ?_⟩
        · have hne : ((i : Int) = -1) = False := eq_false (by omega)
          simp only [F75_0_b0, tks, b1, hg, hc, hl1, hP, hne, VBs, reduceCtorEq, Nat.reduceEqDiff, Option.bind_some, Option.bind_none, List.getElem?_cons_zero, List.getElem?_cons_succ, if_true, if_false, ne_eq]
        · simp only [hP, if_true]
          split <;> trivial
      · refine .inl ⟨i + 1, ?_, by omega, by omega, ?_⟩
        · simp only [F75_0_b0, tks, b1, hg, hc, hl1, hP, w_succ (show i < 4611686018427387904 by omega), VBs, reduceCtorEq, Nat.reduceEqDiff, Option.bind_some, Option.bind_none, List.getElem?_cons_zero, List.getElem?_cons_succ, if_true, if_false, ne_eq]
        · simp only [hP]; rfl
    · obtain rfl : i = l.length := by omega
      have b1 : ((l.length : Int) < l.length) = False := eq_false (by omega)
      refine .inr ⟨?_, ?_⟩
      · simp only [F75_0_b0, tks, b1, List.drop_length, idxF, if_true, VBs, reduceCtorEq, Nat.reduceEqDiff, Option.bind_some, Option.bind_none, List.getElem?_cons_zero, List.getElem?_cons_succ, if_true, if_false, ne_eq]
      · simp only [List.drop_length, idxF, if_true]; trivial
  have h0 := hloop 0 (by omega)
  simp only [List.drop_zero, Int.natCast_zero] at h0
  by_cases hn : idxF tickL 0 l = -1
  · rw [if_pos hn] at h0
    simp only [F75_0, tks, List.length_map, h0, hn, VBs, reduceCtorEq, Nat.reduceEqDiff, Option.bind_some, Option.bind_none, List.getElem?_cons_zero, List.getElem?_cons_succ, if_true, if_false, ne_eq]
  · rw [if_neg hn] at h0
    simp only [F75_0, tks, List.length_map, h0, VBs, reduceCtorEq, Nat.reduceEqDiff, Option.bind_some, Option.bind_none, List.getElem?_cons_zero, List.getElem?_cons_succ, if_true, if_false, ne_eq]
def tkOk (l : List (List Int)) : Bool := decide (l.length ≤ 8) && !(l.any tickL)
theorem nat8 {n : Nat} : ((n : Int) ≤ 8) = (n ≤ 8) := by rw [eq_iff_iff]; omega
theorem s43 (l : List (List Int)) (hl : TkFew l) : Fix T 43 0 [[tks l]] = some [[.bool (tkOk l)]] := by
  refine e43_0 0 ?_
  have h66 : Fix T 66 0 [[tks l], [.clo 67 []]] = some [[.bool (l.any tickL)]] := by
    refine e66_0 0 ?_
    have h := s75 l hl
    simp only [tks] at h
    simp only [F66_0, tks, h, idxF_any, VBs, reduceCtorEq, Nat.reduceEqDiff, Option.bind_some, Option.bind_none, List.getElem?_cons_zero, List.getElem?_cons_succ, if_true, if_false, ne_eq]
  simp only [tks] at h66
  simp only [F43_0, tks, h66, tkOk, nat8, List.length_map, VBs, reduceCtorEq, Nat.reduceEqDiff, Option.bind_some, Option.bind_none, List.getElem?_cons_zero, List.getElem?_cons_succ, if_true, if_false, ne_eq]
/-! ### the document's -/
theorem s46in (l : List (List Int)) (n : Nat) (j : Nat) (hj : j < l.length) (hn : l[j].length < n) (hs : l[j].length ≤ 500) (b : Bool) : lpV [1, 1] (F46_0_b0 (Fix T) n (tks l) (.int .i64 (j : Int))) n [.bool b, .int .i64 0] = if (l[j].any tickB) = true then some (.ret [[.bool false]]) else some (.exit 2 [1, 1] [.bool b, .int .i64 l[j].length]) := by
  have := lp_ind (S := Nat) (l := [1, 1]) (g := F46_0_b0 (Fix T) n (tks l) (.int .i64 (j : Int))) (fun i => [.bool b, .int .i64 (i : Int)]) (fun i => i ≤ l[j].length) (fun i => l[j].length - i) (fun i => if ((l[j].drop i).any tickB) = true then some (.ret [[.bool false]]) else some (.exit 2 [1, 1] [.bool b, .int .i64 l[j].length])) (fun i hi => by
    have hg := tks_get hj
    have hlL : ∀ (k : V → TR), op1V (Fix T) (.ldi 0 1 false [false]) [[ints l[j]]] k = k (ints l[j]) := fun k => o_ldiL (.inr rfl)
    generalize l[j] = t at *
    by_cases h : i < t.length
    · have hd : t.drop i = t[i] :: t.drop (i + 1) := List.drop_eq_getElem_cons h
      have b1 : ((i : Int) < t.length) = True := eq_true (by omega)
      have hgi := ints_get h
      have hl1 : ∀ (n : Int) (k : V → TR), op1V (Fix T) (.ldi 0 1 false [true]) [[.int .i64 n]] k = k (.int .i64 n) := fun n k => o_ldiN (.inr rfl)
      simp only [hd, List.any_cons]
      simp only [ints] at hlL
      by_cases hP : tickB t[i] = true
      · refine .inr ⟨?_, by simp only [hP, Bool.true_or, if_true]; trivial⟩
        have hP' := hP
        unfold tickB at hP'
        simp only [F46_0_b0, tks, hg, hlL, b1, hgi, hl1, hP, hP', List.length_map, VBs, reduceCtorEq, Nat.reduceEqDiff, Option.bind_some, Option.bind_none, List.getElem?_cons_zero, List.getElem?_cons_succ, if_true, if_false, ne_eq]
      · refine .inl ⟨i + 1, ?_, by omega, by omega, by simp only [hP, Bool.false_or]⟩
        have hP' : (decide (t[i] < 1) || decide (65536 < t[i])) = false := by simpa [tickB] using hP
        simp only [F46_0_b0, tks, hg, hlL, b1, hgi, hl1, hP', w_succ (show i < 4611686018427387904 by omega), List.length_map, VBs, reduceCtorEq, Nat.reduceEqDiff, Option.bind_some, Option.bind_none, List.getElem?_cons_zero, List.getElem?_cons_succ, if_true, if_false, ne_eq]
    · obtain rfl : i = t.length := by omega
      have b1 : ((t.length : Int) < t.length) = False := eq_false (by omega)
      refine .inr ⟨?_, by simp only [List.drop_length, List.any_nil]; trivial⟩
      simp only [ints] at hlL
      simp only [F46_0_b0, tks, hg, hlL, b1, List.drop_length, List.any_nil, List.length_map, VBs, reduceCtorEq, Nat.reduceEqDiff, Option.bind_some, Option.bind_none, List.getElem?_cons_zero, List.getElem?_cons_succ, if_true, if_false, ne_eq]) n 0 (by omega) (by omega)
  simpa using this
theorem s46 (l : List (List Int)) (hl : TkFew l) : Fix T 46 0 [[tks l]] = some [[.bool (tkOk l)]] := by
  refine e46_0 502 ?_
  have hlo := hl.o
  by_cases h8 : l.length ≤ 8
  · have b8 : ((8 : Int) < l.length) = False := eq_false (by omega)
    have := lp_ind (S := Nat) (l := [1, 1]) (g := F46_0_b1 (Fix T) 502 (tks l)) (fun i => [.bool false, .int .i64 (i : Int)]) (fun i => i ≤ l.length) (fun i => l.length - i) (fun i => if ((l.drop i).any tickL) = true then some (.ret [[.bool false]]) else some (.exit 0 [1, 1] [.bool false, .int .i64 l.length])) (fun i hi => by
      by_cases h : i < l.length
      · have hd : l.drop i = l[i] :: l.drop (i + 1) := List.drop_eq_getElem_cons h
        have b1 : ((i : Int) < l.length) = True := eq_true (by omega)
        have hg := tks_get h
        have hli := hl.i l[i] (List.getElem_mem h)
        have hlL : ∀ (k : V → TR), op1V (Fix T) (.ldi 0 1 false [false]) [[ints l[i]]] k = k (ints l[i]) := fun k => o_ldiL (.inr rfl)
        have hin := s46in l 502 i h (by omega) hli false
        simp only [hd, List.any_cons]
        simp only [ints, tks] at hlL hin
        by_cases h256 : 256 < l[i].length
        · have b2 : ((256 : Int) < l[i].length) = True := eq_true (by omega)
          have hP : tickL l[i] = true := by simp [tickL, h256]
          refine .inr ⟨?_, by simp only [hP, Bool.true_or, if_true]; trivial⟩
          simp only [F46_0_b1, tks, hg, hlL, b1, b2, hP, List.length_map, VBs, reduceCtorEq, Nat.reduceEqDiff, Option.bind_some, Option.bind_none, List.getElem?_cons_zero, List.getElem?_cons_succ, if_true, if_false, ne_eq]
        · have b2 : ((256 : Int) < l[i].length) = False := eq_false (by omega)
          have hP : tickL l[i] = l[i].any tickB := by simp [tickL, h256]
          by_cases hA : l[i].any tickB = true
          · rw [if_pos hA] at hin
            refine .inr ⟨?_, by simp only [hP, hA, Bool.true_or, if_true]; trivial⟩
            simp only [F46_0_b1, tks, hg, hlL, b1, b2, hP, hA, hin, List.length_map, VBs, reduceCtorEq, Nat.reduceEqDiff, Option.bind_some, Option.bind_none, List.getElem?_cons_zero, List.getElem?_cons_succ, if_true, if_false, ne_eq]
          · rw [if_neg hA] at hin
            refine .inl ⟨i + 1, ?_, by omega, by omega, by simp only [hP, hA, Bool.false_or]⟩
            simp only [F46_0_b1, tks, hg, hlL, b1, b2, hin, w_succ (show i < 4611686018427387904 by omega), List.length_map, VBs, reduceCtorEq, Nat.reduceEqDiff, Option.bind_some, Option.bind_none, List.getElem?_cons_zero, List.getElem?_cons_succ, if_true, if_false, ne_eq]
      · obtain rfl : i = l.length := by omega
        have b1 : ((l.length : Int) < l.length) = False := eq_false (by omega)
        refine .inr ⟨?_, by simp only [List.drop_length, List.any_nil]; trivial⟩
        simp only [F46_0_b1, tks, b1, List.drop_length, List.any_nil, List.length_map, VBs, reduceCtorEq, Nat.reduceEqDiff, Option.bind_some, Option.bind_none, List.getElem?_cons_zero, List.getElem?_cons_succ, if_true, if_false, ne_eq]) 502 0 (by omega) (by omega)
    simp only [List.drop_zero, Int.natCast_zero] at this
    unfold tkOk
    by_cases hA : l.any tickL = true
    · rw [if_pos hA] at this
      simp only [tks] at this
      simp only [F46_0, tks, this, b8, hA, Bool.and_false, Bool.not_true, List.length_map, VBs, reduceCtorEq, Nat.reduceEqDiff, Option.bind_some, Option.bind_none, List.getElem?_cons_zero, List.getElem?_cons_succ, if_true, if_false, ne_eq]
    · rw [if_neg hA] at this
      have hA' : l.any tickL = false := by simpa using hA
      simp only [tks] at this
      simp only [F46_0, tks, this, b8, h8, hA', List.length_map, VBs, reduceCtorEq, Nat.reduceEqDiff, Option.bind_some, Option.bind_none, List.getElem?_cons_zero, List.getElem?_cons_succ, if_true, if_false, ne_eq]
  · have b8 : ((8 : Int) < l.length) = True := eq_true (by omega)
    simp only [F46_0, tks, tkOk, b8, h8, List.length_map, VBs, reduceCtorEq, Nat.reduceEqDiff, Option.bind_some, Option.bind_none, List.getElem?_cons_zero, List.getElem?_cons_succ, if_true, if_false, ne_eq]
end Go.Proofs.YtlhcgiegganbpaaDoorVs
set_option linter.unusedVariables false
set_option linter.unusedSimpArgs false
set_option maxRecDepth 100000
namespace Go.Proofs.YtlhcgiegganbpaaDoorVs
theorem o_eqA3 {Φ : Funs} {a b c a' b' c' : Int} {f : V → TR} : op1V Φ (.eqA [0, 0, 0] true) [[.int .i64 a, .int .i64 b, .int .i64 c], [.int .i64 a', .int .i64 b', .int .i64 c']] f = f (.bool (!decide (Pr.mk a b c = Pr.mk a' b' c'))) := by
  have h : (a == a' && (b == b' && (c == c' && true))) = decide (Pr.mk a b c = Pr.mk a' b' c') := by
    rw [Bool.eq_iff_iff]
    simp [Pr.mk.injEq]
  rw [← h]
  simp only [op1V, VF.sem, veqs, veq1, k1, if_true, Option.bind_some, Option.map_some]
  cases (a == a' && (b == b' && (c == c' && true))) <;> rfl
/-- one behind the other: each may be, and is no one that was there -/
def scan : List Pr → List Pr → Bool
  | _, [] => true
  | pre, p :: r => p.may && !(pre.any fun q => decide (q.id = p.id)) && scan (pre ++ [p]) r
theorem s16loop (l : List Pr) (n : Nat) (hl : l.length ≤ 510) (hn : l.length < n) : lpV [1, 1] (F16_0_b0 (Fix T) n (prs 30 l) (.int .i64 l.length)) n [.nilI, .int .i64 0] = if scan [] l = true then some (.exit 0 [1, 1] [.nilI, .int .i64 l.length]) else some (.ret [[errV 1]]) := by
  have := lp_ind (S := Nat) (l := [1, 1]) (g := F16_0_b0 (Fix T) n (prs 30 l) (.int .i64 l.length)) (fun i => [.nilI, .int .i64 (i : Int)]) (fun i => i ≤ l.length) (fun i => l.length - i) (fun i => if scan (l.take i) (l.drop i) = true then some (.exit 0 [1, 1] [.nilI, .int .i64 l.length]) else some (.ret [[errV 1]])) (fun i hi => by
    by_cases h : i < l.length
    · have hd : l.drop i = l[i] :: l.drop (i + 1) := List.drop_eq_getElem_cons h
      have ht : l.take i ++ [l[i]] = l.take (i + 1) := by simp
      have b1 : ((i : Int) < l.length) = True := eq_true (by omega)
      have h39 := s39 l[i]
      have hi1 : (l.take i).length = i := by simp; omega
      have h40 := s40 (l.take i) l[i].id (by omega)
      have hg := List.getElem?_eq_getElem h
      have hld : ∀ q : V → V → V → TR, opnV (Fix T) (.ldo 0 3 true) [[.int .i64 (i : Int)], [.list 30 (l.map fun p => .agg p.vs)]] 3 q = q (.int .i64 l[i].id) (.int .i64 l[i].lv) (.int .i64 l[i].sem) := fun q => o_ldo3 hg
      have hx : ∀ f : V → TR, op1V (Fix T) (.eix 30) [[.list 30 (l.map fun p => V.agg p.vs)], [.int .i64 (i : Int)]] f = f (.int .i64 (i : Int)) := fun f => by rw [o_eix, if_pos (by simp; omega)]
      have hsl : ∀ f : V → TR, op1V (Fix T) (.slc 30 false true) [[.list 30 (l.map fun p => V.agg p.vs)], [.int .i64 (i : Int)]] f = f (.list 30 ((l.take i).map fun p => V.agg p.vs)) := fun f => by rw [o_slcH, if_pos (by simp; omega), Int.toNat_natCast, List.map_take]
      simp only [hd, scan, ht]
      simp only [Pr.vs] at h39
      simp only [prs] at h40
      generalize hm : l[i].may = m at *
      generalize ((l.take i).any fun p => decide (p.id = l[i].id)) = q at *
      cases m with
      | false =>
        refine .inr ⟨?_, by simp; trivial⟩
        simp only [F16_0_b0, prs, b1, hx, hld, h39, hsl, h40, errV, VBs, reduceCtorEq, Nat.reduceEqDiff, Option.bind_some, Option.bind_none, List.getElem?_cons_zero, List.getElem?_cons_succ, if_true, if_false, ne_eq]
        rfl
      | true =>
        cases q with
        | true =>
          refine .inr ⟨?_, by simp; trivial⟩
          simp only [F16_0_b0, prs, b1, hx, hld, h39, hsl, h40, errV, VBs, reduceCtorEq, Nat.reduceEqDiff, Option.bind_some, Option.bind_none, List.getElem?_cons_zero, List.getElem?_cons_succ, if_true, if_false, ne_eq]
          rfl
        | false =>
          refine .inl ⟨i + 1, ?_, by omega, by omega, by simp⟩
          simp only [F16_0_b0, prs, b1, hx, hld, h39, hsl, h40, errV, w_succ (show i < 4611686018427387904 by omega), VBs, reduceCtorEq, Nat.reduceEqDiff, Option.bind_some, Option.bind_none, List.getElem?_cons_zero, List.getElem?_cons_succ, if_true, if_false, ne_eq]
    · obtain rfl : i = l.length := by omega
      have b1 : ((l.length : Int) < l.length) = False := eq_false (by omega)
      refine .inr ⟨?_, by simp only [List.drop_length, scan]; trivial⟩
      simp only [F16_0_b0, prs, b1, List.drop_length, scan, VBs, reduceCtorEq, Nat.reduceEqDiff, Option.bind_some, Option.bind_none, List.getElem?_cons_zero, List.getElem?_cons_succ, if_true, if_false, ne_eq]) n 0 (by omega) (by omega)
  simpa using this
def Sc.ok (s : Sc) : Bool := tkOk s.ticks && !decide (s.left < -1) && !decide (65536 < s.left) && (s.busy || (decide (s.left = 0) && decide (s.cur = nilP))) && decide (s.cur.sem = 0) && scan [] s.all && !decide (8 < s.all.length) && !(s.ready.any fun p => decide (p.sem ≠ 0))
theorem nat8' {n : Nat} : ((8 : Int) < (n : Int)) = (8 < n) := by rw [eq_iff_iff]; omega
theorem s16 (s : Sc) (h : s.Sm) (ht : TkFew s.ticks) : Fix T 16 0 [s.vs 30] = some [[errV (if s.ok = true then 0 else 1)]] := by
  refine e16_0 600 ?_
  have h43 := s43 s.ticks ht
  have h41 := s41 s ⟨h.r, h.w⟩
  have hal := all_len s h
  have h44 := s44 _ _ ans45 s.ready (by have := h.r; omega)
  have hlp := s16loop s.all 600 (by omega) (by omega)
  unfold Sc.ok
  generalize tkOk s.ticks = A at *
  generalize hall : s.all = al at *
  clear hall
  generalize hsc : scan [] al = sc at *
  generalize (s.ready.any fun p => decide (p.sem ≠ 0)) = rs at *
  obtain ⟨busy, ⟨id, lv, sem⟩, left, ready, waits, ticks⟩ := s
  simp only [Sc.vs, prs, tks] at *
  have hbN : (decide (Pr.mk id lv sem = nilP)) = (decide (id = 0 ∧ lv = 0 ∧ sem = 0)) := by simp [nilP, Pr.mk.injEq]
  by_cases hA : A = true ∧ ¬ left < -1 ∧ ¬ 65536 < left
  · obtain ⟨rfl, h1, h2⟩ := hA
    have b1 := eq_false h1
    have b2 := eq_false h2
    by_cases h3 : busy = true ∨ (left = 0 ∧ Pr.mk id lv sem = nilP)
    · have hg : (busy || (decide (left = 0) && decide (Pr.mk id lv sem = nilP))) = true := by
        rcases h3 with rfl | ⟨h3, h4⟩ <;> simp [*]
      by_cases h4 : sem = 0
      · have b4 := eq_true h4
        have b4' : (sem ≠ 0) = False := eq_false (by simp [h4])
        have tail : ∀ (R : TR), R = (if sc = true ∧ ¬ 8 < al.length ∧ rs = false then some (.ret [[errV 0]]) else some (.ret [[errV 1]])) → R = some (.ret [[errV (if (true && !false && !false && true && true && sc && !decide (8 < al.length) && !rs) = true then 0 else 1)]]) := by
          intro R hR
          rw [hR]
          by_cases h8 : 8 < al.length <;> cases sc <;> cases rs <;> simp [h8]
        have hfin : F16_0 (Fix T) 600 (.bool busy) (.int .i64 id) (.int .i64 lv) (.int .i64 sem) (.int .i64 left) (prs 30 ready) (prs 30 waits) (tks ticks) = (if sc = true ∧ ¬ 8 < al.length ∧ rs = false then some (.ret [[errV 0]]) else some (.ret [[errV 1]])) := by
          cases sc with
          | false =>
            simp only [Bool.false_eq_true, if_false] at hlp
            cases busy with
            | true =>
              simp only [F16_0, prs, tks, h43, h41, hlp, b1, b2, b4, b4', List.length_map, false_and, if_false, VBs, reduceCtorEq, Nat.reduceEqDiff, Option.bind_some, Option.bind_none, List.getElem?_cons_zero, List.getElem?_cons_succ, if_true, if_false, ne_eq]
            | false =>
              obtain ⟨rfl, h5⟩ := h3.resolve_left (by simp)
              have b5 : (Pr.mk id lv sem = Pr.mk 0 0 0) = True := eq_true h5
              simp only [F16_0, prs, tks, h43, h41, hlp, b1, b2, b4, b4', b5, o_eqA3, g_u, List.length_map, false_and, if_false, VBs, reduceCtorEq, Nat.reduceEqDiff, Option.bind_some, Option.bind_none, List.getElem?_cons_zero, List.getElem?_cons_succ, if_true, if_false, ne_eq]
          | true =>
            simp only [if_true] at hlp
            by_cases h8 : 8 < al.length
            · have b8 := eq_true h8
              cases busy with
              | true =>
                simp only [F16_0, prs, tks, h43, h41, hlp, b1, b2, b4, b4', b8, nat8', errV, List.length_map, false_and, and_false, if_false, VBs, reduceCtorEq, Nat.reduceEqDiff, Option.bind_some, Option.bind_none, List.getElem?_cons_zero, List.getElem?_cons_succ, if_true, if_false, ne_eq]
                rfl
              | false =>
                obtain ⟨rfl, h5⟩ := h3.resolve_left (by simp)
                have b5 : (Pr.mk id lv sem = Pr.mk 0 0 0) = True := eq_true h5
                simp only [F16_0, prs, tks, h43, h41, hlp, b1, b2, b4, b4', b5, b8, nat8', o_eqA3, g_u, errV, List.length_map, false_and, and_false, if_false, VBs, reduceCtorEq, Nat.reduceEqDiff, Option.bind_some, Option.bind_none, List.getElem?_cons_zero, List.getElem?_cons_succ, if_true, if_false, ne_eq]
                rfl
            · have b8 := eq_false h8
              cases busy with
              | true =>
                cases rs <;> (simp only [F16_0, prs, tks, h43, h41, h44, hlp, b1, b2, b4, b4', b8, nat8', errV, List.length_map, and_self, and_false, if_false, VBs, reduceCtorEq, Nat.reduceEqDiff, Option.bind_some, Option.bind_none, List.getElem?_cons_zero, List.getElem?_cons_succ, if_true, if_false, ne_eq]; try rfl)
              | false =>
                obtain ⟨rfl, h5⟩ := h3.resolve_left (by simp)
                have b5 : (Pr.mk id lv sem = Pr.mk 0 0 0) = True := eq_true h5
                cases rs <;> (simp only [F16_0, prs, tks, h43, h41, h44, hlp, b1, b2, b4, b4', b5, b8, nat8', o_eqA3, g_u, errV, List.length_map, and_self, and_false, if_false, VBs, reduceCtorEq, Nat.reduceEqDiff, Option.bind_some, Option.bind_none, List.getElem?_cons_zero, List.getElem?_cons_succ, if_true, if_false, ne_eq]; try rfl)
        refine (tail _ hfin).trans ?_
        rw [hg]
        simp only [h1, h2, h4, decide_true, decide_false]
      · have b4 : (sem ≠ 0) = True := eq_true h4
        have e : ((true && !decide (left < -1) && !decide (65536 < left) && (busy || decide (left = 0) && decide (Pr.mk id lv sem = nilP)) && decide (sem = 0) && sc && !decide (8 < al.length) && !rs) = true) = False := by simp [h4]
        simp only [e, if_false]
        cases busy with
        | true =>
          simp only [F16_0, prs, tks, h43, b1, b2, b4, errV, VBs, reduceCtorEq, Nat.reduceEqDiff, Option.bind_some, Option.bind_none, List.getElem?_cons_zero, List.getElem?_cons_succ, if_true, if_false, ne_eq]
          rfl
        | false =>
          obtain ⟨rfl, h5⟩ := h3.resolve_left (by simp)
          exact absurd (by have := congrArg Pr.sem h5; exact this) h4
    · have hb : busy = false := by
        cases busy
        · rfl
        · exact absurd (.inl rfl) h3
      subst hb
      have e : ((true && !decide (left < -1) && !decide (65536 < left) && (false || decide (left = 0) && decide (Pr.mk id lv sem = nilP)) && decide (sem = 0) && sc && !decide (8 < al.length) && !rs) = true) = False := by
        have : (decide (left = 0) && decide (Pr.mk id lv sem = nilP)) = false := by
          by_cases h5 : left = 0 <;> by_cases h6 : Pr.mk id lv sem = nilP <;> simp [h5, h6]
          exact h3 (.inr ⟨h5, h6⟩)
        simp [this]
      simp only [e, if_false]
      by_cases h5 : left = 0
      · have h6 : ¬ Pr.mk id lv sem = Pr.mk 0 0 0 := fun h6 => h3 (.inr ⟨h5, h6⟩)
        have b5 := eq_true h5
        have b6 := eq_false h6
        simp only [F16_0, prs, tks, h43, b1, b2, b5, b6, o_eqA3, g_u, errV, VBs, reduceCtorEq, Nat.reduceEqDiff, Option.bind_some, Option.bind_none, List.getElem?_cons_zero, List.getElem?_cons_succ, if_true, if_false, ne_eq]
        rfl
      · have b5 := eq_false h5
        simp only [F16_0, prs, tks, h43, b1, b2, b5, g_u, errV, VBs, reduceCtorEq, Nat.reduceEqDiff, Option.bind_some, Option.bind_none, List.getElem?_cons_zero, List.getElem?_cons_succ, if_true, if_false, ne_eq]
        rfl
  · have e : ((A && !decide (left < -1) && !decide (65536 < left) && (busy || decide (left = 0) && decide (Pr.mk id lv sem = nilP)) && decide (sem = 0) && sc && !decide (8 < al.length) && !rs) = true) = False := by
      have : (A && !decide (left < -1) && !decide (65536 < left)) = false := by
        cases A
        · simp
        · by_cases h1 : left < -1
          · simp [h1]
          · by_cases h2 : 65536 < left
            · simp [h2]
            · exact absurd ⟨rfl, h1, h2⟩ hA
      simp [this]
    simp only [e, if_false]
    cases A with
    | false =>
      simp only [F16_0, prs, tks, h43, g_u, errV, VBs, reduceCtorEq, Nat.reduceEqDiff, Option.bind_some, Option.bind_none, List.getElem?_cons_zero, List.getElem?_cons_succ, if_true, if_false, ne_eq]
      rfl
    | true =>
      by_cases h1 : left < -1
      · have b1 := eq_true h1
        simp only [F16_0, prs, tks, h43, b1, g_u, errV, VBs, reduceCtorEq, Nat.reduceEqDiff, Option.bind_some, Option.bind_none, List.getElem?_cons_zero, List.getElem?_cons_succ, if_true, if_false, ne_eq]
        rfl
      · have b1 := eq_false h1
        have b2 : (65536 < left) = True := eq_true (by
          by_cases h2 : 65536 < left
          · exact h2
          · exact absurd ⟨rfl, h1, h2⟩ hA)
        simp only [F16_0, prs, tks, h43, b1, b2, g_u, errV, VBs, reduceCtorEq, Nat.reduceEqDiff, Option.bind_some, Option.bind_none, List.getElem?_cons_zero, List.getElem?_cons_succ, if_true, if_false, ne_eq]
        rfl
end Go.Proofs.YtlhcgiegganbpaaDoorVs
