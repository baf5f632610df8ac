/- The functions that the law reaches, as plain functions of lists and numbers, and that a call of the Go code comes to just their answers; laid by this repo's own program over the seat's translation. Conditions: each contract's own premises. -/
import Derived.Test.YtodfomkhhfcnhaaDoorPMonTellsx0
import Derived.Test.YtodfomkhhfcnhaaDoorPMonTellsx2
import Derived.Test.YtodfomkhhfcnhaaDoorPMonTellsx4
import Derived.Test.YtodfomkhhfcnhaaDoorPMonTellsx5
import Derived.Test.YtodfomkhhfcnhaaDoorPMonTellsx6
import Derived.Test.YtodfomkhhfcnhaaDoorPMonTellsx7
import Derived.Test.YtodfomkhhfcnhaaDoorPMonTellsx8
import Derived.Test.YtodfomkhhfcnhaaDoorPMonTellsx10
import Derived.Test.YtodfomkhhfcnhaaDoorPMonTellsx11
import Derived.Test.YtodfomkhhfcnhaaDoorPMonTellsx12
namespace Go.Proofs.YtodfomkhhfcnhaaDoor.PMonTells
open Go.RowKit Go.Proofs.YtodfomkhhfcnhaaDoorW.PrintWords Go.Proofs.YtodfomkhhfcnhaaDoorW.PrintLast Go.Proofs.YtodfomkhhfcnhaaDoorW.PrintMore
attribute [local go_sem] max2_int min2_int max_two min_two max_three min_three max_four min_four   -- for this text's walks alone
set_option linter.unusedVariables false
set_option linter.unusedSimpArgs false

/-! ### colloquylaw20_MonTells: function 3 -/
def colloquylaw20_MonTells.j0 : Nat → List Int → Bool → Int → List (S62) → Int → Int → Int → List Int → Option (Bool)
 | 0, _, _, _, _, _, _, _, _ => none
 | k + 1, x0, x23, x338000, x338001, x339000, x339001, x339002, x339003 => if x23 = true then ((colloquylaw20_sure.f k).bind fun t339 => (some t339)) else ((some (([] : List Int) : List Int)).bind fun y340 => (if y340.length + x0.length < 140737488355328 then ((some (y340 ++ x0 : List Int)).bind fun y343 => ((colloquylaw20_giveMon.f k x338000 x338001).bind fun bt347 => ((mon_Check.f k y343 bt347.1 bt347.2).bind fun t352 => ((colloquylaw20_num.f t352).bind fun t353 => ((colloquyref20_Check.f k x0 x338000 x338001).bind fun t354 => (if t353 = t354 then ((mon_Mon_Pc.f bt347.1 bt347.2).bind fun t355 => ((colloquyref20_Pc.f k x338000 x338001).bind fun t356 => (if t355 = t356 then ((mon_Raise.f k y343 bt347.1 bt347.2 x339003).bind fun t357 => ((colloquyref20_Raise.f k x0 x338000 x338001 x339003).bind fun t358 => (if t357 = t358 then ((mon_Else.f k y343 bt347.1 bt347.2 x339000 x339001 x339002).bind fun bt359 => ((colloquyref20_Else.f k x0 x338000 x338001 x339000 x339001 x339002).bind fun bt363 => ((colloquylaw20_isMon.f k bt359.1 bt359.2 bt363.1 bt363.2).bind fun t367 => (if t367 = true then ((mon_Join.f k bt347.1 bt347.2 x339000).bind fun bt368 => ((colloquyref20_Join.f k x338000 x338001 x339000).bind fun bt372 => ((colloquylaw20_isMon.f k bt368.1 bt368.2 bt372.1 bt372.2).bind fun t376 => (if t376 = true then ((mon_Take.f bt347.1 bt347.2 x339002).bind fun t377 => ((colloquylaw20_num.f t377).bind fun t378 => ((colloquyref20_Take.f x338000 x338001 x339002).bind fun t379 => (if t378 = t379 then ((mon_May.f k y343 x339001 x339002).bind fun t380 => ((colloquylaw20_num.f t380).bind fun t381 => ((colloquyref20_May.f k x0 x339001 x339002).bind fun t382 => (if t381 = t382 then ((colloquylaw20_isMon.f k bt347.1 bt347.2 x338000 x338001).bind fun t383 => (if t383 = true then ((colloquylaw20_sure.f k).bind fun t384 => (some t384)) else (none))) else (none))))) else (none))))) else (none))))) else (none))))) else (none)))) else (none)))) else (none))))))) else (none)))
def colloquylaw20_MonTells.f (k : Nat) (l0 : List Int) (a1_0 : Int) (l1_1 : List (S62)) (a2_0 : Int) (a2_1 : Int) (a2_2 : Int) (l2_3 : List Int) : Option (Bool) := if (l0.length : Int) > 20 then (colloquylaw20_MonTells.j0 k l0 true a1_0 l1_1 a2_0 a2_1 a2_2 l2_3) else (if (l1_1.length : Int) > 40 then (colloquylaw20_MonTells.j0 k l0 true a1_0 l1_1 a2_0 a2_1 a2_2 l2_3) else (colloquylaw20_MonTells.j0 k l0 (decide ((l2_3.length : Int) > 20)) a1_0 l1_1 a2_0 a2_1 a2_2 l2_3))
theorem colloquylaw20_MonTells.mono_l : ∀ k, (∀ y0 y1 y2 y3 y4 y5 y6 y7, LeO (colloquylaw20_MonTells.j0 k y0 y1 y2 y3 y4 y5 y6 y7) (colloquylaw20_MonTells.j0 (k + 1) y0 y1 y2 y3 y4 y5 y6 y7))
 | 0 => fun _ _ _ _ _ _ _ _ r h => by simp [colloquylaw20_MonTells.j0] at h
 | k + 1 => by
  have ih0 := colloquylaw20_MonTells.mono_l k
  ·intro y0 y1 y2 y3 y4 y5 y6 y7
   unfold colloquylaw20_MonTells.j0
   repeat' first
   | (with_reducible exact ih0 _ _ _ _ _ _ _ _)
   | (with_reducible exact colloquylaw20_giveMon.mono _ _ _)
   | (with_reducible exact colloquylaw20_isMon.mono _ _ _ _ _)
   | (with_reducible exact colloquylaw20_sure.mono _)
   | (with_reducible exact colloquyref20_Check.mono _ _ _ _)
   | (with_reducible exact colloquyref20_Else.mono _ _ _ _ _ _ _)
   | (with_reducible exact colloquyref20_Join.mono _ _ _ _)
   | (with_reducible exact colloquyref20_May.mono _ _ _ _)
   | (with_reducible exact colloquyref20_Pc.mono _ _ _)
   | (with_reducible exact colloquyref20_Raise.mono _ _ _ _ _)
   | (with_reducible exact mon_Check.mono _ _ _ _)
   | (with_reducible exact mon_Else.mono _ _ _ _ _ _ _)
   | (with_reducible exact mon_Join.mono _ _ _ _)
   | (with_reducible exact mon_May.mono _ _ _ _)
   | (with_reducible exact mon_Raise.mono _ _ _ _ _)
   | (with_reducible exact LeO.refl _)
   | (with_reducible exact LeO.none _)
   | (with_reducible refine LeO.ite ?_ ?_)
   | (with_reducible refine LeO.bind ?_ (fun _ => ?_))
   | exact ih0 _ _ _ _ _ _ _ _
   | exact colloquylaw20_giveMon.mono _ _ _
   | exact colloquylaw20_isMon.mono _ _ _ _ _
   | exact colloquylaw20_sure.mono _
   | exact colloquyref20_Check.mono _ _ _ _
   | exact colloquyref20_Else.mono _ _ _ _ _ _ _
   | exact colloquyref20_Join.mono _ _ _ _
   | exact colloquyref20_May.mono _ _ _ _
   | exact colloquyref20_Pc.mono _ _ _
   | exact colloquyref20_Raise.mono _ _ _ _ _
   | exact mon_Check.mono _ _ _ _
   | exact mon_Else.mono _ _ _ _ _ _ _
   | exact mon_Join.mono _ _ _ _
   | exact mon_May.mono _ _ _ _
   | exact mon_Raise.mono _ _ _ _ _
   | exact LeO.none _
   | refine LeO.ite ?_ ?_
   | refine LeO.bind ?_ (fun _ => ?_)
theorem colloquylaw20_MonTells.mono : ∀ a0 a1 a2 a3 a4 a5 a6 k, LeO (colloquylaw20_MonTells.f k a0 a1 a2 a3 a4 a5 a6) (colloquylaw20_MonTells.f (k + 1) a0 a1 a2 a3 a4 a5 a6) := by
 intro a0 a1 a2 a3 a4 a5 a6 k
 have ih0 := colloquylaw20_MonTells.mono_l k
 unfold colloquylaw20_MonTells.f
 repeat' first
   | (with_reducible exact ih0 _ _ _ _ _ _ _ _)
   | (with_reducible exact colloquylaw20_giveMon.mono _ _ _)
   | (with_reducible exact colloquylaw20_isMon.mono _ _ _ _ _)
   | (with_reducible exact colloquylaw20_sure.mono _)
   | (with_reducible exact colloquyref20_Check.mono _ _ _ _)
   | (with_reducible exact colloquyref20_Else.mono _ _ _ _ _ _ _)
   | (with_reducible exact colloquyref20_Join.mono _ _ _ _)
   | (with_reducible exact colloquyref20_May.mono _ _ _ _)
   | (with_reducible exact colloquyref20_Pc.mono _ _ _)
   | (with_reducible exact colloquyref20_Raise.mono _ _ _ _ _)
   | (with_reducible exact mon_Check.mono _ _ _ _)
   | (with_reducible exact mon_Else.mono _ _ _ _ _ _ _)
   | (with_reducible exact mon_Join.mono _ _ _ _)
   | (with_reducible exact mon_May.mono _ _ _ _)
   | (with_reducible exact mon_Raise.mono _ _ _ _ _)
   | (with_reducible exact LeO.refl _)
   | (with_reducible exact LeO.none _)
   | (with_reducible refine LeO.ite ?_ ?_)
   | (with_reducible refine LeO.bind ?_ (fun _ => ?_))
   | exact ih0 _ _ _ _ _ _ _ _
   | exact colloquylaw20_giveMon.mono _ _ _
   | exact colloquylaw20_isMon.mono _ _ _ _ _
   | exact colloquylaw20_sure.mono _
   | exact colloquyref20_Check.mono _ _ _ _
   | exact colloquyref20_Else.mono _ _ _ _ _ _ _
   | exact colloquyref20_Join.mono _ _ _ _
   | exact colloquyref20_May.mono _ _ _ _
   | exact colloquyref20_Pc.mono _ _ _
   | exact colloquyref20_Raise.mono _ _ _ _ _
   | exact mon_Check.mono _ _ _ _
   | exact mon_Else.mono _ _ _ _ _ _ _
   | exact mon_Join.mono _ _ _ _
   | exact mon_May.mono _ _ _ _
   | exact mon_Raise.mono _ _ _ _ _
   | exact LeO.none _
   | refine LeO.ite ?_ ?_
   | refine LeO.bind ?_ (fun _ => ?_)
def colloquylaw20_MonTells.T5 : Bool × List (List Nat × List Nat) := (true, [([], []), ([], []), ([0, 1], [0, 1]), ([2, 2], [2]), ([], []), ([], []), ([4, 5, 3], [4, 5]), ([3, 6], [3, 6]), ([7, 6], [7]), ([8], [8]), ([9, 8, 8], [8, 9]), ([8], [8]), ([11, 10, 8], [8, 11]), ([10, 12, 8], [8, 10, 12]), ([8, 13], [8, 13]), ([14, 12], [14]), ([15], [15]), ([15], [15]), ([15], [15]), ([18, 15], [15, 18]), ([16, 17, 19, 15, 15], [15, 16, 17, 19]), ([15], [15]), ([15], [15]), ([15], [15]), ([23, 15], [15, 23]), ([21, 22, 24, 20, 15], [15, 21, 22, 24]), ([20, 25, 15], [15, 20, 25]), ([15, 26], [15, 26])])
def colloquylaw20_MonTells.B5 : List Nat := [0, 0, 3, 7, 0, 0, 63, 127, 255, 511, 1023, 511, 4095, 8191, 16383, 32767, 65535, 65535, 65535, 327679, 1048575, 65535, 65535, 65535, 8454143, 33554431, 67108863, 134217727]
theorem colloquylaw20_MonTells.tab5 : rtab .any (opsOf Tryd.f3 5) = colloquylaw20_MonTells.T5 := by kernel_rfl
theorem colloquylaw20_MonTells.bits5 : waitsOk colloquylaw20_MonTells.T5.2 colloquylaw20_MonTells.B5 = true := by kernel_rfl
def colloquylaw20_MonTells.T7 : Bool × List (List Nat × List Nat) := (true, [([], []), ([], []), ([], []), ([2], [2]), ([], []), ([4], [4]), ([], []), ([6], [6]), ([0, 1, 3, 5, 7], [0, 1, 3, 5, 7]), ([], []), ([], []), ([], []), ([11], [11]), ([], []), ([13], [13]), ([], []), ([15], [15]), ([9, 10, 12, 14, 16, 8], [9, 10, 12, 14, 16]), ([8, 17, 17], [8, 17]), ([18, 18], [18]), ([19], [19]), ([19], [19]), ([21, 19], [19, 21]), ([20, 22, 19, 19], [19, 20, 22]), ([19], [19]), ([19], [19]), ([25, 19], [19, 25]), ([24, 26, 23, 19], [19, 24, 26]), ([23, 27, 27, 19], [19, 23, 27]), ([19, 28], [19, 28]), ([29, 28], [29]), ([30], [30]), ([30], [30]), ([32, 30], [30, 32]), ([31, 33, 30, 30], [30, 31, 33]), ([34, 34, 30], [30, 34]), ([30], [30]), ([30], [30]), ([37, 30], [30, 37]), ([36, 38, 35, 30], [30, 36, 38]), ([35, 39, 30], [30, 35, 39]), ([30, 40], [30, 40]), ([41, 39], [41]), ([42], [42]), ([42], [42]), ([44, 42], [42, 44]), ([42], [42]), ([46, 42], [42, 46]), ([43, 45, 47, 42, 42], [42, 43, 45, 47]), ([48, 48, 42], [42, 48]), ([42], [42]), ([42], [42]), ([51, 42], [42, 51]), ([42], [42]), ([53, 42], [42, 53]), ([50, 52, 54, 49, 42], [42, 50, 52, 54]), ([49, 55, 42], [42, 49, 55]), ([42, 56], [42, 56]), ([57, 55], [57]), ([58], [58]), ([58], [58]), ([59, 60, 58, 58], [58, 59, 60]), ([58, 61], [58, 61]), ([62, 61], [62]), ([63, 63], [63]), ([63, 64], [63, 64]), ([65, 64, 0, 1, 2, 3, 4, 5, 6, 7, 8, 9, 10, 11, 12, 13, 14, 15, 16, 17, 18, 19, 20, 21, 22, 23, 24, 25, 26, 27, 28, 29, 30, 31, 32, 33, 34, 35, 36, 37, 38, 39, 40, 41, 42, 43, 44, 45, 46, 47, 48, 49, 50, 51, 52, 53, 54, 55, 56, 57, 58, 59, 60, 61, 62, 63, 64, 65], [65])])
def colloquylaw20_MonTells.B7 : List Nat := [0, 0, 0, 4, 0, 16, 0, 64, 255, 0, 0, 0, 2048, 0, 8192, 0, 32768, 131071, 262143, 524287, 1048575, 1048575, 3145727, 8388607, 1048575, 1048575, 34603007, 134217727, 268435455, 536870911, 1073741823, 2147483647, 2147483647, 6442450943, 17179869183, 34359738367, 2147483647, 2147483647, 139586437119, 549755813887, 1099511627775, 2199023255551, 4398046511103, 8796093022207, 8796093022207, 26388279066623, 8796093022207, 79164837199871, 281474976710655, 562949953421311, 8796093022207, 8796093022207, 2260595906707455, 8796093022207, 9015995347763199, 36028797018963967, 72057594037927935, 144115188075855871, 288230376151711743, 576460752303423487, 576460752303423487, 2305843009213693951, 4611686018427387903, 9223372036854775807, 18446744073709551615, 36893488147419103231, 73786976294838206463]
theorem colloquylaw20_MonTells.tab7 : rtab .any (opsOf Tryd.f3 7) = colloquylaw20_MonTells.T7 := by kernel_rfl
theorem colloquylaw20_MonTells.bits7 : waitsOk colloquylaw20_MonTells.T7.2 colloquylaw20_MonTells.B7 = true := by kernel_rfl
set_option maxHeartbeats 8000000 in
set_option maxRecDepth 100000 in
theorem colloquylaw20_MonTells.calls (k : Nat) (A0 : Option Addr) (c0 : Nat) (l0 : List Int) (a1_0 : Int) (A1_1 : Option Addr) (c1_1 : Nat) (l1_1 : List (S62)) (a2_0 : Int) (a2_1 : Int) (a2_2 : Int) (A2_3 : Option Addr) (c2_3 : Nat) (l2_3 : List Int) (r : Bool) (w : World) (hr0 : Kd.C (Kd.int .u8) w A0 l0.length l0) (hc0 : l0.length ≤ c0) (hr1_1 : Kd.C k62 w A1_1 l1_1.length l1_1) (hc1_1 : l1_1.length ≤ c1_1) (hr2_3 : Kd.C (Kd.int .i64) w A2_3 l2_3.length l2_3) (hc2_3 : l2_3.length ≤ c2_3) (hg : Go.Proofs.YtodfomkhhfcnhaaDoor.AsNum.GP w) (h : colloquylaw20_MonTells.f k l0 a1_0 l1_1 a2_0 a2_1 a2_2 l2_3 = some r) :
  Calls Tryd.prog 3 #[.slice A0 l0.length c0, .agg #[.int .i64 a1_0, .slice A1_1 l1_1.length c1_1], .agg #[.int .i64 a2_0, .int .i64 a2_1, .int .i64 a2_2, .slice A2_3 l2_3.length c2_3]] w fun e w' => e = .returned (.bool r) ∧ Below w.heap.size w w' := by
 have hu25 := Tryd.underlying25
 have hu28 := Tryd.underlying28
 have hu31 := Tryd.underlying31
 have hu34 := Tryd.underlying34
 have HG := Aside0.mk hg
 clear hg
 have HR0 := Aside0.mk hr0
 have HC0 := Aside0.mk hc0
 clear hr0 hc0
 have HR1_1 := Aside0.mk hr1_1
 have HC1_1 := Aside0.mk hc1_1
 clear hr1_1 hc1_1
 have HR2_3 := Aside0.mk hr2_3
 have HC2_3 := Aside0.mk hc2_3
 clear hr2_3 hc2_3
 have HB := Aside0.mk (Below.refl w.heap.size w)
 have H : (if (l0.length : Int) > 20 then (colloquylaw20_MonTells.j0 k l0 true a1_0 l1_1 a2_0 a2_1 a2_2 l2_3) else (if (l1_1.length : Int) > 40 then (colloquylaw20_MonTells.j0 k l0 true a1_0 l1_1 a2_0 a2_1 a2_2 l2_3) else (colloquylaw20_MonTells.j0 k l0 (decide ((l2_3.length : Int) > 20)) a1_0 l1_1 a2_0 a2_1 a2_2 l2_3))) = some r := h
 clear h
 have HC4 := Aside0.mk H
 clear H
 go_enter Tryd.func3, Tryd.ntmps3
 try simp only [List.append_eq, List.cons_append, List.nil_append]
 go_upto_region 1 with (first | ((with_reducible refine gate_dst (N := 4) rfl ?_); (try (refine gate_guard (by rfl) ?_; dsimp only)); refine box_event ?hg (N := 4) ?hd (cs := #[.int .i64 a1_0, .slice A1_1 l1_1.length c1_1]) (t := 25) ?hr ?_; (case hd => rfl); (case hg => rfl); (case hr => first | (go_simp; done) | (go_simp; rfl)); intro gb337 hg w5 hbox hb; have n0_ := Aside0.mk (below_step (uB0 HB) hb); have n1_ := Aside0.mk (hbox); have n2_ := Aside0.mk ((by rw [hg]; exact (below_size (uB0 HB)) : w.heap.size ≤ gb337)); have n3_ := Aside0.mk ((by rw [hg]; exact (below_size (uB0 HB)) : w.heap.size ≤ gb337)); clear HB; have HB := n0_; have BK337 := n1_; have GW337 := n2_; have GE337 := n3_; clear n0_ n1_ n2_ n3_; clear hb hbox hg) | ((with_reducible refine gate_dst (N := 5) rfl ?_); (try (refine gate_guard (by rfl) ?_; dsimp only)); refine box_event ?hg (N := 5) ?hd (cs := #[.int .i64 a2_0, .int .i64 a2_1, .int .i64 a2_2, .slice A2_3 l2_3.length c2_3]) (t := 28) ?hr ?_; (case hd => rfl); (case hg => rfl); (case hr => first | (go_simp; done) | (go_simp; rfl)); intro gb338 hg w6 hbox hb; have n0_ := Aside0.mk (blk_below (g := gb337) (o := .cells #[.int .i64 a1_0, .slice A1_1 l1_1.length c1_1] 25 (0, 0)) (uK BK337) hb); have n1_ := Aside0.mk (below_step (uB1 HB GE337) hb); have n2_ := Aside0.mk (hbox); have n3_ := Aside0.mk ((by rw [hg]; exact (below_size (uB1 HB GE337)) : w.heap.size ≤ gb338)); have n4_ := Aside0.mk ((by rw [hg]; exact (below_size (uB1 HB GE337)) : w.heap.size ≤ gb338)); have n5_ := Aside0.mk ((by rw [hg]; exact Nat.ne_of_lt (blk_lt (g := gb337) (o := .cells #[.int .i64 a1_0, .slice A1_1 l1_1.length c1_1] 25 (0, 0)) (uK BK337)) : gb337 ≠ gb338)); have n6_ := Aside0.mk ((by rw [hg]; exact Nat.ne_of_gt (blk_lt (g := gb337) (o := .cells #[.int .i64 a1_0, .slice A1_1 l1_1.length c1_1] 25 (0, 0)) (uK BK337)) : gb338 ≠ gb337)); clear BK337; clear HB; have BK337 := n0_; have HB := n1_; have BK338 := n2_; have GW338 := n3_; have GE338 := n4_; have NB337_338 := n5_; have NB338_337 := n6_; clear n0_ n1_ n2_ n3_ n4_ n5_ n6_; clear hb hbox hg))
 (try simp only [Act.put, List.setIfInBounds_toArray, List.set_cons_zero, List.set_cons_succ])
 go_cut [23] (fun v23 wc => ∃ (kq : Nat) (x23_3 : Bool), v23 = .bool x23_3 ∧ Aside0 (colloquylaw20_MonTells.j0 kq l0 x23_3 a1_0 l1_1 a2_0 a2_1 a2_2 l2_3 = some r) ∧ Aside0 (kq ≤ k) ∧ Aside0 (wc.heap[gb337]? = some (.cells #[.int .i64 a1_0, (.slice A1_1 l1_1.length c1_1)] 25 (0, 0))) ∧ Aside0 (wc.heap[gb338]? = some (.cells #[.int .i64 a2_0, .int .i64 a2_1, .int .i64 a2_2, (.slice A2_3 l2_3.length c2_3)] 28 (0, 0))) ∧ Aside0 (Below w.heap.size w wc))
 case first =>
  have H := HC4.out
  clear HC4
  by_cases c7 : (l0.length : Int) > 20
  ·rw [if_pos c7] at H
   have c7b0 : decide (20 < (l0.length : Int)) = true := decide_eq_true c7
   have c7b1 : decide (20 < l0.length) = true := decide_eq_true (by omega)
   clear c7
   (first | rw [c7b0] | (simp only [i64_w, i32_w]; rw [c7b0]) | skip)
   have H' := Aside0.mk H
   clear H
   go_wp2
   go_meet
   case rel => exact ⟨_, (true), (by first | rfl | (simp; done) | (simp [*]; done)), H', ⟨by first | omega | exact Nat.le_refl _⟩, ⟨uK BK337⟩, ⟨uK BK338⟩, ⟨uB2 HB GE337 GE338⟩⟩
  ·rw [if_neg c7] at H
   have c7b0 : decide (20 < (l0.length : Int)) = false := decide_eq_false c7
   have c7b1 : decide (20 < l0.length) = false := decide_eq_false (by omega)
   clear c7
   (first | rw [c7b0] | (simp only [i64_w, i32_w]; rw [c7b0]) | skip)
   by_cases c8 : (l1_1.length : Int) > 40
   ·rw [if_pos c8] at H
    have c8b0 : decide (40 < (l1_1.length : Int)) = true := decide_eq_true c8
    have c8b1 : decide (40 < l1_1.length) = true := decide_eq_true (by omega)
    clear c8
    have H' := Aside0.mk H
    clear H
    have hnb9 := NB337_338.out
    have hnc9 := NB338_337.out
    have hcz10_0 : w6.cell? ⟨gb337, 0, none⟩ = some (.int .i64 a1_0) := (blk_cell BK337.out 0).trans rfl
    have hcz10_1 : w6.cell? ⟨gb337, 1, none⟩ = some (.slice A1_1 l1_1.length c1_1) := (blk_cell BK337.out 1).trans rfl
    have hfz10_0 := blk_frozen BK337.out 0
    have hfz10_1 := blk_frozen BK337.out 1
    go_wp2
    go_meet
    case rel => exact ⟨_, (true), (by first | rfl | (simp; done) | (simp [*]; done)), H', ⟨by first | omega | exact Nat.le_refl _⟩, ⟨uK BK337⟩, ⟨uK BK338⟩, ⟨uB2 HB GE337 GE338⟩⟩
   ·rw [if_neg c8] at H
    have c8b0 : decide (40 < (l1_1.length : Int)) = false := decide_eq_false c8
    have c8b1 : decide (40 < l1_1.length) = false := decide_eq_false (by omega)
    clear c8
    have H' := Aside0.mk H
    clear H
    have hnb11 := NB337_338.out
    have hnc11 := NB338_337.out
    have hcz12_0 : w6.cell? ⟨gb337, 0, none⟩ = some (.int .i64 a1_0) := (blk_cell BK337.out 0).trans rfl
    have hcz12_1 : w6.cell? ⟨gb337, 1, none⟩ = some (.slice A1_1 l1_1.length c1_1) := (blk_cell BK337.out 1).trans rfl
    have hfz12_0 := blk_frozen BK337.out 0
    have hfz12_1 := blk_frozen BK337.out 1
    have hcz13_0 : w6.cell? ⟨gb338, 0, none⟩ = some (.int .i64 a2_0) := (blk_cell BK338.out 0).trans rfl
    have hcz13_1 : w6.cell? ⟨gb338, 1, none⟩ = some (.int .i64 a2_1) := (blk_cell BK338.out 1).trans rfl
    have hcz13_2 : w6.cell? ⟨gb338, 2, none⟩ = some (.int .i64 a2_2) := (blk_cell BK338.out 2).trans rfl
    have hcz13_3 : w6.cell? ⟨gb338, 3, none⟩ = some (.slice A2_3 l2_3.length c2_3) := (blk_cell BK338.out 3).trans rfl
    have hfz13_0 := blk_frozen BK338.out 0
    have hfz13_1 := blk_frozen BK338.out 1
    have hfz13_2 := blk_frozen BK338.out 2
    have hfz13_3 := blk_frozen BK338.out 3
    go_wp2
    go_meet
    case rel => exact ⟨_, (decide ((l2_3.length : Int) > 20)), (by first | rfl | (simp; done) | (simp [*]; done)), H', ⟨by first | omega | exact Nat.le_refl _⟩, ⟨uK BK337⟩, ⟨uK BK338⟩, ⟨uB2 HB GE337 GE338⟩⟩
 case rest =>
  clear HC4
  try clear c1
  try clear c2
  try clear p2
  try clear c3
  try clear c7
  try clear c7b0
  try clear c7b1
  try clear c8
  try clear c8b0
  try clear c8b1
  try clear c9
  try clear c11
  try clear hcz10_0
  try clear hcz10_1
  try clear hcz12_0
  try clear hcz12_1
  try clear hcz13_0
  try clear hcz13_1
  try clear hcz13_2
  try clear hcz13_3
  try clear hfz10_0
  try clear hfz10_1
  try clear hfz12_0
  try clear hfz12_1
  try clear hfz13_0
  try clear hfz13_1
  try clear hfz13_2
  try clear hfz13_3
  obtain ⟨kq, x23_3, rfl, HA, HJ3, BK337, BK338, HB⟩ := hcut
  cases kq with
  | zero => exact absurd HA.out (by simp [colloquylaw20_MonTells.j0])
  | succ kj3 =>
   have H := HA.out
   clear HA
   simp only [colloquylaw20_MonTells.j0] at H
   by_cases c14 : x23_3 = true
   ·subst c14
    have H1 : ((colloquylaw20_sure.f kj3).bind fun t339 => (some t339)) = some r := by rw [if_pos rfl] at H; exact H
    clear H
    have H := H1
    clear H1
    replace H := Option.bind_eq_some_iff.mp H
    obtain ⟨t339, A150, H⟩ := H
    replace H : (some t339) = some r := H
    have A15 := Aside0.mk A150
    clear A150
    obtain rfl := Option.some.inj H
    go_wp2_with (first | ((with_reducible refine gate_callee (f := 7) rfl ?_); refine goesL_ (some 24) rfl rfl Tryd.func7 (by kernel_rfl) rfl #[] rfl uC ?_; (with_reducible refine (colloquylaw20_sure.calls kj3  t339 _ ?side1 A15.out).mono ?_); (case side1 => exact HG.out.below (uB2 HB GE337 GE338)); rintro e w16 ⟨rfl, hb⟩; refine ⟨_, rfl, ?_⟩; have n0_ := Aside0.mk (blk_below (g := gb337) (o := .cells #[.int .i64 a1_0, .slice A1_1 l1_1.length c1_1] 25 (0, 0)) (uK BK337) hb); have n1_ := Aside0.mk (blk_below (g := gb338) (o := .cells #[.int .i64 a2_0, .int .i64 a2_1, .int .i64 a2_2, .slice A2_3 l2_3.length c2_3] 28 (0, 0)) (uK BK338) hb); have n2_ := Aside0.mk (below_step (uB2 HB GE337 GE338) hb); clear BK337; clear BK338; clear HB; have BK337 := n0_; have BK338 := n1_; have HB := n2_; clear n0_ n1_ n2_; (try clear hb); (try clear hb2); (try clear hk); (try clear hi)))
    go_ret
    exact ⟨by first | rfl | (simp [errW_none, errW_some] <;> rfl) | (simp [*, errW_none, errW_some] <;> rfl), uB2 HB GE337 GE338⟩
   ·replace c14 := Bool.eq_false_iff.mpr c14
    subst c14
    have H1 : ((some (([] : List Int) : List Int)).bind fun y340 => (if y340.length + l0.length < 140737488355328 then ((some (y340 ++ l0 : List Int)).bind fun y343 => ((colloquylaw20_giveMon.f kj3 a1_0 l1_1).bind fun bt347 => ((mon_Check.f kj3 y343 bt347.1 bt347.2).bind fun t352 => ((colloquylaw20_num.f t352).bind fun t353 => ((colloquyref20_Check.f kj3 l0 a1_0 l1_1).bind fun t354 => (if t353 = t354 then ((mon_Mon_Pc.f bt347.1 bt347.2).bind fun t355 => ((colloquyref20_Pc.f kj3 a1_0 l1_1).bind fun t356 => (if t355 = t356 then ((mon_Raise.f kj3 y343 bt347.1 bt347.2 l2_3).bind fun t357 => ((colloquyref20_Raise.f kj3 l0 a1_0 l1_1 l2_3).bind fun t358 => (if t357 = t358 then ((mon_Else.f kj3 y343 bt347.1 bt347.2 a2_0 a2_1 a2_2).bind fun bt359 => ((colloquyref20_Else.f kj3 l0 a1_0 l1_1 a2_0 a2_1 a2_2).bind fun bt363 => ((colloquylaw20_isMon.f kj3 bt359.1 bt359.2 bt363.1 bt363.2).bind fun t367 => (if t367 = true then ((mon_Join.f kj3 bt347.1 bt347.2 a2_0).bind fun bt368 => ((colloquyref20_Join.f kj3 a1_0 l1_1 a2_0).bind fun bt372 => ((colloquylaw20_isMon.f kj3 bt368.1 bt368.2 bt372.1 bt372.2).bind fun t376 => (if t376 = true then ((mon_Take.f bt347.1 bt347.2 a2_2).bind fun t377 => ((colloquylaw20_num.f t377).bind fun t378 => ((colloquyref20_Take.f a1_0 l1_1 a2_2).bind fun t379 => (if t378 = t379 then ((mon_May.f kj3 y343 a2_1 a2_2).bind fun t380 => ((colloquylaw20_num.f t380).bind fun t381 => ((colloquyref20_May.f kj3 l0 a2_1 a2_2).bind fun t382 => (if t381 = t382 then ((colloquylaw20_isMon.f kj3 bt347.1 bt347.2 a1_0 l1_1).bind fun t383 => (if t383 = true then ((colloquylaw20_sure.f kj3).bind fun t384 => (some t384)) else (none))) else (none))))) else (none))))) else (none))))) else (none))))) else (none)))) else (none)))) else (none))))))) else (none))) = some r := by rw [if_neg (show ¬ (false = true) by decide)] at H; exact H
    clear H
    have H := H1
    clear H1
    obtain ⟨y340, hy340⟩ : ∃ y_ : List Int, y_ = (([] : List Int)) := ⟨_, rfl⟩
    replace H : (if y340.length + l0.length < 140737488355328 then ((some (y340 ++ l0 : List Int)).bind fun y343 => ((colloquylaw20_giveMon.f kj3 a1_0 l1_1).bind fun bt347 => ((mon_Check.f kj3 y343 bt347.1 bt347.2).bind fun t352 => ((colloquylaw20_num.f t352).bind fun t353 => ((colloquyref20_Check.f kj3 l0 a1_0 l1_1).bind fun t354 => (if t353 = t354 then ((mon_Mon_Pc.f bt347.1 bt347.2).bind fun t355 => ((colloquyref20_Pc.f kj3 a1_0 l1_1).bind fun t356 => (if t355 = t356 then ((mon_Raise.f kj3 y343 bt347.1 bt347.2 l2_3).bind fun t357 => ((colloquyref20_Raise.f kj3 l0 a1_0 l1_1 l2_3).bind fun t358 => (if t357 = t358 then ((mon_Else.f kj3 y343 bt347.1 bt347.2 a2_0 a2_1 a2_2).bind fun bt359 => ((colloquyref20_Else.f kj3 l0 a1_0 l1_1 a2_0 a2_1 a2_2).bind fun bt363 => ((colloquylaw20_isMon.f kj3 bt359.1 bt359.2 bt363.1 bt363.2).bind fun t367 => (if t367 = true then ((mon_Join.f kj3 bt347.1 bt347.2 a2_0).bind fun bt368 => ((colloquyref20_Join.f kj3 a1_0 l1_1 a2_0).bind fun bt372 => ((colloquylaw20_isMon.f kj3 bt368.1 bt368.2 bt372.1 bt372.2).bind fun t376 => (if t376 = true then ((mon_Take.f bt347.1 bt347.2 a2_2).bind fun t377 => ((colloquylaw20_num.f t377).bind fun t378 => ((colloquyref20_Take.f a1_0 l1_1 a2_2).bind fun t379 => (if t378 = t379 then ((mon_May.f kj3 y343 a2_1 a2_2).bind fun t380 => ((colloquylaw20_num.f t380).bind fun t381 => ((colloquyref20_May.f kj3 l0 a2_1 a2_2).bind fun t382 => (if t381 = t382 then ((colloquylaw20_isMon.f kj3 bt347.1 bt347.2 a1_0 l1_1).bind fun t383 => (if t383 = true then ((colloquylaw20_sure.f kj3).bind fun t384 => (some t384)) else (none))) else (none))))) else (none))))) else (none))))) else (none))))) else (none)))) else (none)))) else (none))))))) else (none)) = some r := by first | (rw [hy340]; with_reducible exact H) | (have H2_ := (Option.bind_some _ _).symm.trans H; rw [hy340]; with_reducible exact H2_) | (have H2_ := (Option.bind_some _ _).symm.trans H; with_reducible exact H2_) | with_reducible exact H | (rw [hy340]; exact H) | exact H
    have Ny340 := Aside0.mk hy340
    clear hy340
    by_cases c17 : y340.length + l0.length < 140737488355328
    ·rw [if_pos c17] at H
     have LMc17 := Aside0.mk c17
     clear c17
     obtain ⟨y343, hy343⟩ : ∃ y_ : List Int, y_ = (y340 ++ l0) := ⟨_, rfl⟩
     replace H : ((colloquylaw20_giveMon.f kj3 a1_0 l1_1).bind fun bt347 => ((mon_Check.f kj3 y343 bt347.1 bt347.2).bind fun t352 => ((colloquylaw20_num.f t352).bind fun t353 => ((colloquyref20_Check.f kj3 l0 a1_0 l1_1).bind fun t354 => (if t353 = t354 then ((mon_Mon_Pc.f bt347.1 bt347.2).bind fun t355 => ((colloquyref20_Pc.f kj3 a1_0 l1_1).bind fun t356 => (if t355 = t356 then ((mon_Raise.f kj3 y343 bt347.1 bt347.2 l2_3).bind fun t357 => ((colloquyref20_Raise.f kj3 l0 a1_0 l1_1 l2_3).bind fun t358 => (if t357 = t358 then ((mon_Else.f kj3 y343 bt347.1 bt347.2 a2_0 a2_1 a2_2).bind fun bt359 => ((colloquyref20_Else.f kj3 l0 a1_0 l1_1 a2_0 a2_1 a2_2).bind fun bt363 => ((colloquylaw20_isMon.f kj3 bt359.1 bt359.2 bt363.1 bt363.2).bind fun t367 => (if t367 = true then ((mon_Join.f kj3 bt347.1 bt347.2 a2_0).bind fun bt368 => ((colloquyref20_Join.f kj3 a1_0 l1_1 a2_0).bind fun bt372 => ((colloquylaw20_isMon.f kj3 bt368.1 bt368.2 bt372.1 bt372.2).bind fun t376 => (if t376 = true then ((mon_Take.f bt347.1 bt347.2 a2_2).bind fun t377 => ((colloquylaw20_num.f t377).bind fun t378 => ((colloquyref20_Take.f a1_0 l1_1 a2_2).bind fun t379 => (if t378 = t379 then ((mon_May.f kj3 y343 a2_1 a2_2).bind fun t380 => ((colloquylaw20_num.f t380).bind fun t381 => ((colloquyref20_May.f kj3 l0 a2_1 a2_2).bind fun t382 => (if t381 = t382 then ((colloquylaw20_isMon.f kj3 bt347.1 bt347.2 a1_0 l1_1).bind fun t383 => (if t383 = true then ((colloquylaw20_sure.f kj3).bind fun t384 => (some t384)) else (none))) else (none))))) else (none))))) else (none))))) else (none))))) else (none)))) else (none)))) else (none)))))) = some r := by first | (rw [hy343]; with_reducible exact H) | (have H2_ := (Option.bind_some _ _).symm.trans H; rw [hy343]; with_reducible exact H2_) | (have H2_ := (Option.bind_some _ _).symm.trans H; with_reducible exact H2_) | with_reducible exact H | (rw [hy343]; exact H) | exact H
     have Ny343 := Aside0.mk hy343
     clear hy343
     replace H := Option.bind_eq_some_iff.mp H
     obtain ⟨⟨t347, t348⟩, A180, H⟩ := H
     replace H : ((mon_Check.f kj3 y343 t347 t348).bind fun t352 => ((colloquylaw20_num.f t352).bind fun t353 => ((colloquyref20_Check.f kj3 l0 a1_0 l1_1).bind fun t354 => (if t353 = t354 then ((mon_Mon_Pc.f t347 t348).bind fun t355 => ((colloquyref20_Pc.f kj3 a1_0 l1_1).bind fun t356 => (if t355 = t356 then ((mon_Raise.f kj3 y343 t347 t348 l2_3).bind fun t357 => ((colloquyref20_Raise.f kj3 l0 a1_0 l1_1 l2_3).bind fun t358 => (if t357 = t358 then ((mon_Else.f kj3 y343 t347 t348 a2_0 a2_1 a2_2).bind fun bt359 => ((colloquyref20_Else.f kj3 l0 a1_0 l1_1 a2_0 a2_1 a2_2).bind fun bt363 => ((colloquylaw20_isMon.f kj3 bt359.1 bt359.2 bt363.1 bt363.2).bind fun t367 => (if t367 = true then ((mon_Join.f kj3 t347 t348 a2_0).bind fun bt368 => ((colloquyref20_Join.f kj3 a1_0 l1_1 a2_0).bind fun bt372 => ((colloquylaw20_isMon.f kj3 bt368.1 bt368.2 bt372.1 bt372.2).bind fun t376 => (if t376 = true then ((mon_Take.f t347 t348 a2_2).bind fun t377 => ((colloquylaw20_num.f t377).bind fun t378 => ((colloquyref20_Take.f a1_0 l1_1 a2_2).bind fun t379 => (if t378 = t379 then ((mon_May.f kj3 y343 a2_1 a2_2).bind fun t380 => ((colloquylaw20_num.f t380).bind fun t381 => ((colloquyref20_May.f kj3 l0 a2_1 a2_2).bind fun t382 => (if t381 = t382 then ((colloquylaw20_isMon.f kj3 t347 t348 a1_0 l1_1).bind fun t383 => (if t383 = true then ((colloquylaw20_sure.f kj3).bind fun t384 => (some t384)) else (none))) else (none))))) else (none))))) else (none))))) else (none))))) else (none)))) else (none)))) else (none))))) = some r := H
     have A18 := Aside0.mk A180
     clear A180
     replace H := Option.bind_eq_some_iff.mp H
     obtain ⟨t352, A190, H⟩ := H
     replace H : ((colloquylaw20_num.f t352).bind fun t353 => ((colloquyref20_Check.f kj3 l0 a1_0 l1_1).bind fun t354 => (if t353 = t354 then ((mon_Mon_Pc.f t347 t348).bind fun t355 => ((colloquyref20_Pc.f kj3 a1_0 l1_1).bind fun t356 => (if t355 = t356 then ((mon_Raise.f kj3 y343 t347 t348 l2_3).bind fun t357 => ((colloquyref20_Raise.f kj3 l0 a1_0 l1_1 l2_3).bind fun t358 => (if t357 = t358 then ((mon_Else.f kj3 y343 t347 t348 a2_0 a2_1 a2_2).bind fun bt359 => ((colloquyref20_Else.f kj3 l0 a1_0 l1_1 a2_0 a2_1 a2_2).bind fun bt363 => ((colloquylaw20_isMon.f kj3 bt359.1 bt359.2 bt363.1 bt363.2).bind fun t367 => (if t367 = true then ((mon_Join.f kj3 t347 t348 a2_0).bind fun bt368 => ((colloquyref20_Join.f kj3 a1_0 l1_1 a2_0).bind fun bt372 => ((colloquylaw20_isMon.f kj3 bt368.1 bt368.2 bt372.1 bt372.2).bind fun t376 => (if t376 = true then ((mon_Take.f t347 t348 a2_2).bind fun t377 => ((colloquylaw20_num.f t377).bind fun t378 => ((colloquyref20_Take.f a1_0 l1_1 a2_2).bind fun t379 => (if t378 = t379 then ((mon_May.f kj3 y343 a2_1 a2_2).bind fun t380 => ((colloquylaw20_num.f t380).bind fun t381 => ((colloquyref20_May.f kj3 l0 a2_1 a2_2).bind fun t382 => (if t381 = t382 then ((colloquylaw20_isMon.f kj3 t347 t348 a1_0 l1_1).bind fun t383 => (if t383 = true then ((colloquylaw20_sure.f kj3).bind fun t384 => (some t384)) else (none))) else (none))))) else (none))))) else (none))))) else (none))))) else (none)))) else (none)))) else (none)))) = some r := H
     have A19 := Aside0.mk A190
     clear A190
     replace H := Option.bind_eq_some_iff.mp H
     obtain ⟨t353, A200, H⟩ := H
     replace H : ((colloquyref20_Check.f kj3 l0 a1_0 l1_1).bind fun t354 => (if t353 = t354 then ((mon_Mon_Pc.f t347 t348).bind fun t355 => ((colloquyref20_Pc.f kj3 a1_0 l1_1).bind fun t356 => (if t355 = t356 then ((mon_Raise.f kj3 y343 t347 t348 l2_3).bind fun t357 => ((colloquyref20_Raise.f kj3 l0 a1_0 l1_1 l2_3).bind fun t358 => (if t357 = t358 then ((mon_Else.f kj3 y343 t347 t348 a2_0 a2_1 a2_2).bind fun bt359 => ((colloquyref20_Else.f kj3 l0 a1_0 l1_1 a2_0 a2_1 a2_2).bind fun bt363 => ((colloquylaw20_isMon.f kj3 bt359.1 bt359.2 bt363.1 bt363.2).bind fun t367 => (if t367 = true then ((mon_Join.f kj3 t347 t348 a2_0).bind fun bt368 => ((colloquyref20_Join.f kj3 a1_0 l1_1 a2_0).bind fun bt372 => ((colloquylaw20_isMon.f kj3 bt368.1 bt368.2 bt372.1 bt372.2).bind fun t376 => (if t376 = true then ((mon_Take.f t347 t348 a2_2).bind fun t377 => ((colloquylaw20_num.f t377).bind fun t378 => ((colloquyref20_Take.f a1_0 l1_1 a2_2).bind fun t379 => (if t378 = t379 then ((mon_May.f kj3 y343 a2_1 a2_2).bind fun t380 => ((colloquylaw20_num.f t380).bind fun t381 => ((colloquyref20_May.f kj3 l0 a2_1 a2_2).bind fun t382 => (if t381 = t382 then ((colloquylaw20_isMon.f kj3 t347 t348 a1_0 l1_1).bind fun t383 => (if t383 = true then ((colloquylaw20_sure.f kj3).bind fun t384 => (some t384)) else (none))) else (none))))) else (none))))) else (none))))) else (none))))) else (none)))) else (none)))) else (none))) = some r := H
     have A20 := Aside0.mk A200
     clear A200
     replace H := Option.bind_eq_some_iff.mp H
     obtain ⟨t354, A210, H⟩ := H
     replace H : (if t353 = t354 then ((mon_Mon_Pc.f t347 t348).bind fun t355 => ((colloquyref20_Pc.f kj3 a1_0 l1_1).bind fun t356 => (if t355 = t356 then ((mon_Raise.f kj3 y343 t347 t348 l2_3).bind fun t357 => ((colloquyref20_Raise.f kj3 l0 a1_0 l1_1 l2_3).bind fun t358 => (if t357 = t358 then ((mon_Else.f kj3 y343 t347 t348 a2_0 a2_1 a2_2).bind fun bt359 => ((colloquyref20_Else.f kj3 l0 a1_0 l1_1 a2_0 a2_1 a2_2).bind fun bt363 => ((colloquylaw20_isMon.f kj3 bt359.1 bt359.2 bt363.1 bt363.2).bind fun t367 => (if t367 = true then ((mon_Join.f kj3 t347 t348 a2_0).bind fun bt368 => ((colloquyref20_Join.f kj3 a1_0 l1_1 a2_0).bind fun bt372 => ((colloquylaw20_isMon.f kj3 bt368.1 bt368.2 bt372.1 bt372.2).bind fun t376 => (if t376 = true then ((mon_Take.f t347 t348 a2_2).bind fun t377 => ((colloquylaw20_num.f t377).bind fun t378 => ((colloquyref20_Take.f a1_0 l1_1 a2_2).bind fun t379 => (if t378 = t379 then ((mon_May.f kj3 y343 a2_1 a2_2).bind fun t380 => ((colloquylaw20_num.f t380).bind fun t381 => ((colloquyref20_May.f kj3 l0 a2_1 a2_2).bind fun t382 => (if t381 = t382 then ((colloquylaw20_isMon.f kj3 t347 t348 a1_0 l1_1).bind fun t383 => (if t383 = true then ((colloquylaw20_sure.f kj3).bind fun t384 => (some t384)) else (none))) else (none))))) else (none))))) else (none))))) else (none))))) else (none)))) else (none)))) else (none)) = some r := H
     have A21 := Aside0.mk A210
     clear A210
     by_cases c22 : t353 = t354
     ·rw [if_pos c22] at H
      have c22b0 : (t353 == t354) = true := beq_iff_eq.mpr c22
      have c22b1 : (t353 != t354) = false := bne_eq_false_iff_eq.mpr c22
      clear c22
      replace H := Option.bind_eq_some_iff.mp H
      obtain ⟨t355, A230, H⟩ := H
      replace H : ((colloquyref20_Pc.f kj3 a1_0 l1_1).bind fun t356 => (if t355 = t356 then ((mon_Raise.f kj3 y343 t347 t348 l2_3).bind fun t357 => ((colloquyref20_Raise.f kj3 l0 a1_0 l1_1 l2_3).bind fun t358 => (if t357 = t358 then ((mon_Else.f kj3 y343 t347 t348 a2_0 a2_1 a2_2).bind fun bt359 => ((colloquyref20_Else.f kj3 l0 a1_0 l1_1 a2_0 a2_1 a2_2).bind fun bt363 => ((colloquylaw20_isMon.f kj3 bt359.1 bt359.2 bt363.1 bt363.2).bind fun t367 => (if t367 = true then ((mon_Join.f kj3 t347 t348 a2_0).bind fun bt368 => ((colloquyref20_Join.f kj3 a1_0 l1_1 a2_0).bind fun bt372 => ((colloquylaw20_isMon.f kj3 bt368.1 bt368.2 bt372.1 bt372.2).bind fun t376 => (if t376 = true then ((mon_Take.f t347 t348 a2_2).bind fun t377 => ((colloquylaw20_num.f t377).bind fun t378 => ((colloquyref20_Take.f a1_0 l1_1 a2_2).bind fun t379 => (if t378 = t379 then ((mon_May.f kj3 y343 a2_1 a2_2).bind fun t380 => ((colloquylaw20_num.f t380).bind fun t381 => ((colloquyref20_May.f kj3 l0 a2_1 a2_2).bind fun t382 => (if t381 = t382 then ((colloquylaw20_isMon.f kj3 t347 t348 a1_0 l1_1).bind fun t383 => (if t383 = true then ((colloquylaw20_sure.f kj3).bind fun t384 => (some t384)) else (none))) else (none))))) else (none))))) else (none))))) else (none))))) else (none)))) else (none))) = some r := H
      have A23 := Aside0.mk A230
      clear A230
      replace H := Option.bind_eq_some_iff.mp H
      obtain ⟨t356, A240, H⟩ := H
      replace H : (if t355 = t356 then ((mon_Raise.f kj3 y343 t347 t348 l2_3).bind fun t357 => ((colloquyref20_Raise.f kj3 l0 a1_0 l1_1 l2_3).bind fun t358 => (if t357 = t358 then ((mon_Else.f kj3 y343 t347 t348 a2_0 a2_1 a2_2).bind fun bt359 => ((colloquyref20_Else.f kj3 l0 a1_0 l1_1 a2_0 a2_1 a2_2).bind fun bt363 => ((colloquylaw20_isMon.f kj3 bt359.1 bt359.2 bt363.1 bt363.2).bind fun t367 => (if t367 = true then ((mon_Join.f kj3 t347 t348 a2_0).bind fun bt368 => ((colloquyref20_Join.f kj3 a1_0 l1_1 a2_0).bind fun bt372 => ((colloquylaw20_isMon.f kj3 bt368.1 bt368.2 bt372.1 bt372.2).bind fun t376 => (if t376 = true then ((mon_Take.f t347 t348 a2_2).bind fun t377 => ((colloquylaw20_num.f t377).bind fun t378 => ((colloquyref20_Take.f a1_0 l1_1 a2_2).bind fun t379 => (if t378 = t379 then ((mon_May.f kj3 y343 a2_1 a2_2).bind fun t380 => ((colloquylaw20_num.f t380).bind fun t381 => ((colloquyref20_May.f kj3 l0 a2_1 a2_2).bind fun t382 => (if t381 = t382 then ((colloquylaw20_isMon.f kj3 t347 t348 a1_0 l1_1).bind fun t383 => (if t383 = true then ((colloquylaw20_sure.f kj3).bind fun t384 => (some t384)) else (none))) else (none))))) else (none))))) else (none))))) else (none))))) else (none)))) else (none)) = some r := H
      have A24 := Aside0.mk A240
      clear A240
      by_cases c25 : t355 = t356
      ·rw [if_pos c25] at H
       have c25b0 : (t355 == t356) = true := beq_iff_eq.mpr c25
       have c25b1 : (t355 != t356) = false := bne_eq_false_iff_eq.mpr c25
       clear c25
       replace H := Option.bind_eq_some_iff.mp H
       obtain ⟨t357, A260, H⟩ := H
       replace H : ((colloquyref20_Raise.f kj3 l0 a1_0 l1_1 l2_3).bind fun t358 => (if t357 = t358 then ((mon_Else.f kj3 y343 t347 t348 a2_0 a2_1 a2_2).bind fun bt359 => ((colloquyref20_Else.f kj3 l0 a1_0 l1_1 a2_0 a2_1 a2_2).bind fun bt363 => ((colloquylaw20_isMon.f kj3 bt359.1 bt359.2 bt363.1 bt363.2).bind fun t367 => (if t367 = true then ((mon_Join.f kj3 t347 t348 a2_0).bind fun bt368 => ((colloquyref20_Join.f kj3 a1_0 l1_1 a2_0).bind fun bt372 => ((colloquylaw20_isMon.f kj3 bt368.1 bt368.2 bt372.1 bt372.2).bind fun t376 => (if t376 = true then ((mon_Take.f t347 t348 a2_2).bind fun t377 => ((colloquylaw20_num.f t377).bind fun t378 => ((colloquyref20_Take.f a1_0 l1_1 a2_2).bind fun t379 => (if t378 = t379 then ((mon_May.f kj3 y343 a2_1 a2_2).bind fun t380 => ((colloquylaw20_num.f t380).bind fun t381 => ((colloquyref20_May.f kj3 l0 a2_1 a2_2).bind fun t382 => (if t381 = t382 then ((colloquylaw20_isMon.f kj3 t347 t348 a1_0 l1_1).bind fun t383 => (if t383 = true then ((colloquylaw20_sure.f kj3).bind fun t384 => (some t384)) else (none))) else (none))))) else (none))))) else (none))))) else (none))))) else (none))) = some r := H
       have A26 := Aside0.mk A260
       clear A260
       replace H := Option.bind_eq_some_iff.mp H
       obtain ⟨t358, A270, H⟩ := H
       replace H : (if t357 = t358 then ((mon_Else.f kj3 y343 t347 t348 a2_0 a2_1 a2_2).bind fun bt359 => ((colloquyref20_Else.f kj3 l0 a1_0 l1_1 a2_0 a2_1 a2_2).bind fun bt363 => ((colloquylaw20_isMon.f kj3 bt359.1 bt359.2 bt363.1 bt363.2).bind fun t367 => (if t367 = true then ((mon_Join.f kj3 t347 t348 a2_0).bind fun bt368 => ((colloquyref20_Join.f kj3 a1_0 l1_1 a2_0).bind fun bt372 => ((colloquylaw20_isMon.f kj3 bt368.1 bt368.2 bt372.1 bt372.2).bind fun t376 => (if t376 = true then ((mon_Take.f t347 t348 a2_2).bind fun t377 => ((colloquylaw20_num.f t377).bind fun t378 => ((colloquyref20_Take.f a1_0 l1_1 a2_2).bind fun t379 => (if t378 = t379 then ((mon_May.f kj3 y343 a2_1 a2_2).bind fun t380 => ((colloquylaw20_num.f t380).bind fun t381 => ((colloquyref20_May.f kj3 l0 a2_1 a2_2).bind fun t382 => (if t381 = t382 then ((colloquylaw20_isMon.f kj3 t347 t348 a1_0 l1_1).bind fun t383 => (if t383 = true then ((colloquylaw20_sure.f kj3).bind fun t384 => (some t384)) else (none))) else (none))))) else (none))))) else (none))))) else (none))))) else (none)) = some r := H
       have A27 := Aside0.mk A270
       clear A270
       by_cases c28 : t357 = t358
       ·rw [if_pos c28] at H
        have c28b0 : (t357 == t358) = true := beq_iff_eq.mpr c28
        have c28b1 : (t357 != t358) = false := bne_eq_false_iff_eq.mpr c28
        clear c28
        replace H := Option.bind_eq_some_iff.mp H
        obtain ⟨⟨t359, t360⟩, A290, H⟩ := H
        replace H : ((colloquyref20_Else.f kj3 l0 a1_0 l1_1 a2_0 a2_1 a2_2).bind fun bt363 => ((colloquylaw20_isMon.f kj3 t359 t360 bt363.1 bt363.2).bind fun t367 => (if t367 = true then ((mon_Join.f kj3 t347 t348 a2_0).bind fun bt368 => ((colloquyref20_Join.f kj3 a1_0 l1_1 a2_0).bind fun bt372 => ((colloquylaw20_isMon.f kj3 bt368.1 bt368.2 bt372.1 bt372.2).bind fun t376 => (if t376 = true then ((mon_Take.f t347 t348 a2_2).bind fun t377 => ((colloquylaw20_num.f t377).bind fun t378 => ((colloquyref20_Take.f a1_0 l1_1 a2_2).bind fun t379 => (if t378 = t379 then ((mon_May.f kj3 y343 a2_1 a2_2).bind fun t380 => ((colloquylaw20_num.f t380).bind fun t381 => ((colloquyref20_May.f kj3 l0 a2_1 a2_2).bind fun t382 => (if t381 = t382 then ((colloquylaw20_isMon.f kj3 t347 t348 a1_0 l1_1).bind fun t383 => (if t383 = true then ((colloquylaw20_sure.f kj3).bind fun t384 => (some t384)) else (none))) else (none))))) else (none))))) else (none))))) else (none)))) = some r := H
        have A29 := Aside0.mk A290
        clear A290
        replace H := Option.bind_eq_some_iff.mp H
        obtain ⟨⟨t363, t364⟩, A300, H⟩ := H
        replace H : ((colloquylaw20_isMon.f kj3 t359 t360 t363 t364).bind fun t367 => (if t367 = true then ((mon_Join.f kj3 t347 t348 a2_0).bind fun bt368 => ((colloquyref20_Join.f kj3 a1_0 l1_1 a2_0).bind fun bt372 => ((colloquylaw20_isMon.f kj3 bt368.1 bt368.2 bt372.1 bt372.2).bind fun t376 => (if t376 = true then ((mon_Take.f t347 t348 a2_2).bind fun t377 => ((colloquylaw20_num.f t377).bind fun t378 => ((colloquyref20_Take.f a1_0 l1_1 a2_2).bind fun t379 => (if t378 = t379 then ((mon_May.f kj3 y343 a2_1 a2_2).bind fun t380 => ((colloquylaw20_num.f t380).bind fun t381 => ((colloquyref20_May.f kj3 l0 a2_1 a2_2).bind fun t382 => (if t381 = t382 then ((colloquylaw20_isMon.f kj3 t347 t348 a1_0 l1_1).bind fun t383 => (if t383 = true then ((colloquylaw20_sure.f kj3).bind fun t384 => (some t384)) else (none))) else (none))))) else (none))))) else (none))))) else (none))) = some r := H
        have A30 := Aside0.mk A300
        clear A300
        replace H := Option.bind_eq_some_iff.mp H
        obtain ⟨t367, A310, H⟩ := H
        replace H : (if t367 = true then ((mon_Join.f kj3 t347 t348 a2_0).bind fun bt368 => ((colloquyref20_Join.f kj3 a1_0 l1_1 a2_0).bind fun bt372 => ((colloquylaw20_isMon.f kj3 bt368.1 bt368.2 bt372.1 bt372.2).bind fun t376 => (if t376 = true then ((mon_Take.f t347 t348 a2_2).bind fun t377 => ((colloquylaw20_num.f t377).bind fun t378 => ((colloquyref20_Take.f a1_0 l1_1 a2_2).bind fun t379 => (if t378 = t379 then ((mon_May.f kj3 y343 a2_1 a2_2).bind fun t380 => ((colloquylaw20_num.f t380).bind fun t381 => ((colloquyref20_May.f kj3 l0 a2_1 a2_2).bind fun t382 => (if t381 = t382 then ((colloquylaw20_isMon.f kj3 t347 t348 a1_0 l1_1).bind fun t383 => (if t383 = true then ((colloquylaw20_sure.f kj3).bind fun t384 => (some t384)) else (none))) else (none))))) else (none))))) else (none))))) else (none)) = some r := H
        have A31 := Aside0.mk A310
        clear A310
        by_cases c32 : t367 = true
        ·subst c32
         have H1 : ((mon_Join.f kj3 t347 t348 a2_0).bind fun bt368 => ((colloquyref20_Join.f kj3 a1_0 l1_1 a2_0).bind fun bt372 => ((colloquylaw20_isMon.f kj3 bt368.1 bt368.2 bt372.1 bt372.2).bind fun t376 => (if t376 = true then ((mon_Take.f t347 t348 a2_2).bind fun t377 => ((colloquylaw20_num.f t377).bind fun t378 => ((colloquyref20_Take.f a1_0 l1_1 a2_2).bind fun t379 => (if t378 = t379 then ((mon_May.f kj3 y343 a2_1 a2_2).bind fun t380 => ((colloquylaw20_num.f t380).bind fun t381 => ((colloquyref20_May.f kj3 l0 a2_1 a2_2).bind fun t382 => (if t381 = t382 then ((colloquylaw20_isMon.f kj3 t347 t348 a1_0 l1_1).bind fun t383 => (if t383 = true then ((colloquylaw20_sure.f kj3).bind fun t384 => (some t384)) else (none))) else (none))))) else (none))))) else (none))))) = some r := by rw [if_pos rfl] at H; exact H
         clear H
         have H := H1
         clear H1
         replace H := Option.bind_eq_some_iff.mp H
         obtain ⟨⟨t368, t369⟩, A330, H⟩ := H
         replace H : ((colloquyref20_Join.f kj3 a1_0 l1_1 a2_0).bind fun bt372 => ((colloquylaw20_isMon.f kj3 t368 t369 bt372.1 bt372.2).bind fun t376 => (if t376 = true then ((mon_Take.f t347 t348 a2_2).bind fun t377 => ((colloquylaw20_num.f t377).bind fun t378 => ((colloquyref20_Take.f a1_0 l1_1 a2_2).bind fun t379 => (if t378 = t379 then ((mon_May.f kj3 y343 a2_1 a2_2).bind fun t380 => ((colloquylaw20_num.f t380).bind fun t381 => ((colloquyref20_May.f kj3 l0 a2_1 a2_2).bind fun t382 => (if t381 = t382 then ((colloquylaw20_isMon.f kj3 t347 t348 a1_0 l1_1).bind fun t383 => (if t383 = true then ((colloquylaw20_sure.f kj3).bind fun t384 => (some t384)) else (none))) else (none))))) else (none))))) else (none)))) = some r := H
         have A33 := Aside0.mk A330
         clear A330
         replace H := Option.bind_eq_some_iff.mp H
         obtain ⟨⟨t372, t373⟩, A340, H⟩ := H
         replace H : ((colloquylaw20_isMon.f kj3 t368 t369 t372 t373).bind fun t376 => (if t376 = true then ((mon_Take.f t347 t348 a2_2).bind fun t377 => ((colloquylaw20_num.f t377).bind fun t378 => ((colloquyref20_Take.f a1_0 l1_1 a2_2).bind fun t379 => (if t378 = t379 then ((mon_May.f kj3 y343 a2_1 a2_2).bind fun t380 => ((colloquylaw20_num.f t380).bind fun t381 => ((colloquyref20_May.f kj3 l0 a2_1 a2_2).bind fun t382 => (if t381 = t382 then ((colloquylaw20_isMon.f kj3 t347 t348 a1_0 l1_1).bind fun t383 => (if t383 = true then ((colloquylaw20_sure.f kj3).bind fun t384 => (some t384)) else (none))) else (none))))) else (none))))) else (none))) = some r := H
         have A34 := Aside0.mk A340
         clear A340
         replace H := Option.bind_eq_some_iff.mp H
         obtain ⟨t376, A350, H⟩ := H
         replace H : (if t376 = true then ((mon_Take.f t347 t348 a2_2).bind fun t377 => ((colloquylaw20_num.f t377).bind fun t378 => ((colloquyref20_Take.f a1_0 l1_1 a2_2).bind fun t379 => (if t378 = t379 then ((mon_May.f kj3 y343 a2_1 a2_2).bind fun t380 => ((colloquylaw20_num.f t380).bind fun t381 => ((colloquyref20_May.f kj3 l0 a2_1 a2_2).bind fun t382 => (if t381 = t382 then ((colloquylaw20_isMon.f kj3 t347 t348 a1_0 l1_1).bind fun t383 => (if t383 = true then ((colloquylaw20_sure.f kj3).bind fun t384 => (some t384)) else (none))) else (none))))) else (none))))) else (none)) = some r := H
         have A35 := Aside0.mk A350
         clear A350
         by_cases c36 : t376 = true
         ·subst c36
          have H1 : ((mon_Take.f t347 t348 a2_2).bind fun t377 => ((colloquylaw20_num.f t377).bind fun t378 => ((colloquyref20_Take.f a1_0 l1_1 a2_2).bind fun t379 => (if t378 = t379 then ((mon_May.f kj3 y343 a2_1 a2_2).bind fun t380 => ((colloquylaw20_num.f t380).bind fun t381 => ((colloquyref20_May.f kj3 l0 a2_1 a2_2).bind fun t382 => (if t381 = t382 then ((colloquylaw20_isMon.f kj3 t347 t348 a1_0 l1_1).bind fun t383 => (if t383 = true then ((colloquylaw20_sure.f kj3).bind fun t384 => (some t384)) else (none))) else (none))))) else (none))))) = some r := by rw [if_pos rfl] at H; exact H
          clear H
          have H := H1
          clear H1
          replace H := Option.bind_eq_some_iff.mp H
          obtain ⟨t377, A370, H⟩ := H
          replace H : ((colloquylaw20_num.f t377).bind fun t378 => ((colloquyref20_Take.f a1_0 l1_1 a2_2).bind fun t379 => (if t378 = t379 then ((mon_May.f kj3 y343 a2_1 a2_2).bind fun t380 => ((colloquylaw20_num.f t380).bind fun t381 => ((colloquyref20_May.f kj3 l0 a2_1 a2_2).bind fun t382 => (if t381 = t382 then ((colloquylaw20_isMon.f kj3 t347 t348 a1_0 l1_1).bind fun t383 => (if t383 = true then ((colloquylaw20_sure.f kj3).bind fun t384 => (some t384)) else (none))) else (none))))) else (none)))) = some r := H
          have A37 := Aside0.mk A370
          clear A370
          replace H := Option.bind_eq_some_iff.mp H
          obtain ⟨t378, A380, H⟩ := H
          replace H : ((colloquyref20_Take.f a1_0 l1_1 a2_2).bind fun t379 => (if t378 = t379 then ((mon_May.f kj3 y343 a2_1 a2_2).bind fun t380 => ((colloquylaw20_num.f t380).bind fun t381 => ((colloquyref20_May.f kj3 l0 a2_1 a2_2).bind fun t382 => (if t381 = t382 then ((colloquylaw20_isMon.f kj3 t347 t348 a1_0 l1_1).bind fun t383 => (if t383 = true then ((colloquylaw20_sure.f kj3).bind fun t384 => (some t384)) else (none))) else (none))))) else (none))) = some r := H
          have A38 := Aside0.mk A380
          clear A380
          replace H := Option.bind_eq_some_iff.mp H
          obtain ⟨t379, A390, H⟩ := H
          replace H : (if t378 = t379 then ((mon_May.f kj3 y343 a2_1 a2_2).bind fun t380 => ((colloquylaw20_num.f t380).bind fun t381 => ((colloquyref20_May.f kj3 l0 a2_1 a2_2).bind fun t382 => (if t381 = t382 then ((colloquylaw20_isMon.f kj3 t347 t348 a1_0 l1_1).bind fun t383 => (if t383 = true then ((colloquylaw20_sure.f kj3).bind fun t384 => (some t384)) else (none))) else (none))))) else (none)) = some r := H
          have A39 := Aside0.mk A390
          clear A390
          by_cases c40 : t378 = t379
          ·rw [if_pos c40] at H
           have c40b0 : (t378 == t379) = true := beq_iff_eq.mpr c40
           have c40b1 : (t378 != t379) = false := bne_eq_false_iff_eq.mpr c40
           clear c40
           replace H := Option.bind_eq_some_iff.mp H
           obtain ⟨t380, A410, H⟩ := H
           replace H : ((colloquylaw20_num.f t380).bind fun t381 => ((colloquyref20_May.f kj3 l0 a2_1 a2_2).bind fun t382 => (if t381 = t382 then ((colloquylaw20_isMon.f kj3 t347 t348 a1_0 l1_1).bind fun t383 => (if t383 = true then ((colloquylaw20_sure.f kj3).bind fun t384 => (some t384)) else (none))) else (none)))) = some r := H
           have A41 := Aside0.mk A410
           clear A410
           replace H := Option.bind_eq_some_iff.mp H
           obtain ⟨t381, A420, H⟩ := H
           replace H : ((colloquyref20_May.f kj3 l0 a2_1 a2_2).bind fun t382 => (if t381 = t382 then ((colloquylaw20_isMon.f kj3 t347 t348 a1_0 l1_1).bind fun t383 => (if t383 = true then ((colloquylaw20_sure.f kj3).bind fun t384 => (some t384)) else (none))) else (none))) = some r := H
           have A42 := Aside0.mk A420
           clear A420
           replace H := Option.bind_eq_some_iff.mp H
           obtain ⟨t382, A430, H⟩ := H
           replace H : (if t381 = t382 then ((colloquylaw20_isMon.f kj3 t347 t348 a1_0 l1_1).bind fun t383 => (if t383 = true then ((colloquylaw20_sure.f kj3).bind fun t384 => (some t384)) else (none))) else (none)) = some r := H
           have A43 := Aside0.mk A430
           clear A430
           by_cases c44 : t381 = t382
           ·rw [if_pos c44] at H
            have c44b0 : (t381 == t382) = true := beq_iff_eq.mpr c44
            have c44b1 : (t381 != t382) = false := bne_eq_false_iff_eq.mpr c44
            clear c44
            replace H := Option.bind_eq_some_iff.mp H
            obtain ⟨t383, A450, H⟩ := H
            replace H : (if t383 = true then ((colloquylaw20_sure.f kj3).bind fun t384 => (some t384)) else (none)) = some r := H
            have A45 := Aside0.mk A450
            clear A450
            by_cases c46 : t383 = true
            ·subst c46
             have H1 : ((colloquylaw20_sure.f kj3).bind fun t384 => (some t384)) = some r := by rw [if_pos rfl] at H; exact H
             clear H
             have H := H1
             clear H1
             replace H := Option.bind_eq_some_iff.mp H
             obtain ⟨t384, A470, H⟩ := H
             replace H : (some t384) = some r := H
             have A47 := Aside0.mk A470
             clear A470
             obtain rfl := Option.some.inj H
             try go_wp2_with (first | ((with_reducible refine gate_dst (N := 25) rfl ?_); (try (refine gate_guard (by rfl) ?_; dsimp only)); refine Kd.R_lit (Kd.int .u8) _ 5 ?hg (N := 25) ?hd (xs := ([] : List Int)) (inner := []) (ok := fun _ => True) (okp := fun _ => True) ?hr ?hp (fun _ hk => hk) trivial (Below.refl _ _) (Nat.le_refl _) (by simp) ?_; (case hd => rfl); (case hg => rfl); (case hr => first | (go_simp; done) | (go_simp; rfl)); (case hp => exact (Reps.none _ _)); intro v341 w48 ho49 hb hg_ hnew_; clear hg_ hnew_; (first | rw [← Ny340.out] at ho49 | (simp only [Int.reduceToNat] at ho49; rw [← Ny340.out] at ho49)); have n0_ := Aside0.mk (Kd.R_lower ho49 (below_size (uB2 HB GE337 GE338))); have n1_ := Aside0.mk (blk_below (g := gb337) (o := .cells #[.int .i64 a1_0, .slice A1_1 l1_1.length c1_1] 25 (0, 0)) (uK BK337) hb); have n2_ := Aside0.mk (blk_below (g := gb338) (o := .cells #[.int .i64 a2_0, .int .i64 a2_1, .int .i64 a2_2, .slice A2_3 l2_3.length c2_3] 28 (0, 0)) (uK BK338) hb); have n3_ := Aside0.mk (below_step (uB2 HB GE337 GE338) hb); clear BK337; clear BK338; clear HB; have HO342 := n0_; have BK337 := n1_; have BK338 := n2_; have HB := n3_; clear n0_ n1_ n2_ n3_; clear hb ho49) | ((with_reducible refine gate_builtin (b := .append) (xs := #[.tmp 25, .tmp 26]) rfl ?_); (try (refine gate_guard (by rfl) ?_; dsimp only)); at_builtin; refine Kd.R_append_rows (Kd.int .u8) (w0 := w) w.heap.size rfl (.tmp 25) (.tmp 26) 22 5 (.int .u8 0) 1 rfl Tryd.underlying22 info5 rfl (by decide) (by omega) v341 y340 l0 _ _ _ (fun _ => True) (fun _ => False) rfl rfl ?aO ?aR (fun _ _ h => h) (fun _ h => h.elim) ?aF ?aB ?aS ?aL ?_; (case aR => exact uS (Kd.C_below HR0.out HB.out)); (case aB => exact (uB2 HB GE337 GE338)); (case aF => exact (fun _ _ => trivial)); (case aO => exact (uR HO342)); (case aS => exact (below_size (uB2 HB GE337 GE338))); (case aL => have := LMc17.out; omega); intro v344 w50 ho hb hg hat; rw [← Ny343.out] at ho; have n0_ := Aside0.mk (blk_grown (g := gb337) (o := .cells #[.int .i64 a1_0, .slice A1_1 l1_1.length c1_1] 25 (0, 0)) (uK BK337) hg (Kd.R_ne HO342.out BK337.out (by decide))); have n1_ := Aside0.mk (blk_grown (g := gb338) (o := .cells #[.int .i64 a2_0, .int .i64 a2_1, .int .i64 a2_2, .slice A2_3 l2_3.length c2_3] 28 (0, 0)) (uK BK338) hg (Kd.R_ne HO342.out BK338.out (by decide))); have n2_ := Aside0.mk (hb); have n3_ := Aside0.mk (ho); clear BK337; clear BK338; clear HB; clear HO342; have BK337 := n0_; have BK338 := n1_; have HB := n2_; have HO345 := n3_; clear n0_ n1_ n2_ n3_; clear ho hb hg hat; obtain ⟨Ao51, co51, eo51⟩ := Kd.R_slice HO345.out; subst eo51) | ((with_reducible refine gate_dst (N := 7) rfl ?_); (try (refine gate_guard (by rfl) ?_; dsimp only)); refine box_event ?hg (N := 7) ?hd (cs := #[.slice none 0 0]) (t := 31) ?hr ?_; (case hd => rfl); (case hg => rfl); (case hr => first | (go_simp; done) | (go_simp; rfl)); intro gb346 hg w52 hbox hb; have n0_ := Aside0.mk (Kd.R_below (uR HO345) hb); have n1_ := Aside0.mk (blk_below (g := gb337) (o := .cells #[.int .i64 a1_0, .slice A1_1 l1_1.length c1_1] 25 (0, 0)) (uK BK337) hb); have n2_ := Aside0.mk (blk_below (g := gb338) (o := .cells #[.int .i64 a2_0, .int .i64 a2_1, .int .i64 a2_2, .slice A2_3 l2_3.length c2_3] 28 (0, 0)) (uK BK338) hb); have n3_ := Aside0.mk (below_step (uB2 HB GE337 GE338) hb); have n4_ := Aside0.mk (hbox); have n5_ := Aside0.mk ((by rw [hg]; exact (below_size (uB2 HB GE337 GE338)) : w.heap.size ≤ gb346)); have n6_ := Aside0.mk ((by rw [hg]; exact (below_size (uB2 HB GE337 GE338)) : w.heap.size ≤ gb346)); have n7_ := Aside0.mk ((by rw [hg]; exact Nat.ne_of_lt (blk_lt (g := gb337) (o := .cells #[.int .i64 a1_0, .slice A1_1 l1_1.length c1_1] 25 (0, 0)) (uK BK337)) : gb337 ≠ gb346)); have n8_ := Aside0.mk ((by rw [hg]; exact Nat.ne_of_gt (blk_lt (g := gb337) (o := .cells #[.int .i64 a1_0, .slice A1_1 l1_1.length c1_1] 25 (0, 0)) (uK BK337)) : gb346 ≠ gb337)); have n9_ := Aside0.mk ((by rw [hg]; exact Nat.ne_of_lt (blk_lt (g := gb338) (o := .cells #[.int .i64 a2_0, .int .i64 a2_1, .int .i64 a2_2, .slice A2_3 l2_3.length c2_3] 28 (0, 0)) (uK BK338)) : gb338 ≠ gb346)); have n10_ := Aside0.mk ((by rw [hg]; exact Nat.ne_of_gt (blk_lt (g := gb338) (o := .cells #[.int .i64 a2_0, .int .i64 a2_1, .int .i64 a2_2, .slice A2_3 l2_3.length c2_3] 28 (0, 0)) (uK BK338)) : gb346 ≠ gb338)); clear HO345; clear BK337; clear BK338; clear HB; have HO345 := n0_; have BK337 := n1_; have BK338 := n2_; have HB := n3_; have BK346 := n4_; have GW346 := n5_; have GE346 := n6_; have NB337_346 := n7_; have NB346_337 := n8_; have NB338_346 := n9_; have NB346_338 := n10_; clear n0_ n1_ n2_ n3_ n4_ n5_ n6_ n7_ n8_ n9_ n10_; clear hb hbox hg; have hnb53 := NB346_337.out; have hnc53 := NB337_346.out; have hnb54 := NB346_338.out; have hnc54 := NB338_346.out; have hcz55_0 : w52.cell? ⟨gb346, 0, none⟩ = some (.slice none 0 0) := (blk_cell BK346.out 0).trans rfl; have hfz55_0 := blk_frozen BK346.out 0; have hnb56 := NB337_338.out; have hnc56 := NB338_337.out; have hcz57_0 : w52.cell? ⟨gb337, 0, none⟩ = some (.int .i64 a1_0) := (blk_cell BK337.out 0).trans rfl; have hcz57_1 : w52.cell? ⟨gb337, 1, none⟩ = some (.slice A1_1 l1_1.length c1_1) := (blk_cell BK337.out 1).trans rfl; have hfz57_0 := blk_frozen BK337.out 0; have hfz57_1 := blk_frozen BK337.out 1) | ((with_reducible refine gate_callee (f := 8) rfl ?_); refine goesL_ (some 30) rfl rfl Tryd.func8 (by kernel_rfl) rfl #[.agg #[.int .i64 a1_0, .slice A1_1 l1_1.length c1_1]] rfl uC ?_; (with_reducible refine (colloquylaw20_giveMon.calls kj3 a1_0 _ _ l1_1 t347 t348 _ ?side1 ?side2 A18.out).mono ?_); (case side1 => exact Kd.C_below HR1_1.out (uB3 HB GE337 GE338 GE346)); (case side2 => exact HC1_1.out); rintro e w58 ⟨v349, rfl, ho0, hb⟩; refine ⟨_, rfl, ?_⟩; have n0_ := Aside0.mk (Kd.R_below (by (with_reducible repeat (first | apply Kd.R_alloc | apply Kd.R_drewN | apply Kd.R_drew)); exact (Kd.R_mono (Kd.R_far (p := ⟨gb346, 0, none⟩) (Kd.R_types HO345.out BK346.out (by decide)) (fun _ hk => hk.2) (.slice Ao51 y343.length co51)) (fun _ h_ => h_.1))) hb); have n1_ := Aside0.mk (Kd.R_lower ho0 (below_size (uB3 HB GE337 GE338 GE346))); have n2_ := Aside0.mk (blk_below (g := gb337) (o := .cells #[.int .i64 a1_0, .slice A1_1 l1_1.length c1_1] 25 (0, 0)) (by (with_reducible repeat (first | refine blk_drewN ?_ _ | refine blk_drew ?_ | refine blk_alloc ?_ _)); refine blk_far ?_ NB337_346.out _; (with_reducible repeat (first | refine blk_drewN ?_ _ | refine blk_drew ?_ | refine blk_alloc ?_ _)); exact BK337.out) hb); have n3_ := Aside0.mk (blk_below (g := gb338) (o := .cells #[.int .i64 a2_0, .int .i64 a2_1, .int .i64 a2_2, .slice A2_3 l2_3.length c2_3] 28 (0, 0)) (by (with_reducible repeat (first | refine blk_drewN ?_ _ | refine blk_drew ?_ | refine blk_alloc ?_ _)); refine blk_far ?_ NB338_346.out _; (with_reducible repeat (first | refine blk_drewN ?_ _ | refine blk_drew ?_ | refine blk_alloc ?_ _)); exact BK338.out) hb); have n4_ := Aside0.mk (blk_below (g := gb346) (o := .cells #[.slice Ao51 y343.length co51] 31 (0, 0)) (by (with_reducible repeat (first | refine blk_drewN ?_ _ | refine blk_drew ?_ | refine blk_alloc ?_ _)); refine blk_put (cs := #[.slice none 0 0]) ?_ 0 _ rfl; (with_reducible repeat (first | refine blk_drewN ?_ _ | refine blk_drew ?_ | refine blk_alloc ?_ _)); exact BK346.out) hb); have n5_ := Aside0.mk (below_step (uB3 HB GE337 GE338 GE346) hb); clear HO345; clear BK337; clear BK338; clear BK346; clear HB; have HO345 := n0_; have HO350 := n1_; have BK337 := n2_; have BK338 := n3_; have BK346 := n4_; have HB := n5_; clear n0_ n1_ n2_ n3_ n4_ n5_; (try clear hb); (try clear hb2); (try clear hk); (try clear hi); (try clear ho0)) | ((with_reducible refine gate_dst (N := 8) rfl ?_); (try (refine gate_guard (by rfl) ?_; dsimp only)); refine box_event ?hg (N := 8) ?hd (cs := #[.int .i64 0, .slice none 0 0]) (t := 34) ?hr ?_; (case hd => rfl); (case hg => rfl); (case hr => first | (go_simp; done) | (go_simp; rfl)); intro gb351 hg w59 hbox hb; have n0_ := Aside0.mk (Kd.R_below (uR HO345) hb); have n1_ := Aside0.mk (Kd.R_below (uR HO350) hb); have n2_ := Aside0.mk (blk_below (g := gb337) (o := .cells #[.int .i64 a1_0, .slice A1_1 l1_1.length c1_1] 25 (0, 0)) (uK BK337) hb); have n3_ := Aside0.mk (blk_below (g := gb338) (o := .cells #[.int .i64 a2_0, .int .i64 a2_1, .int .i64 a2_2, .slice A2_3 l2_3.length c2_3] 28 (0, 0)) (uK BK338) hb); have n4_ := Aside0.mk (blk_below (g := gb346) (o := .cells #[.slice Ao51 y343.length co51] 31 (0, 0)) (uK BK346) hb); have n5_ := Aside0.mk (below_step (uB3 HB GE337 GE338 GE346) hb); have n6_ := Aside0.mk (hbox); have n7_ := Aside0.mk ((by rw [hg]; exact (below_size (uB3 HB GE337 GE338 GE346)) : w.heap.size ≤ gb351)); have n8_ := Aside0.mk ((by rw [hg]; exact (below_size (uB3 HB GE337 GE338 GE346)) : w.heap.size ≤ gb351)); have n9_ := Aside0.mk ((by rw [hg]; exact Nat.ne_of_lt (blk_lt (g := gb337) (o := .cells #[.int .i64 a1_0, .slice A1_1 l1_1.length c1_1] 25 (0, 0)) (uK BK337)) : gb337 ≠ gb351)); have n10_ := Aside0.mk ((by rw [hg]; exact Nat.ne_of_gt (blk_lt (g := gb337) (o := .cells #[.int .i64 a1_0, .slice A1_1 l1_1.length c1_1] 25 (0, 0)) (uK BK337)) : gb351 ≠ gb337)); have n11_ := Aside0.mk ((by rw [hg]; exact Nat.ne_of_lt (blk_lt (g := gb338) (o := .cells #[.int .i64 a2_0, .int .i64 a2_1, .int .i64 a2_2, .slice A2_3 l2_3.length c2_3] 28 (0, 0)) (uK BK338)) : gb338 ≠ gb351)); have n12_ := Aside0.mk ((by rw [hg]; exact Nat.ne_of_gt (blk_lt (g := gb338) (o := .cells #[.int .i64 a2_0, .int .i64 a2_1, .int .i64 a2_2, .slice A2_3 l2_3.length c2_3] 28 (0, 0)) (uK BK338)) : gb351 ≠ gb338)); have n13_ := Aside0.mk ((by rw [hg]; exact Nat.ne_of_lt (blk_lt (g := gb346) (o := .cells #[.slice Ao51 y343.length co51] 31 (0, 0)) (uK BK346)) : gb346 ≠ gb351)); have n14_ := Aside0.mk ((by rw [hg]; exact Nat.ne_of_gt (blk_lt (g := gb346) (o := .cells #[.slice Ao51 y343.length co51] 31 (0, 0)) (uK BK346)) : gb351 ≠ gb346)); clear HO345; clear HO350; clear BK337; clear BK338; clear BK346; clear HB; have HO345 := n0_; have HO350 := n1_; have BK337 := n2_; have BK338 := n3_; have BK346 := n4_; have HB := n5_; have BK351 := n6_; have GW351 := n7_; have GE351 := n8_; have NB337_351 := n9_; have NB351_337 := n10_; have NB338_351 := n11_; have NB351_338 := n12_; have NB346_351 := n13_; have NB351_346 := n14_; clear n0_ n1_ n2_ n3_ n4_ n5_ n6_ n7_ n8_ n9_ n10_ n11_ n12_ n13_ n14_; clear hb hbox hg; have hnb60 := NB351_337.out; have hnc60 := NB337_351.out; have hnb61 := NB351_338.out; have hnc61 := NB338_351.out; have hnb62 := NB351_346.out; have hnc62 := NB346_351.out; have hcz63_0 : w59.cell? ⟨gb351, 0, none⟩ = some (.int .i64 0) := (blk_cell BK351.out 0).trans rfl; have hcz63_1 : w59.cell? ⟨gb351, 1, none⟩ = some (.slice none 0 0) := (blk_cell BK351.out 1).trans rfl; have hfz63_0 := blk_frozen BK351.out 0; have hfz63_1 := blk_frozen BK351.out 1; obtain ⟨Ao64, co64, eo64⟩ := Kd.R_slice HO350.out; subst eo64))
             have n0_ : Aside0 (Kd.R (Kd.int .u8) 5 ((w59.setCell ⟨gb351, 0, none⟩ (.int .i64 t347)).setCell ⟨gb351, 1, none⟩ (.slice Ao64 t348.length co64)) w.heap.size (fun _ => True) (.slice Ao51 y343.length co51) y343) := ⟨by (with_reducible repeat (first | apply Kd.R_alloc | apply Kd.R_drewN | apply Kd.R_drew)); exact Kd.R_mono (Kd.R_far (p := ⟨gb351, 1, none⟩) (Kd.R_far (p := ⟨gb351, 0, none⟩) (Kd.R_types HO345.out BK351.out (by decide)) (fun _ hk => hk.2) (.int .i64 t347)) (fun _ hk => hk.2) (.slice Ao64 t348.length co64)) (fun _ hk => trivial)⟩
             have n1_ : Aside0 (Kd.R k58 58 ((w59.setCell ⟨gb351, 0, none⟩ (.int .i64 t347)).setCell ⟨gb351, 1, none⟩ (.slice Ao64 t348.length co64)) w.heap.size (fun _ => True) (.slice Ao64 t348.length co64) t348) := ⟨by (with_reducible repeat (first | apply Kd.R_alloc | apply Kd.R_drewN | apply Kd.R_drew)); exact Kd.R_mono (Kd.R_far (p := ⟨gb351, 1, none⟩) (Kd.R_far (p := ⟨gb351, 0, none⟩) (Kd.R_types HO350.out BK351.out (by decide)) (fun _ hk => hk.2) (.int .i64 t347)) (fun _ hk => hk.2) (.slice Ao64 t348.length co64)) (fun _ hk => trivial)⟩
             have n2_ : Aside0 (((w59.setCell ⟨gb351, 0, none⟩ (.int .i64 t347)).setCell ⟨gb351, 1, none⟩ (.slice Ao64 t348.length co64)).heap[gb337]? = some (.cells #[.int .i64 a1_0, .slice A1_1 l1_1.length c1_1] 25 (0, 0))) := ⟨by (with_reducible repeat (first | refine blk_drewN ?_ _ | refine blk_drew ?_ | refine blk_alloc ?_ _)); refine blk_far ?_ NB337_351.out _; (with_reducible repeat (first | refine blk_drewN ?_ _ | refine blk_drew ?_ | refine blk_alloc ?_ _)); refine blk_far ?_ NB337_351.out _; (with_reducible repeat (first | refine blk_drewN ?_ _ | refine blk_drew ?_ | refine blk_alloc ?_ _)); exact BK337.out⟩
             have n3_ : Aside0 (((w59.setCell ⟨gb351, 0, none⟩ (.int .i64 t347)).setCell ⟨gb351, 1, none⟩ (.slice Ao64 t348.length co64)).heap[gb338]? = some (.cells #[.int .i64 a2_0, .int .i64 a2_1, .int .i64 a2_2, .slice A2_3 l2_3.length c2_3] 28 (0, 0))) := ⟨by (with_reducible repeat (first | refine blk_drewN ?_ _ | refine blk_drew ?_ | refine blk_alloc ?_ _)); refine blk_far ?_ NB338_351.out _; (with_reducible repeat (first | refine blk_drewN ?_ _ | refine blk_drew ?_ | refine blk_alloc ?_ _)); refine blk_far ?_ NB338_351.out _; (with_reducible repeat (first | refine blk_drewN ?_ _ | refine blk_drew ?_ | refine blk_alloc ?_ _)); exact BK338.out⟩
             have n4_ : Aside0 (((w59.setCell ⟨gb351, 0, none⟩ (.int .i64 t347)).setCell ⟨gb351, 1, none⟩ (.slice Ao64 t348.length co64)).heap[gb346]? = some (.cells #[.slice Ao51 y343.length co51] 31 (0, 0))) := ⟨by (with_reducible repeat (first | refine blk_drewN ?_ _ | refine blk_drew ?_ | refine blk_alloc ?_ _)); refine blk_far ?_ NB346_351.out _; (with_reducible repeat (first | refine blk_drewN ?_ _ | refine blk_drew ?_ | refine blk_alloc ?_ _)); refine blk_far ?_ NB346_351.out _; (with_reducible repeat (first | refine blk_drewN ?_ _ | refine blk_drew ?_ | refine blk_alloc ?_ _)); exact BK346.out⟩
             have n5_ : Aside0 (((w59.setCell ⟨gb351, 0, none⟩ (.int .i64 t347)).setCell ⟨gb351, 1, none⟩ (.slice Ao64 t348.length co64)).heap[gb351]? = some (.cells #[.int .i64 t347, .slice Ao64 t348.length co64] 34 (0, 0))) := ⟨by (with_reducible repeat (first | refine blk_drewN ?_ _ | refine blk_drew ?_ | refine blk_alloc ?_ _)); refine blk_put (cs := #[.int .i64 t347, .slice none 0 0]) ?_ 1 _ rfl; (with_reducible repeat (first | refine blk_drewN ?_ _ | refine blk_drew ?_ | refine blk_alloc ?_ _)); refine blk_put (cs := #[.int .i64 0, .slice none 0 0]) ?_ 0 _ rfl; (with_reducible repeat (first | refine blk_drewN ?_ _ | refine blk_drew ?_ | refine blk_alloc ?_ _)); exact BK351.out⟩
             have n6_ : Aside0 (Below w.heap.size w ((w59.setCell ⟨gb351, 0, none⟩ (.int .i64 t347)).setCell ⟨gb351, 1, none⟩ (.slice Ao64 t348.length co64))) := ⟨uB4 HB GE337 GE338 GE346 GE351⟩
             (try clear HO345)
             (try clear HO350)
             (try clear BK337)
             (try clear BK338)
             (try clear BK346)
             (try clear BK351)
             (try clear HB)
             generalize ((w59.setCell ⟨gb351, 0, none⟩ (.int .i64 t347)).setCell ⟨gb351, 1, none⟩ (.slice Ao64 t348.length co64)) = w65 at n0_ n1_ n2_ n3_ n4_ n5_ n6_ ⊢
             have HO345 := n0_
             have HO350 := n1_
             have BK337 := n2_
             have BK338 := n3_
             have BK346 := n4_
             have BK351 := n5_
             have HB := n6_
             clear n0_ n1_ n2_ n3_ n4_ n5_ n6_
             have n0_ := Aside0.mk (Kd.R_drew HO345.out)
             have n1_ := Aside0.mk (Kd.R_drew HO350.out)
             have n2_ := Aside0.mk (blk_drew BK337.out)
             have n3_ := Aside0.mk (blk_drew BK338.out)
             have n4_ := Aside0.mk (blk_drew BK346.out)
             have n5_ := Aside0.mk (blk_drew BK351.out)
             have n6_ := Aside0.mk (below_drew1 HB.out)
             clear HO345
             clear HO350
             clear BK337
             clear BK338
             clear BK346
             clear BK351
             clear HB
             have HO345 := n0_
             have HO350 := n1_
             have BK337 := n2_
             have BK338 := n3_
             have BK346 := n4_
             have BK351 := n5_
             have HB := n6_
             clear n0_ n1_ n2_ n3_ n4_ n5_ n6_
             refine start_ (n := 28) (S := fun w' => w'.cell? ⟨gb346, 0, none⟩ = some (.slice Ao51 y343.length co51) ∧ w'.cell? ⟨gb351, 0, none⟩ = some (.int .i64 t347) ∧ w'.cell? ⟨gb351, 1, none⟩ = some (.slice Ao64 t348.length co64) ∧ w'.cell? ⟨gb337, 0, none⟩ = some (.int .i64 a1_0) ∧ w'.cell? ⟨gb337, 1, none⟩ = some (.slice A1_1 l1_1.length c1_1) ∧ w'.cell? ⟨gb338, 0, none⟩ = some (.int .i64 a2_0) ∧ w'.cell? ⟨gb338, 1, none⟩ = some (.int .i64 a2_1) ∧ w'.cell? ⟨gb338, 2, none⟩ = some (.int .i64 a2_2) ∧ w'.cell? ⟨gb338, 3, none⟩ = some (.slice A2_3 l2_3.length c2_3)) (ds := []) #[false, false, false, false, false, false, false, false, false, false, false, false, false, false, false, false, false, false, false, false, false, false, false, false, false, false, false, false] (by kernel_rfl) rfl rfl ⟨(blk_cell BK346.out 0).trans rfl, (blk_cell BK351.out 0).trans rfl, (blk_cell BK351.out 1).trans rfl, (blk_cell BK337.out 0).trans rfl, (blk_cell BK337.out 1).trans rfl, (blk_cell BK338.out 0).trans rfl, (blk_cell BK338.out 1).trans rfl, (blk_cell BK338.out 2).trans rfl, (blk_cell BK338.out 3).trans rfl⟩ (fun hHeld => ?_); refine with_tabW colloquylaw20_MonTells.tab5 colloquylaw20_MonTells.bits5 (fun HT_ HW_ => ?_)
             generalize w65.drew = w66 at HO345 HO350 BK337 BK338 BK346 BK351 HB hHeld ⊢
             refine pure_ (i := 4) (N := some 35) (v := ?_) (a' := ?_) #[false, false, false, false, true, false, false, false, false, false, false, false, false, false, false, false, false, false, false, false, false, false, false, false, false, false, false, false] rfl rfl (any_of HT_.out (by kernel_rfl)) (fun _ _ _ h => h) (Or.inl ⟨by rfl, ?_⟩) ?_ ?_
             rotate_left
             ·intro w'
              go_simp
              with_reducible rfl
             rotate_left
             ·simp only [Act.put, List.setIfInBounds_toArray, List.set_cons_zero, List.set_cons_succ, i64_w, i32_w]
              rfl
             refine take_ (i := 0) (N := some 31) (v := ?_) (a' := ?_) #[true, false, false, false, true, false, false, false, false, false, false, false, false, false, false, false, false, false, false, false, false, false, false, false, false, false, false, false] rfl rfl (take_ofW HT_.out HW_.out (by kernel_rfl)) (fun _ _ _ h => h) (Or.inl ⟨by rfl, ?_⟩) hHeld ?_ ?_
             rotate_left
             ·rintro w' ⟨s0, s1, s2, s3, s4, s5, s6, s7, s8⟩
              go_simp
              with_reducible rfl
             rotate_left
             ·simp only [Act.put, List.setIfInBounds_toArray, List.set_cons_zero, List.set_cons_succ, i64_w, i32_w]
              rfl
             refine take_ (i := 1) (N := some 32) (v := ?_) (a' := ?_) #[true, true, false, false, true, false, false, false, false, false, false, false, false, false, false, false, false, false, false, false, false, false, false, false, false, false, false, false] rfl rfl (take_ofW HT_.out HW_.out (by kernel_rfl)) (fun _ _ _ h => h) (Or.inl ⟨by rfl, ?_⟩) hHeld ?_ ?_
             rotate_left
             ·rintro w' ⟨s0, s1, s2, s3, s4, s5, s6, s7, s8⟩
              go_simp
              with_reducible rfl
             rotate_left
             ·simp only [Act.put, List.setIfInBounds_toArray, List.set_cons_zero, List.set_cons_succ, i64_w, i32_w]
              rfl
             refine take_ (i := 5) (N := some 36) (v := ?_) (a' := ?_) #[true, true, false, false, true, true, false, false, false, false, false, false, false, false, false, false, false, false, false, false, false, false, false, false, false, false, false, false] rfl rfl (take_ofW HT_.out HW_.out (by kernel_rfl)) (fun _ _ _ h => h) (Or.inl ⟨by rfl, ?_⟩) hHeld ?_ ?_
             rotate_left
             ·rintro w' ⟨s0, s1, s2, s3, s4, s5, s6, s7, s8⟩
              go_simp
              with_reducible rfl
             rotate_left
             ·simp only [Act.put, List.setIfInBounds_toArray, List.set_cons_zero, List.set_cons_succ, i64_w, i32_w]
              rfl
             refine one_ (i := 2) (N := some 33) #[true, true, true, false, true, true, false, false, false, false, false, false, false, false, false, false, false, false, false, false, false, false, false, false, false, false, false, false] rfl rfl (one_of HT_.out (by kernel_rfl)) (by decide) (fun K hK => ?_)
             refine goes_ Tryd.func10 (by kernel_rfl) rfl #[.agg #[.slice Ao51 y343.length co51], .agg #[.int .i64 t347, .slice Ao64 t348.length co64]] (by rfl) rfl rfl uC ?_
             with_reducible refine (mon_Check.calls kj3 _ _ y343 t347 _ _ t348 t352 _ ?side1 ?side2 ?side3 ?side4 A19.out).mono ?_
             (case side1 => exact uS (Kd.R_reads' HO345.out).2.2)
             (case side2 => exact (Kd.R_reads' HO345.out).2.1)
             (case side3 => exact uS (Kd.R_reads' HO350.out).2.2)
             (case side4 => exact (Kd.R_reads' HO350.out).2.1)
             rintro e w67 ⟨rfl, hb⟩
             refine ⟨_, rfl, ?_⟩
             have n0_ := Aside0.mk (Kd.R_below (uR HO345) hb)
             have n1_ := Aside0.mk (Kd.R_below (uR HO350) hb)
             have n2_ := Aside0.mk (blk_below (g := gb337) (o := .cells #[.int .i64 a1_0, .slice A1_1 l1_1.length c1_1] 25 (0, 0)) (uK BK337) hb)
             have n3_ := Aside0.mk (blk_below (g := gb338) (o := .cells #[.int .i64 a2_0, .int .i64 a2_1, .int .i64 a2_2, .slice A2_3 l2_3.length c2_3] 28 (0, 0)) (uK BK338) hb)
             have n4_ := Aside0.mk (blk_below (g := gb346) (o := .cells #[.slice Ao51 y343.length co51] 31 (0, 0)) (uK BK346) hb)
             have n5_ := Aside0.mk (blk_below (g := gb351) (o := .cells #[.int .i64 t347, .slice Ao64 t348.length co64] 34 (0, 0)) (uK BK351) hb)
             have n6_ := Aside0.mk (below_step (uB4 HB GE337 GE338 GE346 GE351) hb)
             clear HO345
             clear HO350
             clear BK337
             clear BK338
             clear BK346
             clear BK351
             clear HB
             have HO345 := n0_
             have HO350 := n1_
             have BK337 := n2_
             have BK338 := n3_
             have BK346 := n4_
             have BK351 := n5_
             have HB := n6_
             clear n0_ n1_ n2_ n3_ n4_ n5_ n6_
             (try clear hb)
             (try clear hb2)
             (try clear hk)
             (try clear hi)
             (try simp only [errW_none, errW_some])
             have CA20 := fun W hg_ => colloquylaw20_num.calls t352 t353 W hg_ A20.out
             refine hK.out _ _ ⟨(blk_cell BK346.out 0).trans rfl, (blk_cell BK351.out 0).trans rfl, (blk_cell BK351.out 1).trans rfl, (blk_cell BK337.out 0).trans rfl, (blk_cell BK337.out 1).trans rfl, (blk_cell BK338.out 0).trans rfl, (blk_cell BK338.out 1).trans rfl, (blk_cell BK338.out 2).trans rfl, (blk_cell BK338.out 3).trans rfl⟩ (fun hHeld => ?_)
             clear hK K
             refine norm_ (a' := ?_) ?_ ?_
             rotate_left
             ·show Act.put _ (some 33) _ = _
              exact uP
             refine one_ (i := 3) (N := some 34) #[true, true, true, true, true, true, false, false, false, false, false, false, false, false, false, false, false, false, false, false, false, false, false, false, false, false, false, false] rfl rfl (one_of HT_.out (by kernel_rfl)) (by decide) (fun K hK => ?_)
             refine goes_ Tryd.func9 (by kernel_rfl) rfl #[errW t352] (by rfl) rfl rfl uC ?_
             with_reducible refine (CA20 _ ?side1).mono ?_
             (case side1 => exact HG.out.below (uB4 HB GE337 GE338 GE346 GE351))
             rintro e w68 ⟨rfl, hb⟩
             refine ⟨_, rfl, ?_⟩
             have n0_ := Aside0.mk (Kd.R_below (uR HO345) hb)
             have n1_ := Aside0.mk (Kd.R_below (uR HO350) hb)
             have n2_ := Aside0.mk (blk_below (g := gb337) (o := .cells #[.int .i64 a1_0, .slice A1_1 l1_1.length c1_1] 25 (0, 0)) (uK BK337) hb)
             have n3_ := Aside0.mk (blk_below (g := gb338) (o := .cells #[.int .i64 a2_0, .int .i64 a2_1, .int .i64 a2_2, .slice A2_3 l2_3.length c2_3] 28 (0, 0)) (uK BK338) hb)
             have n4_ := Aside0.mk (blk_below (g := gb346) (o := .cells #[.slice Ao51 y343.length co51] 31 (0, 0)) (uK BK346) hb)
             have n5_ := Aside0.mk (blk_below (g := gb351) (o := .cells #[.int .i64 t347, .slice Ao64 t348.length co64] 34 (0, 0)) (uK BK351) hb)
             have n6_ := Aside0.mk (below_step (uB4 HB GE337 GE338 GE346 GE351) hb)
             clear HO345
             clear HO350
             clear BK337
             clear BK338
             clear BK346
             clear BK351
             clear HB
             have HO345 := n0_
             have HO350 := n1_
             have BK337 := n2_
             have BK338 := n3_
             have BK346 := n4_
             have BK351 := n5_
             have HB := n6_
             clear n0_ n1_ n2_ n3_ n4_ n5_ n6_
             (try clear hb)
             (try clear hb2)
             (try clear hk)
             (try clear hi)
             refine hK.out _ _ ⟨(blk_cell BK346.out 0).trans rfl, (blk_cell BK351.out 0).trans rfl, (blk_cell BK351.out 1).trans rfl, (blk_cell BK337.out 0).trans rfl, (blk_cell BK337.out 1).trans rfl, (blk_cell BK338.out 0).trans rfl, (blk_cell BK338.out 1).trans rfl, (blk_cell BK338.out 2).trans rfl, (blk_cell BK338.out 3).trans rfl⟩ (fun hHeld => ?_)
             clear hK K
             refine norm_ (a' := ?_) ?_ ?_
             rotate_left
             ·show Act.put _ (some 34) _ = _
              exact uP
             refine one_ (i := 6) (N := some 37) #[true, true, true, true, true, true, true, false, false, false, false, false, false, false, false, false, false, false, false, false, false, false, false, false, false, false, false, false] rfl rfl (one_of HT_.out (by kernel_rfl)) (by decide) (fun K hK => ?_)
             refine goes_ Tryd.func11 (by kernel_rfl) rfl #[.slice A0 l0.length c0, .agg #[.int .i64 a1_0, .slice A1_1 l1_1.length c1_1]] (by rfl) rfl rfl uC ?_
             with_reducible refine (colloquyref20_Check.calls kj3 _ _ l0 a1_0 _ _ l1_1 t354 _ ?side1 ?side2 ?side3 ?side4 A21.out).mono ?_
             (case side1 => exact uS (Kd.C_below HR0.out HB.out))
             (case side2 => exact HC0.out)
             (case side3 => exact uS (Kd.C_below HR1_1.out HB.out))
             (case side4 => exact HC1_1.out)
             rintro e w69 ⟨rfl, hb⟩
             refine ⟨_, rfl, ?_⟩
             have n0_ := Aside0.mk (Kd.R_below (uR HO345) hb)
             have n1_ := Aside0.mk (Kd.R_below (uR HO350) hb)
             have n2_ := Aside0.mk (blk_below (g := gb337) (o := .cells #[.int .i64 a1_0, .slice A1_1 l1_1.length c1_1] 25 (0, 0)) (uK BK337) hb)
             have n3_ := Aside0.mk (blk_below (g := gb338) (o := .cells #[.int .i64 a2_0, .int .i64 a2_1, .int .i64 a2_2, .slice A2_3 l2_3.length c2_3] 28 (0, 0)) (uK BK338) hb)
             have n4_ := Aside0.mk (blk_below (g := gb346) (o := .cells #[.slice Ao51 y343.length co51] 31 (0, 0)) (uK BK346) hb)
             have n5_ := Aside0.mk (blk_below (g := gb351) (o := .cells #[.int .i64 t347, .slice Ao64 t348.length co64] 34 (0, 0)) (uK BK351) hb)
             have n6_ := Aside0.mk (below_step (uB4 HB GE337 GE338 GE346 GE351) hb)
             clear HO345
             clear HO350
             clear BK337
             clear BK338
             clear BK346
             clear BK351
             clear HB
             have HO345 := n0_
             have HO350 := n1_
             have BK337 := n2_
             have BK338 := n3_
             have BK346 := n4_
             have BK351 := n5_
             have HB := n6_
             clear n0_ n1_ n2_ n3_ n4_ n5_ n6_
             (try clear hb)
             (try clear hb2)
             (try clear hk)
             (try clear hi)
             refine hK.out _ _ ⟨(blk_cell BK346.out 0).trans rfl, (blk_cell BK351.out 0).trans rfl, (blk_cell BK351.out 1).trans rfl, (blk_cell BK337.out 0).trans rfl, (blk_cell BK337.out 1).trans rfl, (blk_cell BK338.out 0).trans rfl, (blk_cell BK338.out 1).trans rfl, (blk_cell BK338.out 2).trans rfl, (blk_cell BK338.out 3).trans rfl⟩ (fun hHeld => ?_)
             clear hK K
             refine norm_ (a' := ?_) ?_ ?_
             rotate_left
             ·show Act.put _ (some 37) _ = _
              exact uP
             refine pure_ (i := 7) (N := some 38) (v := ?_) (a' := ?_) #[true, true, true, true, true, true, true, true, false, false, false, false, false, false, false, false, false, false, false, false, false, false, false, false, false, false, false, false] rfl rfl (any_of HT_.out (by kernel_rfl)) (fun _ _ _ h => h) (Or.inl ⟨by rfl, ?_⟩) ?_ ?_
             rotate_left
             ·intro w'
              go_simp
              with_reducible rfl
             rotate_left
             ·simp only [Act.put, List.setIfInBounds_toArray, List.set_cons_zero, List.set_cons_succ, i64_w, i32_w]
              rfl
             refine pure_ (i := 8) (N := some 39) (v := ?_) (a' := ?_) #[true, true, true, true, true, true, true, true, true, false, false, false, false, false, false, false, false, false, false, false, false, false, false, false, false, false, false, false] rfl rfl (any_of HT_.out (by kernel_rfl)) (fun _ _ _ h => h) (Or.inl ⟨by rfl, ?_⟩) ?_ ?_
             rotate_left
             ·intro w'
              go_simp
              with_reducible rfl
             rotate_left
             ·simp only [Act.put, List.setIfInBounds_toArray, List.set_cons_zero, List.set_cons_succ, i64_w, i32_w]
              rfl
             refine take_ (i := 9) (N := some 40) (v := ?_) (a' := ?_) #[true, true, true, true, true, true, true, true, true, true, false, false, false, false, false, false, false, false, false, false, false, false, false, false, false, false, false, false] rfl rfl (take_ofW HT_.out HW_.out (by kernel_rfl)) (fun _ _ _ h => h) (Or.inl ⟨by rfl, ?_⟩) hHeld ?_ ?_
             rotate_left
             ·rintro w' ⟨s0, s1, s2, s3, s4, s5, s6, s7, s8⟩
              go_simp
              with_reducible rfl
             rotate_left
             ·simp only [Act.put, List.setIfInBounds_toArray, List.set_cons_zero, List.set_cons_succ, i64_w, i32_w]
              rfl
             refine take_ (i := 11) (N := some 42) (v := ?_) (a' := ?_) #[true, true, true, true, true, true, true, true, true, true, false, true, false, false, false, false, false, false, false, false, false, false, false, false, false, false, false, false] rfl rfl (take_ofW HT_.out HW_.out (by kernel_rfl)) (fun _ _ _ h => h) (Or.inl ⟨by rfl, ?_⟩) hHeld ?_ ?_
             rotate_left
             ·rintro w' ⟨s0, s1, s2, s3, s4, s5, s6, s7, s8⟩
              go_simp
              with_reducible rfl
             rotate_left
             ·simp only [Act.put, List.setIfInBounds_toArray, List.set_cons_zero, List.set_cons_succ, i64_w, i32_w]
              rfl
             refine one_ (i := 10) (N := some 41) #[true, true, true, true, true, true, true, true, true, true, true, true, false, false, false, false, false, false, false, false, false, false, false, false, false, false, false, false] rfl rfl (one_of HT_.out (by kernel_rfl)) (by decide) (fun K hK => ?_)
             refine goes_ Tryd.func12 (by kernel_rfl) rfl #[.agg #[.int .i64 t347, .slice Ao64 t348.length co64]] (by rfl) rfl rfl uC ?_
             with_reducible refine (mon_Mon_Pc.calls t347 _ _ t348 t355 _ ?side1 ?side2 A23.out).mono ?_
             (case side1 => exact uS (Kd.R_reads' HO350.out).2.2)
             (case side2 => exact (Kd.R_reads' HO350.out).2.1)
             rintro e w70 ⟨rfl, hb⟩
             refine ⟨_, rfl, ?_⟩
             have n0_ := Aside0.mk (Kd.R_below (uR HO345) hb)
             have n1_ := Aside0.mk (Kd.R_below (uR HO350) hb)
             have n2_ := Aside0.mk (blk_below (g := gb337) (o := .cells #[.int .i64 a1_0, .slice A1_1 l1_1.length c1_1] 25 (0, 0)) (uK BK337) hb)
             have n3_ := Aside0.mk (blk_below (g := gb338) (o := .cells #[.int .i64 a2_0, .int .i64 a2_1, .int .i64 a2_2, .slice A2_3 l2_3.length c2_3] 28 (0, 0)) (uK BK338) hb)
             have n4_ := Aside0.mk (blk_below (g := gb346) (o := .cells #[.slice Ao51 y343.length co51] 31 (0, 0)) (uK BK346) hb)
             have n5_ := Aside0.mk (blk_below (g := gb351) (o := .cells #[.int .i64 t347, .slice Ao64 t348.length co64] 34 (0, 0)) (uK BK351) hb)
             have n6_ := Aside0.mk (below_step (uB4 HB GE337 GE338 GE346 GE351) hb)
             clear HO345
             clear HO350
             clear BK337
             clear BK338
             clear BK346
             clear BK351
             clear HB
             have HO345 := n0_
             have HO350 := n1_
             have BK337 := n2_
             have BK338 := n3_
             have BK346 := n4_
             have BK351 := n5_
             have HB := n6_
             clear n0_ n1_ n2_ n3_ n4_ n5_ n6_
             (try clear hb)
             (try clear hb2)
             (try clear hk)
             (try clear hi)
             refine hK.out _ _ ⟨(blk_cell BK346.out 0).trans rfl, (blk_cell BK351.out 0).trans rfl, (blk_cell BK351.out 1).trans rfl, (blk_cell BK337.out 0).trans rfl, (blk_cell BK337.out 1).trans rfl, (blk_cell BK338.out 0).trans rfl, (blk_cell BK338.out 1).trans rfl, (blk_cell BK338.out 2).trans rfl, (blk_cell BK338.out 3).trans rfl⟩ (fun hHeld => ?_)
             clear hK K
             refine norm_ (a' := ?_) ?_ ?_
             rotate_left
             ·show Act.put _ (some 41) _ = _
              exact uP
             refine one_ (i := 12) (N := some 43) #[true, true, true, true, true, true, true, true, true, true, true, true, true, false, false, false, false, false, false, false, false, false, false, false, false, false, false, false] rfl rfl (one_of HT_.out (by kernel_rfl)) (by decide) (fun K hK => ?_)
             refine goes_ Tryd.func13 (by kernel_rfl) rfl #[.agg #[.int .i64 a1_0, .slice A1_1 l1_1.length c1_1]] (by rfl) rfl rfl uC ?_
             with_reducible refine (colloquyref20_Pc.calls kj3 a1_0 _ _ l1_1 t356 _ ?side1 ?side2 A24.out).mono ?_
             (case side1 => exact uS (Kd.C_below HR1_1.out HB.out))
             (case side2 => exact HC1_1.out)
             rintro e w71 ⟨rfl, hb⟩
             refine ⟨_, rfl, ?_⟩
             have n0_ := Aside0.mk (Kd.R_below (uR HO345) hb)
             have n1_ := Aside0.mk (Kd.R_below (uR HO350) hb)
             have n2_ := Aside0.mk (blk_below (g := gb337) (o := .cells #[.int .i64 a1_0, .slice A1_1 l1_1.length c1_1] 25 (0, 0)) (uK BK337) hb)
             have n3_ := Aside0.mk (blk_below (g := gb338) (o := .cells #[.int .i64 a2_0, .int .i64 a2_1, .int .i64 a2_2, .slice A2_3 l2_3.length c2_3] 28 (0, 0)) (uK BK338) hb)
             have n4_ := Aside0.mk (blk_below (g := gb346) (o := .cells #[.slice Ao51 y343.length co51] 31 (0, 0)) (uK BK346) hb)
             have n5_ := Aside0.mk (blk_below (g := gb351) (o := .cells #[.int .i64 t347, .slice Ao64 t348.length co64] 34 (0, 0)) (uK BK351) hb)
             have n6_ := Aside0.mk (below_step (uB4 HB GE337 GE338 GE346 GE351) hb)
             clear HO345
             clear HO350
             clear BK337
             clear BK338
             clear BK346
             clear BK351
             clear HB
             have HO345 := n0_
             have HO350 := n1_
             have BK337 := n2_
             have BK338 := n3_
             have BK346 := n4_
             have BK351 := n5_
             have HB := n6_
             clear n0_ n1_ n2_ n3_ n4_ n5_ n6_
             (try clear hb)
             (try clear hb2)
             (try clear hk)
             (try clear hi)
             refine hK.out _ _ ⟨(blk_cell BK346.out 0).trans rfl, (blk_cell BK351.out 0).trans rfl, (blk_cell BK351.out 1).trans rfl, (blk_cell BK337.out 0).trans rfl, (blk_cell BK337.out 1).trans rfl, (blk_cell BK338.out 0).trans rfl, (blk_cell BK338.out 1).trans rfl, (blk_cell BK338.out 2).trans rfl, (blk_cell BK338.out 3).trans rfl⟩ (fun hHeld => ?_)
             clear hK K
             refine norm_ (a' := ?_) ?_ ?_
             rotate_left
             ·show Act.put _ (some 43) _ = _
              exact uP
             refine pure_ (i := 13) (N := some 44) (v := ?_) (a' := ?_) #[true, true, true, true, true, true, true, true, true, true, true, true, true, true, false, false, false, false, false, false, false, false, false, false, false, false, false, false] rfl rfl (any_of HT_.out (by kernel_rfl)) (fun _ _ _ h => h) (Or.inl ⟨by rfl, ?_⟩) ?_ ?_
             rotate_left
             ·intro w'
              go_simp
              with_reducible rfl
             rotate_left
             ·simp only [Act.put, List.setIfInBounds_toArray, List.set_cons_zero, List.set_cons_succ, i64_w, i32_w]
              rfl
             refine pure_ (i := 14) (N := some 45) (v := ?_) (a' := ?_) #[true, true, true, true, true, true, true, true, true, true, true, true, true, true, true, false, false, false, false, false, false, false, false, false, false, false, false, false] rfl rfl (any_of HT_.out (by kernel_rfl)) (fun _ _ _ h => h) (Or.inl ⟨by rfl, ?_⟩) ?_ ?_
             rotate_left
             ·intro w'
              go_simp
              with_reducible rfl
             rotate_left
             ·simp only [Act.put, List.setIfInBounds_toArray, List.set_cons_zero, List.set_cons_succ, i64_w, i32_w]
              rfl
             refine pure_ (i := 15) (N := some 46) (v := ?_) (a' := ?_) #[true, true, true, true, true, true, true, true, true, true, true, true, true, true, true, true, false, false, false, false, false, false, false, false, false, false, false, false] rfl rfl (any_of HT_.out (by kernel_rfl)) (fun _ _ _ h => h) (Or.inl ⟨by rfl, ?_⟩) ?_ ?_
             rotate_left
             ·intro w'
              go_simp
              with_reducible rfl
             rotate_left
             ·simp only [Act.put, List.setIfInBounds_toArray, List.set_cons_zero, List.set_cons_succ, i64_w, i32_w]
              rfl
             refine pure_ (i := 18) (N := some 49) (v := ?_) (a' := ?_) #[true, true, true, true, true, true, true, true, true, true, true, true, true, true, true, true, false, false, true, false, false, false, false, false, false, false, false, false] rfl rfl (any_of HT_.out (by kernel_rfl)) (fun _ _ _ h => h) (Or.inl ⟨by rfl, ?_⟩) ?_ ?_
             rotate_left
             ·intro w'
              go_simp
              with_reducible rfl
             rotate_left
             ·simp only [Act.put, List.setIfInBounds_toArray, List.set_cons_zero, List.set_cons_succ, i64_w, i32_w]
              rfl
             refine pure_ (i := 21) (N := some 52) (v := ?_) (a' := ?_) #[true, true, true, true, true, true, true, true, true, true, true, true, true, true, true, true, false, false, true, false, false, true, false, false, false, false, false, false] rfl rfl (any_of HT_.out (by kernel_rfl)) (fun _ _ _ h => h) (Or.inl ⟨by rfl, ?_⟩) ?_ ?_
             rotate_left
             ·intro w'
              go_simp
              with_reducible rfl
             rotate_left
             ·simp only [Act.put, List.setIfInBounds_toArray, List.set_cons_zero, List.set_cons_succ, i64_w, i32_w]
              rfl
             refine pure_ (i := 23) (N := some 54) (v := ?_) (a' := ?_) #[true, true, true, true, true, true, true, true, true, true, true, true, true, true, true, true, false, false, true, false, false, true, false, true, false, false, false, false] rfl rfl (any_of HT_.out (by kernel_rfl)) (fun _ _ _ h => h) (Or.inl ⟨by rfl, ?_⟩) ?_ ?_
             rotate_left
             ·intro w'
              go_simp
              with_reducible rfl
             rotate_left
             ·simp only [Act.put, List.setIfInBounds_toArray, List.set_cons_zero, List.set_cons_succ, i64_w, i32_w]
              rfl
             refine take_ (i := 16) (N := some 47) (v := ?_) (a' := ?_) #[true, true, true, true, true, true, true, true, true, true, true, true, true, true, true, true, true, false, true, false, false, true, false, true, false, false, false, false] rfl rfl (take_ofW HT_.out HW_.out (by kernel_rfl)) (fun _ _ _ h => h) (Or.inl ⟨by rfl, ?_⟩) hHeld ?_ ?_
             rotate_left
             ·rintro w' ⟨s0, s1, s2, s3, s4, s5, s6, s7, s8⟩
              go_simp
              with_reducible rfl
             rotate_left
             ·simp only [Act.put, List.setIfInBounds_toArray, List.set_cons_zero, List.set_cons_succ, i64_w, i32_w]
              rfl
             refine take_ (i := 17) (N := some 48) (v := ?_) (a' := ?_) #[true, true, true, true, true, true, true, true, true, true, true, true, true, true, true, true, true, true, true, false, false, true, false, true, false, false, false, false] rfl rfl (take_ofW HT_.out HW_.out (by kernel_rfl)) (fun _ _ _ h => h) (Or.inl ⟨by rfl, ?_⟩) hHeld ?_ ?_
             rotate_left
             ·rintro w' ⟨s0, s1, s2, s3, s4, s5, s6, s7, s8⟩
              go_simp
              with_reducible rfl
             rotate_left
             ·simp only [Act.put, List.setIfInBounds_toArray, List.set_cons_zero, List.set_cons_succ, i64_w, i32_w]
              rfl
             refine take_ (i := 19) (N := some 50) (v := ?_) (a' := ?_) #[true, true, true, true, true, true, true, true, true, true, true, true, true, true, true, true, true, true, true, true, false, true, false, true, false, false, false, false] rfl rfl (take_ofW HT_.out HW_.out (by kernel_rfl)) (fun _ _ _ h => h) (Or.inl ⟨by rfl, ?_⟩) hHeld ?_ ?_
             rotate_left
             ·rintro w' ⟨s0, s1, s2, s3, s4, s5, s6, s7, s8⟩
              go_simp
              with_reducible rfl
             rotate_left
             ·simp only [Act.put, List.setIfInBounds_toArray, List.set_cons_zero, List.set_cons_succ, i64_w, i32_w]
              rfl
             refine take_ (i := 22) (N := some 53) (v := ?_) (a' := ?_) #[true, true, true, true, true, true, true, true, true, true, true, true, true, true, true, true, true, true, true, true, false, true, true, true, false, false, false, false] rfl rfl (take_ofW HT_.out HW_.out (by kernel_rfl)) (fun _ _ _ h => h) (Or.inl ⟨by rfl, ?_⟩) hHeld ?_ ?_
             rotate_left
             ·rintro w' ⟨s0, s1, s2, s3, s4, s5, s6, s7, s8⟩
              go_simp
              with_reducible rfl
             rotate_left
             ·simp only [Act.put, List.setIfInBounds_toArray, List.set_cons_zero, List.set_cons_succ, i64_w, i32_w]
              rfl
             refine take_ (i := 24) (N := some 55) (v := ?_) (a' := ?_) #[true, true, true, true, true, true, true, true, true, true, true, true, true, true, true, true, true, true, true, true, false, true, true, true, true, false, false, false] rfl rfl (take_ofW HT_.out HW_.out (by kernel_rfl)) (fun _ _ _ h => h) (Or.inl ⟨by rfl, ?_⟩) hHeld ?_ ?_
             rotate_left
             ·rintro w' ⟨s0, s1, s2, s3, s4, s5, s6, s7, s8⟩
              go_simp
              with_reducible rfl
             rotate_left
             ·simp only [Act.put, List.setIfInBounds_toArray, List.set_cons_zero, List.set_cons_succ, i64_w, i32_w]
              rfl
             refine one_ (i := 20) (N := some 51) #[true, true, true, true, true, true, true, true, true, true, true, true, true, true, true, true, true, true, true, true, true, true, true, true, true, false, false, false] rfl rfl (one_of HT_.out (by kernel_rfl)) (by decide) (fun K hK => ?_)
             refine goes_ Tryd.func14 (by kernel_rfl) rfl #[.agg #[.slice Ao51 y343.length co51], .agg #[.int .i64 t347, .slice Ao64 t348.length co64], .slice A2_3 l2_3.length c2_3] (by rfl) rfl rfl uC ?_
             with_reducible refine (mon_Raise.calls kj3 _ _ y343 t347 _ _ t348 _ _ l2_3 t357 _ ?side1 ?side2 ?side3 ?side4 ?side5 ?side6 A26.out).mono ?_
             (case side1 => exact uS (Kd.R_reads' HO345.out).2.2)
             (case side2 => exact (Kd.R_reads' HO345.out).2.1)
             (case side3 => exact uS (Kd.R_reads' HO350.out).2.2)
             (case side4 => exact (Kd.R_reads' HO350.out).2.1)
             (case side5 => exact uS (Kd.C_below HR2_3.out HB.out))
             (case side6 => exact HC2_3.out)
             rintro e w72 ⟨rfl, hb⟩
             refine ⟨_, rfl, ?_⟩
             have n0_ := Aside0.mk (Kd.R_below (uR HO345) hb)
             have n1_ := Aside0.mk (Kd.R_below (uR HO350) hb)
             have n2_ := Aside0.mk (blk_below (g := gb337) (o := .cells #[.int .i64 a1_0, .slice A1_1 l1_1.length c1_1] 25 (0, 0)) (uK BK337) hb)
             have n3_ := Aside0.mk (blk_below (g := gb338) (o := .cells #[.int .i64 a2_0, .int .i64 a2_1, .int .i64 a2_2, .slice A2_3 l2_3.length c2_3] 28 (0, 0)) (uK BK338) hb)
             have n4_ := Aside0.mk (blk_below (g := gb346) (o := .cells #[.slice Ao51 y343.length co51] 31 (0, 0)) (uK BK346) hb)
             have n5_ := Aside0.mk (blk_below (g := gb351) (o := .cells #[.int .i64 t347, .slice Ao64 t348.length co64] 34 (0, 0)) (uK BK351) hb)
             have n6_ := Aside0.mk (below_step (uB4 HB GE337 GE338 GE346 GE351) hb)
             clear HO345
             clear HO350
             clear BK337
             clear BK338
             clear BK346
             clear BK351
             clear HB
             have HO345 := n0_
             have HO350 := n1_
             have BK337 := n2_
             have BK338 := n3_
             have BK346 := n4_
             have BK351 := n5_
             have HB := n6_
             clear n0_ n1_ n2_ n3_ n4_ n5_ n6_
             (try clear hb)
             (try clear hb2)
             (try clear hk)
             (try clear hi)
             refine hK.out _ _ ⟨(blk_cell BK346.out 0).trans rfl, (blk_cell BK351.out 0).trans rfl, (blk_cell BK351.out 1).trans rfl, (blk_cell BK337.out 0).trans rfl, (blk_cell BK337.out 1).trans rfl, (blk_cell BK338.out 0).trans rfl, (blk_cell BK338.out 1).trans rfl, (blk_cell BK338.out 2).trans rfl, (blk_cell BK338.out 3).trans rfl⟩ (fun hHeld => ?_)
             clear hK K
             refine norm_ (a' := ?_) ?_ ?_
             rotate_left
             ·show Act.put _ (some 51) _ = _
              exact uP
             refine one_ (i := 25) (N := some 56) #[true, true, true, true, true, true, true, true, true, true, true, true, true, true, true, true, true, true, true, true, true, true, true, true, true, true, false, false] rfl rfl (one_of HT_.out (by kernel_rfl)) (by decide) (fun K hK => ?_)
             refine goes_ Tryd.func15 (by kernel_rfl) rfl #[.slice A0 l0.length c0, .agg #[.int .i64 a1_0, .slice A1_1 l1_1.length c1_1], .slice A2_3 l2_3.length c2_3] (by rfl) rfl rfl uC ?_
             with_reducible refine (colloquyref20_Raise.calls kj3 _ _ l0 a1_0 _ _ l1_1 _ _ l2_3 t358 _ ?side1 ?side2 ?side3 ?side4 ?side5 ?side6 A27.out).mono ?_
             (case side1 => exact uS (Kd.C_below HR0.out HB.out))
             (case side2 => exact HC0.out)
             (case side3 => exact uS (Kd.C_below HR1_1.out HB.out))
             (case side4 => exact HC1_1.out)
             (case side5 => exact uS (Kd.C_below HR2_3.out HB.out))
             (case side6 => exact HC2_3.out)
             rintro e w73 ⟨rfl, hb⟩
             refine ⟨_, rfl, ?_⟩
             have n0_ := Aside0.mk (Kd.R_below (uR HO345) hb)
             have n1_ := Aside0.mk (Kd.R_below (uR HO350) hb)
             have n2_ := Aside0.mk (blk_below (g := gb337) (o := .cells #[.int .i64 a1_0, .slice A1_1 l1_1.length c1_1] 25 (0, 0)) (uK BK337) hb)
             have n3_ := Aside0.mk (blk_below (g := gb338) (o := .cells #[.int .i64 a2_0, .int .i64 a2_1, .int .i64 a2_2, .slice A2_3 l2_3.length c2_3] 28 (0, 0)) (uK BK338) hb)
             have n4_ := Aside0.mk (blk_below (g := gb346) (o := .cells #[.slice Ao51 y343.length co51] 31 (0, 0)) (uK BK346) hb)
             have n5_ := Aside0.mk (blk_below (g := gb351) (o := .cells #[.int .i64 t347, .slice Ao64 t348.length co64] 34 (0, 0)) (uK BK351) hb)
             have n6_ := Aside0.mk (below_step (uB4 HB GE337 GE338 GE346 GE351) hb)
             clear HO345
             clear HO350
             clear BK337
             clear BK338
             clear BK346
             clear BK351
             clear HB
             have HO345 := n0_
             have HO350 := n1_
             have BK337 := n2_
             have BK338 := n3_
             have BK346 := n4_
             have BK351 := n5_
             have HB := n6_
             clear n0_ n1_ n2_ n3_ n4_ n5_ n6_
             (try clear hb)
             (try clear hb2)
             (try clear hk)
             (try clear hi)
             refine hK.out _ _ ⟨(blk_cell BK346.out 0).trans rfl, (blk_cell BK351.out 0).trans rfl, (blk_cell BK351.out 1).trans rfl, (blk_cell BK337.out 0).trans rfl, (blk_cell BK337.out 1).trans rfl, (blk_cell BK338.out 0).trans rfl, (blk_cell BK338.out 1).trans rfl, (blk_cell BK338.out 2).trans rfl, (blk_cell BK338.out 3).trans rfl⟩ (fun hHeld => ?_)
             clear hK K
             refine norm_ (a' := ?_) ?_ ?_
             rotate_left
             ·show Act.put _ (some 56) _ = _
              exact uP
             refine pure_ (i := 26) (N := some 57) (v := ?_) (a' := ?_) #[true, true, true, true, true, true, true, true, true, true, true, true, true, true, true, true, true, true, true, true, true, true, true, true, true, true, true, false] rfl rfl (any_of HT_.out (by kernel_rfl)) (fun _ _ _ h => h) (Or.inl ⟨by rfl, ?_⟩) ?_ ?_
             rotate_left
             ·intro w'
              go_simp
              with_reducible rfl
             rotate_left
             ·simp only [Act.put, List.setIfInBounds_toArray, List.set_cons_zero, List.set_cons_succ, i64_w, i32_w]
              rfl
             refine pure_ (i := 27) (N := some 58) (v := ?_) (a' := ?_) #[true, true, true, true, true, true, true, true, true, true, true, true, true, true, true, true, true, true, true, true, true, true, true, true, true, true, true, true] rfl rfl (any_of HT_.out (by kernel_rfl)) (fun _ _ _ h => h) (Or.inl ⟨by rfl, ?_⟩) ?_ ?_
             rotate_left
             ·intro w'
              go_simp
              with_reducible rfl
             rotate_left
             ·simp only [Act.put, List.setIfInBounds_toArray, List.set_cons_zero, List.set_cons_succ, i64_w, i32_w]
              rfl
             refine done_ (done_of HT_.out (by kernel_rfl)) ?_
             try go_wp2
             have n0_ := Aside0.mk (Kd.R_drew HO345.out)
             have n1_ := Aside0.mk (Kd.R_drew HO350.out)
             have n2_ := Aside0.mk (blk_drew BK337.out)
             have n3_ := Aside0.mk (blk_drew BK338.out)
             have n4_ := Aside0.mk (blk_drew BK346.out)
             have n5_ := Aside0.mk (blk_drew BK351.out)
             have n6_ := Aside0.mk (below_drew1 HB.out)
             clear HO345
             clear HO350
             clear BK337
             clear BK338
             clear BK346
             clear BK351
             clear HB
             have HO345 := n0_
             have HO350 := n1_
             have BK337 := n2_
             have BK338 := n3_
             have BK346 := n4_
             have BK351 := n5_
             have HB := n6_
             clear n0_ n1_ n2_ n3_ n4_ n5_ n6_
             refine start_ (n := 67) (S := fun w' => w'.cell? ⟨gb346, 0, none⟩ = some (.slice Ao51 y343.length co51) ∧ w'.cell? ⟨gb351, 0, none⟩ = some (.int .i64 t347) ∧ w'.cell? ⟨gb351, 1, none⟩ = some (.slice Ao64 t348.length co64) ∧ w'.cell? ⟨gb338, 0, none⟩ = some (.int .i64 a2_0) ∧ w'.cell? ⟨gb338, 1, none⟩ = some (.int .i64 a2_1) ∧ w'.cell? ⟨gb338, 2, none⟩ = some (.int .i64 a2_2) ∧ w'.cell? ⟨gb338, 3, none⟩ = some (.slice A2_3 l2_3.length c2_3) ∧ w'.cell? ⟨gb337, 0, none⟩ = some (.int .i64 a1_0) ∧ w'.cell? ⟨gb337, 1, none⟩ = some (.slice A1_1 l1_1.length c1_1)) (ds := []) #[false, false, false, false, false, false, false, false, false, false, false, false, false, false, false, false, false, false, false, false, false, false, false, false, false, false, false, false, false, false, false, false, false, false, false, false, false, false, false, false, false, false, false, false, false, false, false, false, false, false, false, false, false, false, false, false, false, false, false, false, false, false, false, false, false, false, false] (by kernel_rfl) rfl rfl ⟨(blk_cell BK346.out 0).trans rfl, (blk_cell BK351.out 0).trans rfl, (blk_cell BK351.out 1).trans rfl, (blk_cell BK338.out 0).trans rfl, (blk_cell BK338.out 1).trans rfl, (blk_cell BK338.out 2).trans rfl, (blk_cell BK338.out 3).trans rfl, (blk_cell BK337.out 0).trans rfl, (blk_cell BK337.out 1).trans rfl⟩ (fun hHeld => ?_); refine with_tabW colloquylaw20_MonTells.tab7 colloquylaw20_MonTells.bits7 (fun HT_ HW_ => ?_)
             generalize w73.drew = w74 at HO345 HO350 BK337 BK338 BK346 BK351 HB hHeld ⊢
             refine pure_ (i := 2) (N := some 61) (v := ?_) (a' := ?_) #[false, false, true, false, false, false, false, false, false, false, false, false, false, false, false, false, false, false, false, false, false, false, false, false, false, false, false, false, false, false, false, false, false, false, false, false, false, false, false, false, false, false, false, false, false, false, false, false, false, false, false, false, false, false, false, false, false, false, false, false, false, false, false, false, false, false, false] rfl rfl (any_of HT_.out (by kernel_rfl)) (fun _ _ _ h => h) (Or.inl ⟨by rfl, ?_⟩) ?_ ?_
             rotate_left
             ·intro w'
              go_simp
              with_reducible rfl
             rotate_left
             ·simp only [Act.put, List.setIfInBounds_toArray, List.set_cons_zero, List.set_cons_succ, i64_w, i32_w]
              rfl
             refine pure_ (i := 4) (N := some 63) (v := ?_) (a' := ?_) #[false, false, true, false, true, false, false, false, false, false, false, false, false, false, false, false, false, false, false, false, false, false, false, false, false, false, false, false, false, false, false, false, false, false, false, false, false, false, false, false, false, false, false, false, false, false, false, false, false, false, false, false, false, false, false, false, false, false, false, false, false, false, false, false, false, false, false] rfl rfl (any_of HT_.out (by kernel_rfl)) (fun _ _ _ h => h) (Or.inl ⟨by rfl, ?_⟩) ?_ ?_
             rotate_left
             ·intro w'
              go_simp
              with_reducible rfl
             rotate_left
             ·simp only [Act.put, List.setIfInBounds_toArray, List.set_cons_zero, List.set_cons_succ, i64_w, i32_w]
              rfl
             refine pure_ (i := 6) (N := some 65) (v := ?_) (a' := ?_) #[false, false, true, false, true, false, true, false, false, false, false, false, false, false, false, false, false, false, false, false, false, false, false, false, false, false, false, false, false, false, false, false, false, false, false, false, false, false, false, false, false, false, false, false, false, false, false, false, false, false, false, false, false, false, false, false, false, false, false, false, false, false, false, false, false, false, false] rfl rfl (any_of HT_.out (by kernel_rfl)) (fun _ _ _ h => h) (Or.inl ⟨by rfl, ?_⟩) ?_ ?_
             rotate_left
             ·intro w'
              go_simp
              with_reducible rfl
             rotate_left
             ·simp only [Act.put, List.setIfInBounds_toArray, List.set_cons_zero, List.set_cons_succ, i64_w, i32_w]
              rfl
             refine pure_ (i := 9) (N := some 68) (v := ?_) (a' := ?_) #[false, false, true, false, true, false, true, false, false, true, false, false, false, false, false, false, false, false, false, false, false, false, false, false, false, false, false, false, false, false, false, false, false, false, false, false, false, false, false, false, false, false, false, false, false, false, false, false, false, false, false, false, false, false, false, false, false, false, false, false, false, false, false, false, false, false, false] rfl rfl (any_of HT_.out (by kernel_rfl)) (fun _ _ _ h => h) (Or.inl ⟨by rfl, ?_⟩) ?_ ?_
             rotate_left
             ·intro w'
              go_simp
              with_reducible rfl
             rotate_left
             ·simp only [Act.put, List.setIfInBounds_toArray, List.set_cons_zero, List.set_cons_succ, i64_w, i32_w]
              rfl
             refine pure_ (i := 11) (N := some 70) (v := ?_) (a' := ?_) #[false, false, true, false, true, false, true, false, false, true, false, true, false, false, false, false, false, false, false, false, false, false, false, false, false, false, false, false, false, false, false, false, false, false, false, false, false, false, false, false, false, false, false, false, false, false, false, false, false, false, false, false, false, false, false, false, false, false, false, false, false, false, false, false, false, false, false] rfl rfl (any_of HT_.out (by kernel_rfl)) (fun _ _ _ h => h) (Or.inl ⟨by rfl, ?_⟩) ?_ ?_
             rotate_left
             ·intro w'
              go_simp
              with_reducible rfl
             rotate_left
             ·simp only [Act.put, List.setIfInBounds_toArray, List.set_cons_zero, List.set_cons_succ, i64_w, i32_w]
              rfl
             refine pure_ (i := 13) (N := some 72) (v := ?_) (a' := ?_) #[false, false, true, false, true, false, true, false, false, true, false, true, false, true, false, false, false, false, false, false, false, false, false, false, false, false, false, false, false, false, false, false, false, false, false, false, false, false, false, false, false, false, false, false, false, false, false, false, false, false, false, false, false, false, false, false, false, false, false, false, false, false, false, false, false, false, false] rfl rfl (any_of HT_.out (by kernel_rfl)) (fun _ _ _ h => h) (Or.inl ⟨by rfl, ?_⟩) ?_ ?_
             rotate_left
             ·intro w'
              go_simp
              with_reducible rfl
             rotate_left
             ·simp only [Act.put, List.setIfInBounds_toArray, List.set_cons_zero, List.set_cons_succ, i64_w, i32_w]
              rfl
             refine pure_ (i := 15) (N := some 74) (v := ?_) (a' := ?_) #[false, false, true, false, true, false, true, false, false, true, false, true, false, true, false, true, false, false, false, false, false, false, false, false, false, false, false, false, false, false, false, false, false, false, false, false, false, false, false, false, false, false, false, false, false, false, false, false, false, false, false, false, false, false, false, false, false, false, false, false, false, false, false, false, false, false, false] rfl rfl (any_of HT_.out (by kernel_rfl)) (fun _ _ _ h => h) (Or.inl ⟨by rfl, ?_⟩) ?_ ?_
             rotate_left
             ·intro w'
              go_simp
              with_reducible rfl
             rotate_left
             ·simp only [Act.put, List.setIfInBounds_toArray, List.set_cons_zero, List.set_cons_succ, i64_w, i32_w]
              rfl
             refine take_ (i := 0) (N := some 59) (v := ?_) (a' := ?_) #[true, false, true, false, true, false, true, false, false, true, false, true, false, true, false, true, false, false, false, false, false, false, false, false, false, false, false, false, false, false, false, false, false, false, false, false, false, false, false, false, false, false, false, false, false, false, false, false, false, false, false, false, false, false, false, false, false, false, false, false, false, false, false, false, false, false, false] rfl rfl (take_ofW HT_.out HW_.out (by kernel_rfl)) (fun _ _ _ h => h) (Or.inl ⟨by rfl, ?_⟩) hHeld ?_ ?_
             rotate_left
             ·rintro w' ⟨s0, s1, s2, s3, s4, s5, s6, s7, s8⟩
              go_simp
              with_reducible rfl
             rotate_left
             ·simp only [Act.put, List.setIfInBounds_toArray, List.set_cons_zero, List.set_cons_succ, i64_w, i32_w]
              rfl
             refine take_ (i := 1) (N := some 60) (v := ?_) (a' := ?_) #[true, true, true, false, true, false, true, false, false, true, false, true, false, true, false, true, false, false, false, false, false, false, false, false, false, false, false, false, false, false, false, false, false, false, false, false, false, false, false, false, false, false, false, false, false, false, false, false, false, false, false, false, false, false, false, false, false, false, false, false, false, false, false, false, false, false, false] rfl rfl (take_ofW HT_.out HW_.out (by kernel_rfl)) (fun _ _ _ h => h) (Or.inl ⟨by rfl, ?_⟩) hHeld ?_ ?_
             rotate_left
             ·rintro w' ⟨s0, s1, s2, s3, s4, s5, s6, s7, s8⟩
              go_simp
              with_reducible rfl
             rotate_left
             ·simp only [Act.put, List.setIfInBounds_toArray, List.set_cons_zero, List.set_cons_succ, i64_w, i32_w]
              rfl
             refine take_ (i := 3) (N := some 62) (v := ?_) (a' := ?_) #[true, true, true, true, true, false, true, false, false, true, false, true, false, true, false, true, false, false, false, false, false, false, false, false, false, false, false, false, false, false, false, false, false, false, false, false, false, false, false, false, false, false, false, false, false, false, false, false, false, false, false, false, false, false, false, false, false, false, false, false, false, false, false, false, false, false, false] rfl rfl (take_ofW HT_.out HW_.out (by kernel_rfl)) (fun _ _ _ h => h) (Or.inl ⟨by rfl, ?_⟩) hHeld ?_ ?_
             rotate_left
             ·rintro w' ⟨s0, s1, s2, s3, s4, s5, s6, s7, s8⟩
              go_simp
              with_reducible rfl
             rotate_left
             ·simp only [Act.put, List.setIfInBounds_toArray, List.set_cons_zero, List.set_cons_succ, i64_w, i32_w]
              rfl
             refine take_ (i := 5) (N := some 64) (v := ?_) (a' := ?_) #[true, true, true, true, true, true, true, false, false, true, false, true, false, true, false, true, false, false, false, false, false, false, false, false, false, false, false, false, false, false, false, false, false, false, false, false, false, false, false, false, false, false, false, false, false, false, false, false, false, false, false, false, false, false, false, false, false, false, false, false, false, false, false, false, false, false, false] rfl rfl (take_ofW HT_.out HW_.out (by kernel_rfl)) (fun _ _ _ h => h) (Or.inl ⟨by rfl, ?_⟩) hHeld ?_ ?_
             rotate_left
             ·rintro w' ⟨s0, s1, s2, s3, s4, s5, s6, s7, s8⟩
              go_simp
              with_reducible rfl
             rotate_left
             ·simp only [Act.put, List.setIfInBounds_toArray, List.set_cons_zero, List.set_cons_succ, i64_w, i32_w]
              rfl
             refine take_ (i := 7) (N := some 66) (v := ?_) (a' := ?_) #[true, true, true, true, true, true, true, true, false, true, false, true, false, true, false, true, false, false, false, false, false, false, false, false, false, false, false, false, false, false, false, false, false, false, false, false, false, false, false, false, false, false, false, false, false, false, false, false, false, false, false, false, false, false, false, false, false, false, false, false, false, false, false, false, false, false, false] rfl rfl (take_ofW HT_.out HW_.out (by kernel_rfl)) (fun _ _ _ h => h) (Or.inl ⟨by rfl, ?_⟩) hHeld ?_ ?_
             rotate_left
             ·rintro w' ⟨s0, s1, s2, s3, s4, s5, s6, s7, s8⟩
              go_simp
              with_reducible rfl
             rotate_left
             ·simp only [Act.put, List.setIfInBounds_toArray, List.set_cons_zero, List.set_cons_succ, i64_w, i32_w]
              rfl
             refine take_ (i := 10) (N := some 69) (v := ?_) (a' := ?_) #[true, true, true, true, true, true, true, true, false, true, true, true, false, true, false, true, false, false, false, false, false, false, false, false, false, false, false, false, false, false, false, false, false, false, false, false, false, false, false, false, false, false, false, false, false, false, false, false, false, false, false, false, false, false, false, false, false, false, false, false, false, false, false, false, false, false, false] rfl rfl (take_ofW HT_.out HW_.out (by kernel_rfl)) (fun _ _ _ h => h) (Or.inl ⟨by rfl, ?_⟩) hHeld ?_ ?_
             rotate_left
             ·rintro w' ⟨s0, s1, s2, s3, s4, s5, s6, s7, s8⟩
              go_simp
              with_reducible rfl
             rotate_left
             ·simp only [Act.put, List.setIfInBounds_toArray, List.set_cons_zero, List.set_cons_succ, i64_w, i32_w]
              rfl
             refine take_ (i := 12) (N := some 71) (v := ?_) (a' := ?_) #[true, true, true, true, true, true, true, true, false, true, true, true, true, true, false, true, false, false, false, false, false, false, false, false, false, false, false, false, false, false, false, false, false, false, false, false, false, false, false, false, false, false, false, false, false, false, false, false, false, false, false, false, false, false, false, false, false, false, false, false, false, false, false, false, false, false, false] rfl rfl (take_ofW HT_.out HW_.out (by kernel_rfl)) (fun _ _ _ h => h) (Or.inl ⟨by rfl, ?_⟩) hHeld ?_ ?_
             rotate_left
             ·rintro w' ⟨s0, s1, s2, s3, s4, s5, s6, s7, s8⟩
              go_simp
              with_reducible rfl
             rotate_left
             ·simp only [Act.put, List.setIfInBounds_toArray, List.set_cons_zero, List.set_cons_succ, i64_w, i32_w]
              rfl
             refine take_ (i := 14) (N := some 73) (v := ?_) (a' := ?_) #[true, true, true, true, true, true, true, true, false, true, true, true, true, true, true, true, false, false, false, false, false, false, false, false, false, false, false, false, false, false, false, false, false, false, false, false, false, false, false, false, false, false, false, false, false, false, false, false, false, false, false, false, false, false, false, false, false, false, false, false, false, false, false, false, false, false, false] rfl rfl (take_ofW HT_.out HW_.out (by kernel_rfl)) (fun _ _ _ h => h) (Or.inl ⟨by rfl, ?_⟩) hHeld ?_ ?_
             rotate_left
             ·rintro w' ⟨s0, s1, s2, s3, s4, s5, s6, s7, s8⟩
              go_simp
              with_reducible rfl
             rotate_left
             ·simp only [Act.put, List.setIfInBounds_toArray, List.set_cons_zero, List.set_cons_succ, i64_w, i32_w]
              rfl
             refine take_ (i := 16) (N := some 75) (v := ?_) (a' := ?_) #[true, true, true, true, true, true, true, true, false, true, true, true, true, true, true, true, true, false, false, false, false, false, false, false, false, false, false, false, false, false, false, false, false, false, false, false, false, false, false, false, false, false, false, false, false, false, false, false, false, false, false, false, false, false, false, false, false, false, false, false, false, false, false, false, false, false, false] rfl rfl (take_ofW HT_.out HW_.out (by kernel_rfl)) (fun _ _ _ h => h) (Or.inl ⟨by rfl, ?_⟩) hHeld ?_ ?_
             rotate_left
             ·rintro w' ⟨s0, s1, s2, s3, s4, s5, s6, s7, s8⟩
              go_simp
              with_reducible rfl
             rotate_left
             ·simp only [Act.put, List.setIfInBounds_toArray, List.set_cons_zero, List.set_cons_succ, i64_w, i32_w]
              rfl
             refine one_ (i := 8) (N := some 67) #[true, true, true, true, true, true, true, true, true, true, true, true, true, true, true, true, true, false, false, false, false, false, false, false, false, false, false, false, false, false, false, false, false, false, false, false, false, false, false, false, false, false, false, false, false, false, false, false, false, false, false, false, false, false, false, false, false, false, false, false, false, false, false, false, false, false, false] rfl rfl (one_of HT_.out (by kernel_rfl)) (by decide) (fun K hK => ?_)
             refine goes_ Tryd.func17 (by kernel_rfl) rfl #[.agg #[.slice Ao51 y343.length co51], .agg #[.int .i64 t347, .slice Ao64 t348.length co64], .int .i64 a2_0, .int .i64 a2_1, .int .i64 a2_2] (by rfl) rfl rfl uC ?_
             with_reducible refine (mon_Else.calls kj3 _ _ y343 t347 _ _ t348 a2_0 a2_1 a2_2 t359 t360 _ ?side1 ?side2 ?side3 ?side4 A29.out).mono ?_
             (case side1 => exact uS (Kd.R_reads' HO345.out).2.2)
             (case side2 => exact (Kd.R_reads' HO345.out).2.1)
             (case side3 => exact uS (Kd.R_reads' HO350.out).2.2)
             (case side4 => exact (Kd.R_reads' HO350.out).2.1)
             rintro e w75 ⟨v361, rfl, ho0, hb⟩
             refine ⟨_, rfl, ?_⟩
             have n0_ := Aside0.mk (Kd.R_below (uR HO345) hb)
             have n1_ := Aside0.mk (Kd.R_elder' (uR HO350) (Kd.R_base ho0) hb)
             have n2_ := Aside0.mk (Kd.R_lower (Kd.R_new' ho0 (Kd.R_lt (uR HO350))) (below_size (uB4 HB GE337 GE338 GE346 GE351)))
             have n3_ := Aside0.mk (blk_below (g := gb337) (o := .cells #[.int .i64 a1_0, .slice A1_1 l1_1.length c1_1] 25 (0, 0)) (uK BK337) hb)
             have n4_ := Aside0.mk (blk_below (g := gb338) (o := .cells #[.int .i64 a2_0, .int .i64 a2_1, .int .i64 a2_2, .slice A2_3 l2_3.length c2_3] 28 (0, 0)) (uK BK338) hb)
             have n5_ := Aside0.mk (blk_below (g := gb346) (o := .cells #[.slice Ao51 y343.length co51] 31 (0, 0)) (uK BK346) hb)
             have n6_ := Aside0.mk (blk_below (g := gb351) (o := .cells #[.int .i64 t347, .slice Ao64 t348.length co64] 34 (0, 0)) (uK BK351) hb)
             have n7_ := Aside0.mk (below_step (uB4 HB GE337 GE338 GE346 GE351) hb)
             clear HO345
             clear HO350
             clear BK337
             clear BK338
             clear BK346
             clear BK351
             clear HB
             have HO345 := n0_
             have HO350 := n1_
             have HO362 := n2_
             have BK337 := n3_
             have BK338 := n4_
             have BK346 := n5_
             have BK351 := n6_
             have HB := n7_
             clear n0_ n1_ n2_ n3_ n4_ n5_ n6_ n7_
             (try clear hb)
             (try clear hb2)
             (try clear hk)
             (try clear hi)
             (try clear ho0)
             refine hK.out _ _ ⟨(blk_cell BK346.out 0).trans rfl, (blk_cell BK351.out 0).trans rfl, (blk_cell BK351.out 1).trans rfl, (blk_cell BK338.out 0).trans rfl, (blk_cell BK338.out 1).trans rfl, (blk_cell BK338.out 2).trans rfl, (blk_cell BK338.out 3).trans rfl, (blk_cell BK337.out 0).trans rfl, (blk_cell BK337.out 1).trans rfl⟩ (fun hHeld => ?_)
             clear hK K
             refine norm_ (a' := ?_) ?_ ?_
             rotate_left
             ·show Act.put _ (some 67) _ = _
              exact uP
             refine one_ (i := 17) (N := some 76) #[true, true, true, true, true, true, true, true, true, true, true, true, true, true, true, true, true, true, false, false, false, false, false, false, false, false, false, false, false, false, false, false, false, false, false, false, false, false, false, false, false, false, false, false, false, false, false, false, false, false, false, false, false, false, false, false, false, false, false, false, false, false, false, false, false, false, false] rfl rfl (one_of HT_.out (by kernel_rfl)) (by decide) (fun K hK => ?_)
             refine goes_ Tryd.func18 (by kernel_rfl) rfl #[.slice A0 l0.length c0, .agg #[.int .i64 a1_0, .slice A1_1 l1_1.length c1_1], .int .i64 a2_0, .int .i64 a2_1, .int .i64 a2_2] (by rfl) rfl rfl uC ?_
             with_reducible refine (colloquyref20_Else.calls kj3 _ _ l0 a1_0 (fun k_ => k_ < w.heap.size) _ _ l1_1 a2_0 a2_1 a2_2 t363 t364 _ ?side1 ?side2 ?side3 A30.out).mono ?_
             (case side1 => exact uS (Kd.C_below HR0.out HB.out))
             (case side2 => exact HC0.out)
             (case side3 => exact Kd.V_mk HC1_1.out (Kd.F_below (Kd.C_F k62_heap HR1_1.out) (uB4 HB GE337 GE338 GE346 GE351)))
             rintro e w76 ⟨v365, rfl, ho0, hb⟩
             refine ⟨_, rfl, ?_⟩
             have n0_ := Aside0.mk (Kd.R_below (uR HO345) hb)
             have n1_ := Aside0.mk (Kd.R_below (uR HO350) hb)
             have n2_ := Aside0.mk (Kd.R_below (uR HO362) hb)
             have n3_ := Aside0.mk (Kd.V_lower (Kd.V_mono (ok' := fun k_ => some k_ ≠ (.slice Ao51 y343.length co51 : Value).ownBlock ∧ some k_ ≠ (.slice Ao64 t348.length co64 : Value).ownBlock ∧ some k_ ≠ (v361 : Value).ownBlock ∧ k_ ≠ gb337 ∧ k_ ≠ gb338 ∧ k_ ≠ gb346 ∧ k_ ≠ gb351) ho0 (fun k_ hk_ => ⟨Or.elim hk_ (fun hs_ => fun e_ => Nat.not_le.2 hs_ (Kd.R_base HO345.out k_ e_.symm)) (fun hn_ => (Kd.fresh' (Kd.R_lt (uR HO345)) k_ hn_)), Or.elim hk_ (fun hs_ => fun e_ => Nat.not_le.2 hs_ (Kd.R_base HO350.out k_ e_.symm)) (fun hn_ => (Kd.fresh' (Kd.R_lt (uR HO350)) k_ hn_)), Or.elim hk_ (fun hs_ => fun e_ => Nat.not_le.2 hs_ (Kd.R_base HO362.out k_ e_.symm)) (fun hn_ => (Kd.fresh' (Kd.R_lt (uR HO362)) k_ hn_)), Or.elim hk_ (fun hs_ => fun e_ => Nat.not_le.2 hs_ (by rw [e_]; exact GW337.out)) (fun hn_ => (Kd.freshB (g := gb337) (o := .cells #[.int .i64 a1_0, .slice A1_1 l1_1.length c1_1] 25 (0, 0)) (uK BK337) k_ hn_)), Or.elim hk_ (fun hs_ => fun e_ => Nat.not_le.2 hs_ (by rw [e_]; exact GW338.out)) (fun hn_ => (Kd.freshB (g := gb338) (o := .cells #[.int .i64 a2_0, .int .i64 a2_1, .int .i64 a2_2, .slice A2_3 l2_3.length c2_3] 28 (0, 0)) (uK BK338) k_ hn_)), Or.elim hk_ (fun hs_ => fun e_ => Nat.not_le.2 hs_ (by rw [e_]; exact GW346.out)) (fun hn_ => (Kd.freshB (g := gb346) (o := .cells #[.slice Ao51 y343.length co51] 31 (0, 0)) (uK BK346) k_ hn_)), Or.elim hk_ (fun hs_ => fun e_ => Nat.not_le.2 hs_ (by rw [e_]; exact GW351.out)) (fun hn_ => (Kd.freshB (g := gb351) (o := .cells #[.int .i64 t347, .slice Ao64 t348.length co64] 34 (0, 0)) (uK BK351) k_ hn_))⟩)) (below_size (uB4 HB GE337 GE338 GE346 GE351)))
             have n4_ := Aside0.mk (blk_below (g := gb337) (o := .cells #[.int .i64 a1_0, .slice A1_1 l1_1.length c1_1] 25 (0, 0)) (uK BK337) hb)
             have n5_ := Aside0.mk (blk_below (g := gb338) (o := .cells #[.int .i64 a2_0, .int .i64 a2_1, .int .i64 a2_2, .slice A2_3 l2_3.length c2_3] 28 (0, 0)) (uK BK338) hb)
             have n6_ := Aside0.mk (blk_below (g := gb346) (o := .cells #[.slice Ao51 y343.length co51] 31 (0, 0)) (uK BK346) hb)
             have n7_ := Aside0.mk (blk_below (g := gb351) (o := .cells #[.int .i64 t347, .slice Ao64 t348.length co64] 34 (0, 0)) (uK BK351) hb)
             have n8_ := Aside0.mk (below_step (uB4 HB GE337 GE338 GE346 GE351) hb)
             clear HO345
             clear HO350
             clear HO362
             clear BK337
             clear BK338
             clear BK346
             clear BK351
             clear HB
             have HO345 := n0_
             have HO350 := n1_
             have HO362 := n2_
             have HO366 := n3_
             have BK337 := n4_
             have BK338 := n5_
             have BK346 := n6_
             have BK351 := n7_
             have HB := n8_
             clear n0_ n1_ n2_ n3_ n4_ n5_ n6_ n7_ n8_
             (try clear hb)
             (try clear hb2)
             (try clear hk)
             (try clear hi)
             (try clear ho0)
             obtain ⟨Ao77, co77, eo77⟩ := Kd.R_slice HO362.out
             (first | subst eo77 | (injection eo77 with f1_ f2_ f3_; have f4_ := f1_.symm; have f5_ := f3_.symm; clear f1_ f2_ f3_; subst f4_; subst f5_))
             obtain ⟨Ao78, co78, eo78⟩ := Kd.V_slice HO366.out
             (first | subst eo78 | (injection eo78 with f1_ f2_ f3_; have f4_ := f1_.symm; have f5_ := f3_.symm; clear f1_ f2_ f3_; subst f4_; subst f5_))
             refine hK.out _ _ ⟨(blk_cell BK346.out 0).trans rfl, (blk_cell BK351.out 0).trans rfl, (blk_cell BK351.out 1).trans rfl, (blk_cell BK338.out 0).trans rfl, (blk_cell BK338.out 1).trans rfl, (blk_cell BK338.out 2).trans rfl, (blk_cell BK338.out 3).trans rfl, (blk_cell BK337.out 0).trans rfl, (blk_cell BK337.out 1).trans rfl⟩ (fun hHeld => ?_)
             clear hK K
             refine norm_ (a' := ?_) ?_ ?_
             rotate_left
             ·show Act.put _ (some 76) _ = _
              exact uP
             refine one_ (i := 18) (N := some 77) #[true, true, true, true, true, true, true, true, true, true, true, true, true, true, true, true, true, true, true, false, false, false, false, false, false, false, false, false, false, false, false, false, false, false, false, false, false, false, false, false, false, false, false, false, false, false, false, false, false, false, false, false, false, false, false, false, false, false, false, false, false, false, false, false, false, false, false] rfl rfl (one_of HT_.out (by kernel_rfl)) (by decide) (fun K hK => ?_)
             refine goes_ Tryd.func16 (by kernel_rfl) rfl #[.agg #[.int .i64 t359, .slice Ao77 t360.length co77], .agg #[.int .i64 t363, .slice Ao78 t364.length co78]] (by rfl) rfl rfl uC ?_
             with_reducible refine (colloquylaw20_isMon.calls kj3 t359 _ _ t360 t363 _ _ t364 true _ ?side1 ?side2 ?side3 ?side4 A31.out).mono ?_
             (case side1 => exact uS (Kd.R_reads' HO362.out).2.2)
             (case side2 => exact (Kd.R_reads' HO362.out).2.1)
             (case side3 => exact uS (Kd.V_reads' HO366.out).2.2)
             (case side4 => exact (Kd.V_reads' HO366.out).2.1)
             rintro e w79 ⟨rfl, hb⟩
             refine ⟨_, rfl, ?_⟩
             have n0_ := Aside0.mk (Kd.R_below (uR HO345) hb)
             have n1_ := Aside0.mk (Kd.R_below (uR HO350) hb)
             have n2_ := Aside0.mk (Kd.R_below (uR HO362) hb)
             have n3_ := Aside0.mk (Kd.V_below (uV HO366) hb)
             have n4_ := Aside0.mk (blk_below (g := gb337) (o := .cells #[.int .i64 a1_0, .slice A1_1 l1_1.length c1_1] 25 (0, 0)) (uK BK337) hb)
             have n5_ := Aside0.mk (blk_below (g := gb338) (o := .cells #[.int .i64 a2_0, .int .i64 a2_1, .int .i64 a2_2, .slice A2_3 l2_3.length c2_3] 28 (0, 0)) (uK BK338) hb)
             have n6_ := Aside0.mk (blk_below (g := gb346) (o := .cells #[.slice Ao51 y343.length co51] 31 (0, 0)) (uK BK346) hb)
             have n7_ := Aside0.mk (blk_below (g := gb351) (o := .cells #[.int .i64 t347, .slice Ao64 t348.length co64] 34 (0, 0)) (uK BK351) hb)
             have n8_ := Aside0.mk (below_step (uB4 HB GE337 GE338 GE346 GE351) hb)
             clear HO345
             clear HO350
             clear HO362
             clear HO366
             clear BK337
             clear BK338
             clear BK346
             clear BK351
             clear HB
             have HO345 := n0_
             have HO350 := n1_
             have HO362 := n2_
             have HO366 := n3_
             have BK337 := n4_
             have BK338 := n5_
             have BK346 := n6_
             have BK351 := n7_
             have HB := n8_
             clear n0_ n1_ n2_ n3_ n4_ n5_ n6_ n7_ n8_
             (try clear hb)
             (try clear hb2)
             (try clear hk)
             (try clear hi)
             refine hK.out _ _ ⟨(blk_cell BK346.out 0).trans rfl, (blk_cell BK351.out 0).trans rfl, (blk_cell BK351.out 1).trans rfl, (blk_cell BK338.out 0).trans rfl, (blk_cell BK338.out 1).trans rfl, (blk_cell BK338.out 2).trans rfl, (blk_cell BK338.out 3).trans rfl, (blk_cell BK337.out 0).trans rfl, (blk_cell BK337.out 1).trans rfl⟩ (fun hHeld => ?_)
             clear hK K
             refine norm_ (a' := ?_) ?_ ?_
             rotate_left
             ·show Act.put _ (some 77) _ = _
              exact uP
             refine pure_ (i := 19) (N := some 78) (v := ?_) (a' := ?_) #[true, true, true, true, true, true, true, true, true, true, true, true, true, true, true, true, true, true, true, true, false, false, false, false, false, false, false, false, false, false, false, false, false, false, false, false, false, false, false, false, false, false, false, false, false, false, false, false, false, false, false, false, false, false, false, false, false, false, false, false, false, false, false, false, false, false, false] rfl rfl (any_of HT_.out (by kernel_rfl)) (fun _ _ _ h => h) (Or.inl ⟨by rfl, ?_⟩) ?_ ?_
             rotate_left
             ·intro w'
              go_simp
              with_reducible rfl
             rotate_left
             ·simp only [Act.put, List.setIfInBounds_toArray, List.set_cons_zero, List.set_cons_succ, i64_w, i32_w]
              rfl
             refine pure_ (i := 21) (N := some 80) (v := ?_) (a' := ?_) #[true, true, true, true, true, true, true, true, true, true, true, true, true, true, true, true, true, true, true, true, false, true, false, false, false, false, false, false, false, false, false, false, false, false, false, false, false, false, false, false, false, false, false, false, false, false, false, false, false, false, false, false, false, false, false, false, false, false, false, false, false, false, false, false, false, false, false] rfl rfl (any_of HT_.out (by kernel_rfl)) (fun _ _ _ h => h) (Or.inl ⟨by rfl, ?_⟩) ?_ ?_
             rotate_left
             ·intro w'
              go_simp
              with_reducible rfl
             rotate_left
             ·simp only [Act.put, List.setIfInBounds_toArray, List.set_cons_zero, List.set_cons_succ, i64_w, i32_w]
              rfl
             refine pure_ (i := 25) (N := some 84) (v := ?_) (a' := ?_) #[true, true, true, true, true, true, true, true, true, true, true, true, true, true, true, true, true, true, true, true, false, true, false, false, false, true, false, false, false, false, false, false, false, false, false, false, false, false, false, false, false, false, false, false, false, false, false, false, false, false, false, false, false, false, false, false, false, false, false, false, false, false, false, false, false, false, false] rfl rfl (any_of HT_.out (by kernel_rfl)) (fun _ _ _ h => h) (Or.inl ⟨by rfl, ?_⟩) ?_ ?_
             rotate_left
             ·intro w'
              go_simp
              with_reducible rfl
             rotate_left
             ·simp only [Act.put, List.setIfInBounds_toArray, List.set_cons_zero, List.set_cons_succ, i64_w, i32_w]
              rfl
             refine take_ (i := 20) (N := some 79) (v := ?_) (a' := ?_) #[true, true, true, true, true, true, true, true, true, true, true, true, true, true, true, true, true, true, true, true, true, true, false, false, false, true, false, false, false, false, false, false, false, false, false, false, false, false, false, false, false, false, false, false, false, false, false, false, false, false, false, false, false, false, false, false, false, false, false, false, false, false, false, false, false, false, false] rfl rfl (take_ofW HT_.out HW_.out (by kernel_rfl)) (fun _ _ _ h => h) (Or.inl ⟨by rfl, ?_⟩) hHeld ?_ ?_
             rotate_left
             ·rintro w' ⟨s0, s1, s2, s3, s4, s5, s6, s7, s8⟩
              go_simp
              with_reducible rfl
             rotate_left
             ·simp only [Act.put, List.setIfInBounds_toArray, List.set_cons_zero, List.set_cons_succ, i64_w, i32_w]
              rfl
             refine take_ (i := 22) (N := some 81) (v := ?_) (a' := ?_) #[true, true, true, true, true, true, true, true, true, true, true, true, true, true, true, true, true, true, true, true, true, true, true, false, false, true, false, false, false, false, false, false, false, false, false, false, false, false, false, false, false, false, false, false, false, false, false, false, false, false, false, false, false, false, false, false, false, false, false, false, false, false, false, false, false, false, false] rfl rfl (take_ofW HT_.out HW_.out (by kernel_rfl)) (fun _ _ _ h => h) (Or.inl ⟨by rfl, ?_⟩) hHeld ?_ ?_
             rotate_left
             ·rintro w' ⟨s0, s1, s2, s3, s4, s5, s6, s7, s8⟩
              go_simp
              with_reducible rfl
             rotate_left
             ·simp only [Act.put, List.setIfInBounds_toArray, List.set_cons_zero, List.set_cons_succ, i64_w, i32_w]
              rfl
             refine take_ (i := 24) (N := some 83) (v := ?_) (a' := ?_) #[true, true, true, true, true, true, true, true, true, true, true, true, true, true, true, true, true, true, true, true, true, true, true, false, true, true, false, false, false, false, false, false, false, false, false, false, false, false, false, false, false, false, false, false, false, false, false, false, false, false, false, false, false, false, false, false, false, false, false, false, false, false, false, false, false, false, false] rfl rfl (take_ofW HT_.out HW_.out (by kernel_rfl)) (fun _ _ _ h => h) (Or.inl ⟨by rfl, ?_⟩) hHeld ?_ ?_
             rotate_left
             ·rintro w' ⟨s0, s1, s2, s3, s4, s5, s6, s7, s8⟩
              go_simp
              with_reducible rfl
             rotate_left
             ·simp only [Act.put, List.setIfInBounds_toArray, List.set_cons_zero, List.set_cons_succ, i64_w, i32_w]
              rfl
             refine take_ (i := 26) (N := some 85) (v := ?_) (a' := ?_) #[true, true, true, true, true, true, true, true, true, true, true, true, true, true, true, true, true, true, true, true, true, true, true, false, true, true, true, false, false, false, false, false, false, false, false, false, false, false, false, false, false, false, false, false, false, false, false, false, false, false, false, false, false, false, false, false, false, false, false, false, false, false, false, false, false, false, false] rfl rfl (take_ofW HT_.out HW_.out (by kernel_rfl)) (fun _ _ _ h => h) (Or.inl ⟨by rfl, ?_⟩) hHeld ?_ ?_
             rotate_left
             ·rintro w' ⟨s0, s1, s2, s3, s4, s5, s6, s7, s8⟩
              go_simp
              with_reducible rfl
             rotate_left
             ·simp only [Act.put, List.setIfInBounds_toArray, List.set_cons_zero, List.set_cons_succ, i64_w, i32_w]
              rfl
             refine one_ (i := 23) (N := some 82) #[true, true, true, true, true, true, true, true, true, true, true, true, true, true, true, true, true, true, true, true, true, true, true, true, true, true, true, false, false, false, false, false, false, false, false, false, false, false, false, false, false, false, false, false, false, false, false, false, false, false, false, false, false, false, false, false, false, false, false, false, false, false, false, false, false, false, false] rfl rfl (one_of HT_.out (by kernel_rfl)) (by decide) (fun K hK => ?_)
             refine goes_ Tryd.func19 (by kernel_rfl) rfl #[.agg #[.int .i64 t347, .slice Ao64 t348.length co64], .int .i64 a2_0] (by rfl) rfl rfl uC ?_
             with_reducible refine (mon_Join.calls kj3 t347 _ _ t348 a2_0 t368 t369 _ ?side1 ?side2 A33.out).mono ?_
             (case side1 => exact uS (Kd.R_reads' HO350.out).2.2)
             (case side2 => exact (Kd.R_reads' HO350.out).2.1)
             rintro e w80 ⟨v370, rfl, ho0, hb⟩
             refine ⟨_, rfl, ?_⟩
             have n0_ := Aside0.mk (Kd.R_below (uR HO345) hb)
             have n1_ := Aside0.mk (Kd.R_elder' (uR HO350) (Kd.R_base ho0) hb)
             have n2_ := Aside0.mk (Kd.R_elder' (uR HO362) (Kd.R_base ho0) hb)
             have n3_ := Aside0.mk (Kd.V_elder' (uV HO366) (Kd.R_base ho0) hb)
             have n4_ := Aside0.mk (Kd.R_lower (Kd.R_new' (Kd.R_new' ho0 (Kd.R_lt (uR HO350))) (Kd.R_lt (uR HO362))) (below_size (uB4 HB GE337 GE338 GE346 GE351)))
             have n5_ := Aside0.mk (blk_below (g := gb337) (o := .cells #[.int .i64 a1_0, .slice A1_1 l1_1.length c1_1] 25 (0, 0)) (uK BK337) hb)
             have n6_ := Aside0.mk (blk_below (g := gb338) (o := .cells #[.int .i64 a2_0, .int .i64 a2_1, .int .i64 a2_2, .slice A2_3 l2_3.length c2_3] 28 (0, 0)) (uK BK338) hb)
             have n7_ := Aside0.mk (blk_below (g := gb346) (o := .cells #[.slice Ao51 y343.length co51] 31 (0, 0)) (uK BK346) hb)
             have n8_ := Aside0.mk (blk_below (g := gb351) (o := .cells #[.int .i64 t347, .slice Ao64 t348.length co64] 34 (0, 0)) (uK BK351) hb)
             have n9_ := Aside0.mk (below_step (uB4 HB GE337 GE338 GE346 GE351) hb)
             clear HO345
             clear HO350
             clear HO362
             clear HO366
             clear BK337
             clear BK338
             clear BK346
             clear BK351
             clear HB
             have HO345 := n0_
             have HO350 := n1_
             have HO362 := n2_
             have HO366 := n3_
             have HO371 := n4_
             have BK337 := n5_
             have BK338 := n6_
             have BK346 := n7_
             have BK351 := n8_
             have HB := n9_
             clear n0_ n1_ n2_ n3_ n4_ n5_ n6_ n7_ n8_ n9_
             (try clear hb)
             (try clear hb2)
             (try clear hk)
             (try clear hi)
             (try clear ho0)
             refine hK.out _ _ ⟨(blk_cell BK346.out 0).trans rfl, (blk_cell BK351.out 0).trans rfl, (blk_cell BK351.out 1).trans rfl, (blk_cell BK338.out 0).trans rfl, (blk_cell BK338.out 1).trans rfl, (blk_cell BK338.out 2).trans rfl, (blk_cell BK338.out 3).trans rfl, (blk_cell BK337.out 0).trans rfl, (blk_cell BK337.out 1).trans rfl⟩ (fun hHeld => ?_)
             clear hK K
             refine norm_ (a' := ?_) ?_ ?_
             rotate_left
             ·show Act.put _ (some 82) _ = _
              exact uP
             refine one_ (i := 27) (N := some 86) #[true, true, true, true, true, true, true, true, true, true, true, true, true, true, true, true, true, true, true, true, true, true, true, true, true, true, true, true, false, false, false, false, false, false, false, false, false, false, false, false, false, false, false, false, false, false, false, false, false, false, false, false, false, false, false, false, false, false, false, false, false, false, false, false, false, false, false] rfl rfl (one_of HT_.out (by kernel_rfl)) (by decide) (fun K hK => ?_)
             refine goes_ Tryd.func20 (by kernel_rfl) rfl #[.agg #[.int .i64 a1_0, .slice A1_1 l1_1.length c1_1], .int .i64 a2_0] (by rfl) rfl rfl uC ?_
             with_reducible refine (colloquyref20_Join.calls kj3 a1_0 (fun k_ => k_ < w.heap.size) _ _ l1_1 a2_0 t372 t373 _ ?side1 A34.out).mono ?_
             (case side1 => exact Kd.V_mk HC1_1.out (Kd.F_below (Kd.C_F k62_heap HR1_1.out) (uB4 HB GE337 GE338 GE346 GE351)))
             rintro e w81 ⟨v374, rfl, ho0, hb⟩
             refine ⟨_, rfl, ?_⟩
             have n0_ := Aside0.mk (Kd.R_below (uR HO345) hb)
             have n1_ := Aside0.mk (Kd.R_below (uR HO350) hb)
             have n2_ := Aside0.mk (Kd.R_below (uR HO362) hb)
             have n3_ := Aside0.mk (Kd.V_below (uV HO366) hb)
             have n4_ := Aside0.mk (Kd.R_below (uR HO371) hb)
             have n5_ := Aside0.mk (Kd.V_lower (Kd.V_mono (ok' := fun k_ => some k_ ≠ (.slice Ao51 y343.length co51 : Value).ownBlock ∧ some k_ ≠ (.slice Ao64 t348.length co64 : Value).ownBlock ∧ some k_ ≠ (.slice Ao77 t360.length co77 : Value).ownBlock ∧ some k_ ≠ (v370 : Value).ownBlock ∧ k_ ≠ gb337 ∧ k_ ≠ gb338 ∧ k_ ≠ gb346 ∧ k_ ≠ gb351) ho0 (fun k_ hk_ => ⟨Or.elim hk_ (fun hs_ => fun e_ => Nat.not_le.2 hs_ (Kd.R_base HO345.out k_ e_.symm)) (fun hn_ => (Kd.fresh' (Kd.R_lt (uR HO345)) k_ hn_)), Or.elim hk_ (fun hs_ => fun e_ => Nat.not_le.2 hs_ (Kd.R_base HO350.out k_ e_.symm)) (fun hn_ => (Kd.fresh' (Kd.R_lt (uR HO350)) k_ hn_)), Or.elim hk_ (fun hs_ => fun e_ => Nat.not_le.2 hs_ (Kd.R_base HO362.out k_ e_.symm)) (fun hn_ => (Kd.fresh' (Kd.R_lt (uR HO362)) k_ hn_)), Or.elim hk_ (fun hs_ => fun e_ => Nat.not_le.2 hs_ (Kd.R_base HO371.out k_ e_.symm)) (fun hn_ => (Kd.fresh' (Kd.R_lt (uR HO371)) k_ hn_)), Or.elim hk_ (fun hs_ => fun e_ => Nat.not_le.2 hs_ (by rw [e_]; exact GW337.out)) (fun hn_ => (Kd.freshB (g := gb337) (o := .cells #[.int .i64 a1_0, .slice A1_1 l1_1.length c1_1] 25 (0, 0)) (uK BK337) k_ hn_)), Or.elim hk_ (fun hs_ => fun e_ => Nat.not_le.2 hs_ (by rw [e_]; exact GW338.out)) (fun hn_ => (Kd.freshB (g := gb338) (o := .cells #[.int .i64 a2_0, .int .i64 a2_1, .int .i64 a2_2, .slice A2_3 l2_3.length c2_3] 28 (0, 0)) (uK BK338) k_ hn_)), Or.elim hk_ (fun hs_ => fun e_ => Nat.not_le.2 hs_ (by rw [e_]; exact GW346.out)) (fun hn_ => (Kd.freshB (g := gb346) (o := .cells #[.slice Ao51 y343.length co51] 31 (0, 0)) (uK BK346) k_ hn_)), Or.elim hk_ (fun hs_ => fun e_ => Nat.not_le.2 hs_ (by rw [e_]; exact GW351.out)) (fun hn_ => (Kd.freshB (g := gb351) (o := .cells #[.int .i64 t347, .slice Ao64 t348.length co64] 34 (0, 0)) (uK BK351) k_ hn_))⟩)) (below_size (uB4 HB GE337 GE338 GE346 GE351)))
             have n6_ := Aside0.mk (blk_below (g := gb337) (o := .cells #[.int .i64 a1_0, .slice A1_1 l1_1.length c1_1] 25 (0, 0)) (uK BK337) hb)
             have n7_ := Aside0.mk (blk_below (g := gb338) (o := .cells #[.int .i64 a2_0, .int .i64 a2_1, .int .i64 a2_2, .slice A2_3 l2_3.length c2_3] 28 (0, 0)) (uK BK338) hb)
             have n8_ := Aside0.mk (blk_below (g := gb346) (o := .cells #[.slice Ao51 y343.length co51] 31 (0, 0)) (uK BK346) hb)
             have n9_ := Aside0.mk (blk_below (g := gb351) (o := .cells #[.int .i64 t347, .slice Ao64 t348.length co64] 34 (0, 0)) (uK BK351) hb)
             have n10_ := Aside0.mk (below_step (uB4 HB GE337 GE338 GE346 GE351) hb)
             clear HO345
             clear HO350
             clear HO362
             clear HO366
             clear HO371
             clear BK337
             clear BK338
             clear BK346
             clear BK351
             clear HB
             have HO345 := n0_
             have HO350 := n1_
             have HO362 := n2_
             have HO366 := n3_
             have HO371 := n4_
             have HO375 := n5_
             have BK337 := n6_
             have BK338 := n7_
             have BK346 := n8_
             have BK351 := n9_
             have HB := n10_
             clear n0_ n1_ n2_ n3_ n4_ n5_ n6_ n7_ n8_ n9_ n10_
             (try clear hb)
             (try clear hb2)
             (try clear hk)
             (try clear hi)
             (try clear ho0)
             obtain ⟨Ao82, co82, eo82⟩ := Kd.R_slice HO371.out
             (first | subst eo82 | (injection eo82 with f1_ f2_ f3_; have f4_ := f1_.symm; have f5_ := f3_.symm; clear f1_ f2_ f3_; subst f4_; subst f5_))
             obtain ⟨Ao83, co83, eo83⟩ := Kd.V_slice HO375.out
             (first | subst eo83 | (injection eo83 with f1_ f2_ f3_; have f4_ := f1_.symm; have f5_ := f3_.symm; clear f1_ f2_ f3_; subst f4_; subst f5_))
             refine hK.out _ _ ⟨(blk_cell BK346.out 0).trans rfl, (blk_cell BK351.out 0).trans rfl, (blk_cell BK351.out 1).trans rfl, (blk_cell BK338.out 0).trans rfl, (blk_cell BK338.out 1).trans rfl, (blk_cell BK338.out 2).trans rfl, (blk_cell BK338.out 3).trans rfl, (blk_cell BK337.out 0).trans rfl, (blk_cell BK337.out 1).trans rfl⟩ (fun hHeld => ?_)
             clear hK K
             refine norm_ (a' := ?_) ?_ ?_
             rotate_left
             ·show Act.put _ (some 86) _ = _
              exact uP
             refine one_ (i := 28) (N := some 87) #[true, true, true, true, true, true, true, true, true, true, true, true, true, true, true, true, true, true, true, true, true, true, true, true, true, true, true, true, true, false, false, false, false, false, false, false, false, false, false, false, false, false, false, false, false, false, false, false, false, false, false, false, false, false, false, false, false, false, false, false, false, false, false, false, false, false, false] rfl rfl (one_of HT_.out (by kernel_rfl)) (by decide) (fun K hK => ?_)
             refine goes_ Tryd.func16 (by kernel_rfl) rfl #[.agg #[.int .i64 t368, .slice Ao82 t369.length co82], .agg #[.int .i64 t372, .slice Ao83 t373.length co83]] (by rfl) rfl rfl uC ?_
             with_reducible refine (colloquylaw20_isMon.calls kj3 t368 _ _ t369 t372 _ _ t373 true _ ?side1 ?side2 ?side3 ?side4 A35.out).mono ?_
             (case side1 => exact uS (Kd.R_reads' HO371.out).2.2)
             (case side2 => exact (Kd.R_reads' HO371.out).2.1)
             (case side3 => exact uS (Kd.V_reads' HO375.out).2.2)
             (case side4 => exact (Kd.V_reads' HO375.out).2.1)
             rintro e w84 ⟨rfl, hb⟩
             refine ⟨_, rfl, ?_⟩
             have n0_ := Aside0.mk (Kd.R_below (uR HO345) hb)
             have n1_ := Aside0.mk (Kd.R_below (uR HO350) hb)
             have n2_ := Aside0.mk (Kd.R_below (uR HO362) hb)
             have n3_ := Aside0.mk (Kd.V_below (uV HO366) hb)
             have n4_ := Aside0.mk (Kd.R_below (uR HO371) hb)
             have n5_ := Aside0.mk (Kd.V_below (uV HO375) hb)
             have n6_ := Aside0.mk (blk_below (g := gb337) (o := .cells #[.int .i64 a1_0, .slice A1_1 l1_1.length c1_1] 25 (0, 0)) (uK BK337) hb)
             have n7_ := Aside0.mk (blk_below (g := gb338) (o := .cells #[.int .i64 a2_0, .int .i64 a2_1, .int .i64 a2_2, .slice A2_3 l2_3.length c2_3] 28 (0, 0)) (uK BK338) hb)
             have n8_ := Aside0.mk (blk_below (g := gb346) (o := .cells #[.slice Ao51 y343.length co51] 31 (0, 0)) (uK BK346) hb)
             have n9_ := Aside0.mk (blk_below (g := gb351) (o := .cells #[.int .i64 t347, .slice Ao64 t348.length co64] 34 (0, 0)) (uK BK351) hb)
             have n10_ := Aside0.mk (below_step (uB4 HB GE337 GE338 GE346 GE351) hb)
             clear HO345
             clear HO350
             clear HO362
             clear HO366
             clear HO371
             clear HO375
             clear BK337
             clear BK338
             clear BK346
             clear BK351
             clear HB
             have HO345 := n0_
             have HO350 := n1_
             have HO362 := n2_
             have HO366 := n3_
             have HO371 := n4_
             have HO375 := n5_
             have BK337 := n6_
             have BK338 := n7_
             have BK346 := n8_
             have BK351 := n9_
             have HB := n10_
             clear n0_ n1_ n2_ n3_ n4_ n5_ n6_ n7_ n8_ n9_ n10_
             (try clear hb)
             (try clear hb2)
             (try clear hk)
             (try clear hi)
             refine hK.out _ _ ⟨(blk_cell BK346.out 0).trans rfl, (blk_cell BK351.out 0).trans rfl, (blk_cell BK351.out 1).trans rfl, (blk_cell BK338.out 0).trans rfl, (blk_cell BK338.out 1).trans rfl, (blk_cell BK338.out 2).trans rfl, (blk_cell BK338.out 3).trans rfl, (blk_cell BK337.out 0).trans rfl, (blk_cell BK337.out 1).trans rfl⟩ (fun hHeld => ?_)
             clear hK K
             refine norm_ (a' := ?_) ?_ ?_
             rotate_left
             ·show Act.put _ (some 87) _ = _
              exact uP
             refine pure_ (i := 29) (N := some 88) (v := ?_) (a' := ?_) #[true, true, true, true, true, true, true, true, true, true, true, true, true, true, true, true, true, true, true, true, true, true, true, true, true, true, true, true, true, true, false, false, false, false, false, false, false, false, false, false, false, false, false, false, false, false, false, false, false, false, false, false, false, false, false, false, false, false, false, false, false, false, false, false, false, false, false] rfl rfl (any_of HT_.out (by kernel_rfl)) (fun _ _ _ h => h) (Or.inl ⟨by rfl, ?_⟩) ?_ ?_
             rotate_left
             ·intro w'
              go_simp
              with_reducible rfl
             rotate_left
             ·simp only [Act.put, List.setIfInBounds_toArray, List.set_cons_zero, List.set_cons_succ, i64_w, i32_w]
              rfl
             refine pure_ (i := 30) (N := some 89) (v := ?_) (a' := ?_) #[true, true, true, true, true, true, true, true, true, true, true, true, true, true, true, true, true, true, true, true, true, true, true, true, true, true, true, true, true, true, true, false, false, false, false, false, false, false, false, false, false, false, false, false, false, false, false, false, false, false, false, false, false, false, false, false, false, false, false, false, false, false, false, false, false, false, false] rfl rfl (any_of HT_.out (by kernel_rfl)) (fun _ _ _ h => h) (Or.inl ⟨by rfl, ?_⟩) ?_ ?_
             rotate_left
             ·intro w'
              go_simp
              with_reducible rfl
             rotate_left
             ·simp only [Act.put, List.setIfInBounds_toArray, List.set_cons_zero, List.set_cons_succ, i64_w, i32_w]
              rfl
             refine pure_ (i := 32) (N := some 91) (v := ?_) (a' := ?_) #[true, true, true, true, true, true, true, true, true, true, true, true, true, true, true, true, true, true, true, true, true, true, true, true, true, true, true, true, true, true, true, false, true, false, false, false, false, false, false, false, false, false, false, false, false, false, false, false, false, false, false, false, false, false, false, false, false, false, false, false, false, false, false, false, false, false, false] rfl rfl (any_of HT_.out (by kernel_rfl)) (fun _ _ _ h => h) (Or.inl ⟨by rfl, ?_⟩) ?_ ?_
             rotate_left
             ·intro w'
              go_simp
              with_reducible rfl
             rotate_left
             ·simp only [Act.put, List.setIfInBounds_toArray, List.set_cons_zero, List.set_cons_succ, i64_w, i32_w]
              rfl
             refine pure_ (i := 37) (N := some 96) (v := ?_) (a' := ?_) #[true, true, true, true, true, true, true, true, true, true, true, true, true, true, true, true, true, true, true, true, true, true, true, true, true, true, true, true, true, true, true, false, true, false, false, false, false, true, false, false, false, false, false, false, false, false, false, false, false, false, false, false, false, false, false, false, false, false, false, false, false, false, false, false, false, false, false] rfl rfl (any_of HT_.out (by kernel_rfl)) (fun _ _ _ h => h) (Or.inl ⟨by rfl, ?_⟩) ?_ ?_
             rotate_left
             ·intro w'
              go_simp
              with_reducible rfl
             rotate_left
             ·simp only [Act.put, List.setIfInBounds_toArray, List.set_cons_zero, List.set_cons_succ, i64_w, i32_w]
              rfl
             refine take_ (i := 31) (N := some 90) (v := ?_) (a' := ?_) #[true, true, true, true, true, true, true, true, true, true, true, true, true, true, true, true, true, true, true, true, true, true, true, true, true, true, true, true, true, true, true, true, true, false, false, false, false, true, false, false, false, false, false, false, false, false, false, false, false, false, false, false, false, false, false, false, false, false, false, false, false, false, false, false, false, false, false] rfl rfl (take_ofW HT_.out HW_.out (by kernel_rfl)) (fun _ _ _ h => h) (Or.inl ⟨by rfl, ?_⟩) hHeld ?_ ?_
             rotate_left
             ·rintro w' ⟨s0, s1, s2, s3, s4, s5, s6, s7, s8⟩
              go_simp
              with_reducible rfl
             rotate_left
             ·simp only [Act.put, List.setIfInBounds_toArray, List.set_cons_zero, List.set_cons_succ, i64_w, i32_w]
              rfl
             refine take_ (i := 33) (N := some 92) (v := ?_) (a' := ?_) #[true, true, true, true, true, true, true, true, true, true, true, true, true, true, true, true, true, true, true, true, true, true, true, true, true, true, true, true, true, true, true, true, true, true, false, false, false, true, false, false, false, false, false, false, false, false, false, false, false, false, false, false, false, false, false, false, false, false, false, false, false, false, false, false, false, false, false] rfl rfl (take_ofW HT_.out HW_.out (by kernel_rfl)) (fun _ _ _ h => h) (Or.inl ⟨by rfl, ?_⟩) hHeld ?_ ?_
             rotate_left
             ·rintro w' ⟨s0, s1, s2, s3, s4, s5, s6, s7, s8⟩
              go_simp
              with_reducible rfl
             rotate_left
             ·simp only [Act.put, List.setIfInBounds_toArray, List.set_cons_zero, List.set_cons_succ, i64_w, i32_w]
              rfl
             refine take_ (i := 36) (N := some 95) (v := ?_) (a' := ?_) #[true, true, true, true, true, true, true, true, true, true, true, true, true, true, true, true, true, true, true, true, true, true, true, true, true, true, true, true, true, true, true, true, true, true, false, false, true, true, false, false, false, false, false, false, false, false, false, false, false, false, false, false, false, false, false, false, false, false, false, false, false, false, false, false, false, false, false] rfl rfl (take_ofW HT_.out HW_.out (by kernel_rfl)) (fun _ _ _ h => h) (Or.inl ⟨by rfl, ?_⟩) hHeld ?_ ?_
             rotate_left
             ·rintro w' ⟨s0, s1, s2, s3, s4, s5, s6, s7, s8⟩
              go_simp
              with_reducible rfl
             rotate_left
             ·simp only [Act.put, List.setIfInBounds_toArray, List.set_cons_zero, List.set_cons_succ, i64_w, i32_w]
              rfl
             refine take_ (i := 38) (N := some 97) (v := ?_) (a' := ?_) #[true, true, true, true, true, true, true, true, true, true, true, true, true, true, true, true, true, true, true, true, true, true, true, true, true, true, true, true, true, true, true, true, true, true, false, false, true, true, true, false, false, false, false, false, false, false, false, false, false, false, false, false, false, false, false, false, false, false, false, false, false, false, false, false, false, false, false] rfl rfl (take_ofW HT_.out HW_.out (by kernel_rfl)) (fun _ _ _ h => h) (Or.inl ⟨by rfl, ?_⟩) hHeld ?_ ?_
             rotate_left
             ·rintro w' ⟨s0, s1, s2, s3, s4, s5, s6, s7, s8⟩
              go_simp
              with_reducible rfl
             rotate_left
             ·simp only [Act.put, List.setIfInBounds_toArray, List.set_cons_zero, List.set_cons_succ, i64_w, i32_w]
              rfl
             refine one_ (i := 34) (N := some 93) #[true, true, true, true, true, true, true, true, true, true, true, true, true, true, true, true, true, true, true, true, true, true, true, true, true, true, true, true, true, true, true, true, true, true, true, false, true, true, true, false, false, false, false, false, false, false, false, false, false, false, false, false, false, false, false, false, false, false, false, false, false, false, false, false, false, false, false] rfl rfl (one_of HT_.out (by kernel_rfl)) (by decide) (fun K hK => ?_)
             refine goes_ Tryd.func21 (by kernel_rfl) rfl #[.agg #[.int .i64 t347, .slice Ao64 t348.length co64], .int .i64 a2_2] (by rfl) rfl rfl uC ?_
             with_reducible refine (mon_Take.calls t347 _ _ t348 a2_2 t377 _ ?side1 ?side2 A37.out).mono ?_
             (case side1 => exact uS (Kd.R_reads' HO350.out).2.2)
             (case side2 => exact (Kd.R_reads' HO350.out).2.1)
             rintro e w85 ⟨rfl, hb⟩
             refine ⟨_, rfl, ?_⟩
             have n0_ := Aside0.mk (Kd.R_below (uR HO345) hb)
             have n1_ := Aside0.mk (Kd.R_below (uR HO350) hb)
             have n2_ := Aside0.mk (Kd.R_below (uR HO362) hb)
             have n3_ := Aside0.mk (Kd.V_below (uV HO366) hb)
             have n4_ := Aside0.mk (Kd.R_below (uR HO371) hb)
             have n5_ := Aside0.mk (Kd.V_below (uV HO375) hb)
             have n6_ := Aside0.mk (blk_below (g := gb337) (o := .cells #[.int .i64 a1_0, .slice A1_1 l1_1.length c1_1] 25 (0, 0)) (uK BK337) hb)
             have n7_ := Aside0.mk (blk_below (g := gb338) (o := .cells #[.int .i64 a2_0, .int .i64 a2_1, .int .i64 a2_2, .slice A2_3 l2_3.length c2_3] 28 (0, 0)) (uK BK338) hb)
             have n8_ := Aside0.mk (blk_below (g := gb346) (o := .cells #[.slice Ao51 y343.length co51] 31 (0, 0)) (uK BK346) hb)
             have n9_ := Aside0.mk (blk_below (g := gb351) (o := .cells #[.int .i64 t347, .slice Ao64 t348.length co64] 34 (0, 0)) (uK BK351) hb)
             have n10_ := Aside0.mk (below_step (uB4 HB GE337 GE338 GE346 GE351) hb)
             clear HO345
             clear HO350
             clear HO362
             clear HO366
             clear HO371
             clear HO375
             clear BK337
             clear BK338
             clear BK346
             clear BK351
             clear HB
             have HO345 := n0_
             have HO350 := n1_
             have HO362 := n2_
             have HO366 := n3_
             have HO371 := n4_
             have HO375 := n5_
             have BK337 := n6_
             have BK338 := n7_
             have BK346 := n8_
             have BK351 := n9_
             have HB := n10_
             clear n0_ n1_ n2_ n3_ n4_ n5_ n6_ n7_ n8_ n9_ n10_
             (try clear hb)
             (try clear hb2)
             (try clear hk)
             (try clear hi)
             (try simp only [errW_none, errW_some])
             have CA38 := fun W hg_ => colloquylaw20_num.calls t377 t378 W hg_ A38.out
             refine hK.out _ _ ⟨(blk_cell BK346.out 0).trans rfl, (blk_cell BK351.out 0).trans rfl, (blk_cell BK351.out 1).trans rfl, (blk_cell BK338.out 0).trans rfl, (blk_cell BK338.out 1).trans rfl, (blk_cell BK338.out 2).trans rfl, (blk_cell BK338.out 3).trans rfl, (blk_cell BK337.out 0).trans rfl, (blk_cell BK337.out 1).trans rfl⟩ (fun hHeld => ?_)
             clear hK K
             refine norm_ (a' := ?_) ?_ ?_
             rotate_left
             ·show Act.put _ (some 93) _ = _
              exact uP
             refine one_ (i := 35) (N := some 94) #[true, true, true, true, true, true, true, true, true, true, true, true, true, true, true, true, true, true, true, true, true, true, true, true, true, true, true, true, true, true, true, true, true, true, true, true, true, true, true, false, false, false, false, false, false, false, false, false, false, false, false, false, false, false, false, false, false, false, false, false, false, false, false, false, false, false, false] rfl rfl (one_of HT_.out (by kernel_rfl)) (by decide) (fun K hK => ?_)
             refine goes_ Tryd.func9 (by kernel_rfl) rfl #[errW t377] (by rfl) rfl rfl uC ?_
             with_reducible refine (CA38 _ ?side1).mono ?_
             (case side1 => exact HG.out.below (uB4 HB GE337 GE338 GE346 GE351))
             rintro e w86 ⟨rfl, hb⟩
             refine ⟨_, rfl, ?_⟩
             have n0_ := Aside0.mk (Kd.R_below (uR HO345) hb)
             have n1_ := Aside0.mk (Kd.R_below (uR HO350) hb)
             have n2_ := Aside0.mk (Kd.R_below (uR HO362) hb)
             have n3_ := Aside0.mk (Kd.V_below (uV HO366) hb)
             have n4_ := Aside0.mk (Kd.R_below (uR HO371) hb)
             have n5_ := Aside0.mk (Kd.V_below (uV HO375) hb)
             have n6_ := Aside0.mk (blk_below (g := gb337) (o := .cells #[.int .i64 a1_0, .slice A1_1 l1_1.length c1_1] 25 (0, 0)) (uK BK337) hb)
             have n7_ := Aside0.mk (blk_below (g := gb338) (o := .cells #[.int .i64 a2_0, .int .i64 a2_1, .int .i64 a2_2, .slice A2_3 l2_3.length c2_3] 28 (0, 0)) (uK BK338) hb)
             have n8_ := Aside0.mk (blk_below (g := gb346) (o := .cells #[.slice Ao51 y343.length co51] 31 (0, 0)) (uK BK346) hb)
             have n9_ := Aside0.mk (blk_below (g := gb351) (o := .cells #[.int .i64 t347, .slice Ao64 t348.length co64] 34 (0, 0)) (uK BK351) hb)
             have n10_ := Aside0.mk (below_step (uB4 HB GE337 GE338 GE346 GE351) hb)
             clear HO345
             clear HO350
             clear HO362
             clear HO366
             clear HO371
             clear HO375
             clear BK337
             clear BK338
             clear BK346
             clear BK351
             clear HB
             have HO345 := n0_
             have HO350 := n1_
             have HO362 := n2_
             have HO366 := n3_
             have HO371 := n4_
             have HO375 := n5_
             have BK337 := n6_
             have BK338 := n7_
             have BK346 := n8_
             have BK351 := n9_
             have HB := n10_
             clear n0_ n1_ n2_ n3_ n4_ n5_ n6_ n7_ n8_ n9_ n10_
             (try clear hb)
             (try clear hb2)
             (try clear hk)
             (try clear hi)
             refine hK.out _ _ ⟨(blk_cell BK346.out 0).trans rfl, (blk_cell BK351.out 0).trans rfl, (blk_cell BK351.out 1).trans rfl, (blk_cell BK338.out 0).trans rfl, (blk_cell BK338.out 1).trans rfl, (blk_cell BK338.out 2).trans rfl, (blk_cell BK338.out 3).trans rfl, (blk_cell BK337.out 0).trans rfl, (blk_cell BK337.out 1).trans rfl⟩ (fun hHeld => ?_)
             clear hK K
             refine norm_ (a' := ?_) ?_ ?_
             rotate_left
             ·show Act.put _ (some 94) _ = _
              exact uP
             refine one_ (i := 39) (N := some 98) #[true, true, true, true, true, true, true, true, true, true, true, true, true, true, true, true, true, true, true, true, true, true, true, true, true, true, true, true, true, true, true, true, true, true, true, true, true, true, true, true, false, false, false, false, false, false, false, false, false, false, false, false, false, false, false, false, false, false, false, false, false, false, false, false, false, false, false] rfl rfl (one_of HT_.out (by kernel_rfl)) (by decide) (fun K hK => ?_)
             refine goes_ Tryd.func22 (by kernel_rfl) rfl #[.agg #[.int .i64 a1_0, .slice A1_1 l1_1.length c1_1], .int .i64 a2_2] (by rfl) rfl rfl uC ?_
             with_reducible refine (colloquyref20_Take.calls a1_0 _ _ l1_1 a2_2 t379 _ ?side1 ?side2 A39.out).mono ?_
             (case side1 => exact uS (Kd.C_below HR1_1.out HB.out))
             (case side2 => exact HC1_1.out)
             rintro e w87 ⟨rfl, hb⟩
             refine ⟨_, rfl, ?_⟩
             have n0_ := Aside0.mk (Kd.R_below (uR HO345) hb)
             have n1_ := Aside0.mk (Kd.R_below (uR HO350) hb)
             have n2_ := Aside0.mk (Kd.R_below (uR HO362) hb)
             have n3_ := Aside0.mk (Kd.V_below (uV HO366) hb)
             have n4_ := Aside0.mk (Kd.R_below (uR HO371) hb)
             have n5_ := Aside0.mk (Kd.V_below (uV HO375) hb)
             have n6_ := Aside0.mk (blk_below (g := gb337) (o := .cells #[.int .i64 a1_0, .slice A1_1 l1_1.length c1_1] 25 (0, 0)) (uK BK337) hb)
             have n7_ := Aside0.mk (blk_below (g := gb338) (o := .cells #[.int .i64 a2_0, .int .i64 a2_1, .int .i64 a2_2, .slice A2_3 l2_3.length c2_3] 28 (0, 0)) (uK BK338) hb)
             have n8_ := Aside0.mk (blk_below (g := gb346) (o := .cells #[.slice Ao51 y343.length co51] 31 (0, 0)) (uK BK346) hb)
             have n9_ := Aside0.mk (blk_below (g := gb351) (o := .cells #[.int .i64 t347, .slice Ao64 t348.length co64] 34 (0, 0)) (uK BK351) hb)
             have n10_ := Aside0.mk (below_step (uB4 HB GE337 GE338 GE346 GE351) hb)
             clear HO345
             clear HO350
             clear HO362
             clear HO366
             clear HO371
             clear HO375
             clear BK337
             clear BK338
             clear BK346
             clear BK351
             clear HB
             have HO345 := n0_
             have HO350 := n1_
             have HO362 := n2_
             have HO366 := n3_
             have HO371 := n4_
             have HO375 := n5_
             have BK337 := n6_
             have BK338 := n7_
             have BK346 := n8_
             have BK351 := n9_
             have HB := n10_
             clear n0_ n1_ n2_ n3_ n4_ n5_ n6_ n7_ n8_ n9_ n10_
             (try clear hb)
             (try clear hb2)
             (try clear hk)
             (try clear hi)
             refine hK.out _ _ ⟨(blk_cell BK346.out 0).trans rfl, (blk_cell BK351.out 0).trans rfl, (blk_cell BK351.out 1).trans rfl, (blk_cell BK338.out 0).trans rfl, (blk_cell BK338.out 1).trans rfl, (blk_cell BK338.out 2).trans rfl, (blk_cell BK338.out 3).trans rfl, (blk_cell BK337.out 0).trans rfl, (blk_cell BK337.out 1).trans rfl⟩ (fun hHeld => ?_)
             clear hK K
             refine norm_ (a' := ?_) ?_ ?_
             rotate_left
             ·show Act.put _ (some 98) _ = _
              exact uP
             refine pure_ (i := 40) (N := some 99) (v := ?_) (a' := ?_) #[true, true, true, true, true, true, true, true, true, true, true, true, true, true, true, true, true, true, true, true, true, true, true, true, true, true, true, true, true, true, true, true, true, true, true, true, true, true, true, true, true, false, false, false, false, false, false, false, false, false, false, false, false, false, false, false, false, false, false, false, false, false, false, false, false, false, false] rfl rfl (any_of HT_.out (by kernel_rfl)) (fun _ _ _ h => h) (Or.inl ⟨by rfl, ?_⟩) ?_ ?_
             rotate_left
             ·intro w'
              go_simp
              with_reducible rfl
             rotate_left
             ·simp only [Act.put, List.setIfInBounds_toArray, List.set_cons_zero, List.set_cons_succ, i64_w, i32_w]
              rfl
             refine pure_ (i := 41) (N := some 100) (v := ?_) (a' := ?_) #[true, true, true, true, true, true, true, true, true, true, true, true, true, true, true, true, true, true, true, true, true, true, true, true, true, true, true, true, true, true, true, true, true, true, true, true, true, true, true, true, true, true, false, false, false, false, false, false, false, false, false, false, false, false, false, false, false, false, false, false, false, false, false, false, false, false, false] rfl rfl (any_of HT_.out (by kernel_rfl)) (fun _ _ _ h => h) (Or.inl ⟨by rfl, ?_⟩) ?_ ?_
             rotate_left
             ·intro w'
              go_simp
              with_reducible rfl
             rotate_left
             ·simp only [Act.put, List.setIfInBounds_toArray, List.set_cons_zero, List.set_cons_succ, i64_w, i32_w]
              rfl
             refine pure_ (i := 42) (N := some 101) (v := ?_) (a' := ?_) #[true, true, true, true, true, true, true, true, true, true, true, true, true, true, true, true, true, true, true, true, true, true, true, true, true, true, true, true, true, true, true, true, true, true, true, true, true, true, true, true, true, true, true, false, false, false, false, false, false, false, false, false, false, false, false, false, false, false, false, false, false, false, false, false, false, false, false] rfl rfl (any_of HT_.out (by kernel_rfl)) (fun _ _ _ h => h) (Or.inl ⟨by rfl, ?_⟩) ?_ ?_
             rotate_left
             ·intro w'
              go_simp
              with_reducible rfl
             rotate_left
             ·simp only [Act.put, List.setIfInBounds_toArray, List.set_cons_zero, List.set_cons_succ, i64_w, i32_w]
              rfl
             refine pure_ (i := 44) (N := some 103) (v := ?_) (a' := ?_) #[true, true, true, true, true, true, true, true, true, true, true, true, true, true, true, true, true, true, true, true, true, true, true, true, true, true, true, true, true, true, true, true, true, true, true, true, true, true, true, true, true, true, true, false, true, false, false, false, false, false, false, false, false, false, false, false, false, false, false, false, false, false, false, false, false, false, false] rfl rfl (any_of HT_.out (by kernel_rfl)) (fun _ _ _ h => h) (Or.inl ⟨by rfl, ?_⟩) ?_ ?_
             rotate_left
             ·intro w'
              go_simp
              with_reducible rfl
             rotate_left
             ·simp only [Act.put, List.setIfInBounds_toArray, List.set_cons_zero, List.set_cons_succ, i64_w, i32_w]
              rfl
             refine pure_ (i := 46) (N := some 105) (v := ?_) (a' := ?_) #[true, true, true, true, true, true, true, true, true, true, true, true, true, true, true, true, true, true, true, true, true, true, true, true, true, true, true, true, true, true, true, true, true, true, true, true, true, true, true, true, true, true, true, false, true, false, true, false, false, false, false, false, false, false, false, false, false, false, false, false, false, false, false, false, false, false, false] rfl rfl (any_of HT_.out (by kernel_rfl)) (fun _ _ _ h => h) (Or.inl ⟨by rfl, ?_⟩) ?_ ?_
             rotate_left
             ·intro w'
              go_simp
              with_reducible rfl
             rotate_left
             ·simp only [Act.put, List.setIfInBounds_toArray, List.set_cons_zero, List.set_cons_succ, i64_w, i32_w]
              rfl
             refine pure_ (i := 50) (N := some 109) (v := ?_) (a' := ?_) #[true, true, true, true, true, true, true, true, true, true, true, true, true, true, true, true, true, true, true, true, true, true, true, true, true, true, true, true, true, true, true, true, true, true, true, true, true, true, true, true, true, true, true, false, true, false, true, false, false, false, true, false, false, false, false, false, false, false, false, false, false, false, false, false, false, false, false] rfl rfl (any_of HT_.out (by kernel_rfl)) (fun _ _ _ h => h) (Or.inl ⟨by rfl, ?_⟩) ?_ ?_
             rotate_left
             ·intro w'
              go_simp
              with_reducible rfl
             rotate_left
             ·simp only [Act.put, List.setIfInBounds_toArray, List.set_cons_zero, List.set_cons_succ, i64_w, i32_w]
              rfl
             refine pure_ (i := 51) (N := some 110) (v := ?_) (a' := ?_) #[true, true, true, true, true, true, true, true, true, true, true, true, true, true, true, true, true, true, true, true, true, true, true, true, true, true, true, true, true, true, true, true, true, true, true, true, true, true, true, true, true, true, true, false, true, false, true, false, false, false, true, true, false, false, false, false, false, false, false, false, false, false, false, false, false, false, false] rfl rfl (any_of HT_.out (by kernel_rfl)) (fun _ _ _ h => h) (Or.inl ⟨by rfl, ?_⟩) ?_ ?_
             rotate_left
             ·intro w'
              go_simp
              with_reducible rfl
             rotate_left
             ·simp only [Act.put, List.setIfInBounds_toArray, List.set_cons_zero, List.set_cons_succ, i64_w, i32_w]
              rfl
             refine pure_ (i := 53) (N := some 112) (v := ?_) (a' := ?_) #[true, true, true, true, true, true, true, true, true, true, true, true, true, true, true, true, true, true, true, true, true, true, true, true, true, true, true, true, true, true, true, true, true, true, true, true, true, true, true, true, true, true, true, false, true, false, true, false, false, false, true, true, false, true, false, false, false, false, false, false, false, false, false, false, false, false, false] rfl rfl (any_of HT_.out (by kernel_rfl)) (fun _ _ _ h => h) (Or.inl ⟨by rfl, ?_⟩) ?_ ?_
             rotate_left
             ·intro w'
              go_simp
              with_reducible rfl
             rotate_left
             ·simp only [Act.put, List.setIfInBounds_toArray, List.set_cons_zero, List.set_cons_succ, i64_w, i32_w]
              rfl
             refine take_ (i := 43) (N := some 102) (v := ?_) (a' := ?_) #[true, true, true, true, true, true, true, true, true, true, true, true, true, true, true, true, true, true, true, true, true, true, true, true, true, true, true, true, true, true, true, true, true, true, true, true, true, true, true, true, true, true, true, true, true, false, true, false, false, false, true, true, false, true, false, false, false, false, false, false, false, false, false, false, false, false, false] rfl rfl (take_ofW HT_.out HW_.out (by kernel_rfl)) (fun _ _ _ h => h) (Or.inl ⟨by rfl, ?_⟩) hHeld ?_ ?_
             rotate_left
             ·rintro w' ⟨s0, s1, s2, s3, s4, s5, s6, s7, s8⟩
              go_simp
              with_reducible rfl
             rotate_left
             ·simp only [Act.put, List.setIfInBounds_toArray, List.set_cons_zero, List.set_cons_succ, i64_w, i32_w]
              rfl
             refine take_ (i := 45) (N := some 104) (v := ?_) (a' := ?_) #[true, true, true, true, true, true, true, true, true, true, true, true, true, true, true, true, true, true, true, true, true, true, true, true, true, true, true, true, true, true, true, true, true, true, true, true, true, true, true, true, true, true, true, true, true, true, true, false, false, false, true, true, false, true, false, false, false, false, false, false, false, false, false, false, false, false, false] rfl rfl (take_ofW HT_.out HW_.out (by kernel_rfl)) (fun _ _ _ h => h) (Or.inl ⟨by rfl, ?_⟩) hHeld ?_ ?_
             rotate_left
             ·rintro w' ⟨s0, s1, s2, s3, s4, s5, s6, s7, s8⟩
              go_simp
              with_reducible rfl
             rotate_left
             ·simp only [Act.put, List.setIfInBounds_toArray, List.set_cons_zero, List.set_cons_succ, i64_w, i32_w]
              rfl
             refine take_ (i := 47) (N := some 106) (v := ?_) (a' := ?_) #[true, true, true, true, true, true, true, true, true, true, true, true, true, true, true, true, true, true, true, true, true, true, true, true, true, true, true, true, true, true, true, true, true, true, true, true, true, true, true, true, true, true, true, true, true, true, true, true, false, false, true, true, false, true, false, false, false, false, false, false, false, false, false, false, false, false, false] rfl rfl (take_ofW HT_.out HW_.out (by kernel_rfl)) (fun _ _ _ h => h) (Or.inl ⟨by rfl, ?_⟩) hHeld ?_ ?_
             rotate_left
             ·rintro w' ⟨s0, s1, s2, s3, s4, s5, s6, s7, s8⟩
              go_simp
              with_reducible rfl
             rotate_left
             ·simp only [Act.put, List.setIfInBounds_toArray, List.set_cons_zero, List.set_cons_succ, i64_w, i32_w]
              rfl
             refine take_ (i := 52) (N := some 111) (v := ?_) (a' := ?_) #[true, true, true, true, true, true, true, true, true, true, true, true, true, true, true, true, true, true, true, true, true, true, true, true, true, true, true, true, true, true, true, true, true, true, true, true, true, true, true, true, true, true, true, true, true, true, true, true, false, false, true, true, true, true, false, false, false, false, false, false, false, false, false, false, false, false, false] rfl rfl (take_ofW HT_.out HW_.out (by kernel_rfl)) (fun _ _ _ h => h) (Or.inl ⟨by rfl, ?_⟩) hHeld ?_ ?_
             rotate_left
             ·rintro w' ⟨s0, s1, s2, s3, s4, s5, s6, s7, s8⟩
              go_simp
              with_reducible rfl
             rotate_left
             ·simp only [Act.put, List.setIfInBounds_toArray, List.set_cons_zero, List.set_cons_succ, i64_w, i32_w]
              rfl
             refine take_ (i := 54) (N := some 113) (v := ?_) (a' := ?_) #[true, true, true, true, true, true, true, true, true, true, true, true, true, true, true, true, true, true, true, true, true, true, true, true, true, true, true, true, true, true, true, true, true, true, true, true, true, true, true, true, true, true, true, true, true, true, true, true, false, false, true, true, true, true, true, false, false, false, false, false, false, false, false, false, false, false, false] rfl rfl (take_ofW HT_.out HW_.out (by kernel_rfl)) (fun _ _ _ h => h) (Or.inl ⟨by rfl, ?_⟩) hHeld ?_ ?_
             rotate_left
             ·rintro w' ⟨s0, s1, s2, s3, s4, s5, s6, s7, s8⟩
              go_simp
              with_reducible rfl
             rotate_left
             ·simp only [Act.put, List.setIfInBounds_toArray, List.set_cons_zero, List.set_cons_succ, i64_w, i32_w]
              rfl
             refine one_ (i := 48) (N := some 107) #[true, true, true, true, true, true, true, true, true, true, true, true, true, true, true, true, true, true, true, true, true, true, true, true, true, true, true, true, true, true, true, true, true, true, true, true, true, true, true, true, true, true, true, true, true, true, true, true, true, false, true, true, true, true, true, false, false, false, false, false, false, false, false, false, false, false, false] rfl rfl (one_of HT_.out (by kernel_rfl)) (by decide) (fun K hK => ?_)
             refine goes_ Tryd.func23 (by kernel_rfl) rfl #[.agg #[.slice Ao51 y343.length co51], .int .i64 a2_1, .int .i64 a2_2] (by rfl) rfl rfl uC ?_
             with_reducible refine (mon_May.calls kj3 _ _ y343 a2_1 a2_2 t380 _ ?side1 ?side2 A41.out).mono ?_
             (case side1 => exact uS (Kd.R_reads' HO345.out).2.2)
             (case side2 => exact (Kd.R_reads' HO345.out).2.1)
             rintro e w88 ⟨rfl, hb⟩
             refine ⟨_, rfl, ?_⟩
             have n0_ := Aside0.mk (Kd.R_below (uR HO345) hb)
             have n1_ := Aside0.mk (Kd.R_below (uR HO350) hb)
             have n2_ := Aside0.mk (Kd.R_below (uR HO362) hb)
             have n3_ := Aside0.mk (Kd.V_below (uV HO366) hb)
             have n4_ := Aside0.mk (Kd.R_below (uR HO371) hb)
             have n5_ := Aside0.mk (Kd.V_below (uV HO375) hb)
             have n6_ := Aside0.mk (blk_below (g := gb337) (o := .cells #[.int .i64 a1_0, .slice A1_1 l1_1.length c1_1] 25 (0, 0)) (uK BK337) hb)
             have n7_ := Aside0.mk (blk_below (g := gb338) (o := .cells #[.int .i64 a2_0, .int .i64 a2_1, .int .i64 a2_2, .slice A2_3 l2_3.length c2_3] 28 (0, 0)) (uK BK338) hb)
             have n8_ := Aside0.mk (blk_below (g := gb346) (o := .cells #[.slice Ao51 y343.length co51] 31 (0, 0)) (uK BK346) hb)
             have n9_ := Aside0.mk (blk_below (g := gb351) (o := .cells #[.int .i64 t347, .slice Ao64 t348.length co64] 34 (0, 0)) (uK BK351) hb)
             have n10_ := Aside0.mk (below_step (uB4 HB GE337 GE338 GE346 GE351) hb)
             clear HO345
             clear HO350
             clear HO362
             clear HO366
             clear HO371
             clear HO375
             clear BK337
             clear BK338
             clear BK346
             clear BK351
             clear HB
             have HO345 := n0_
             have HO350 := n1_
             have HO362 := n2_
             have HO366 := n3_
             have HO371 := n4_
             have HO375 := n5_
             have BK337 := n6_
             have BK338 := n7_
             have BK346 := n8_
             have BK351 := n9_
             have HB := n10_
             clear n0_ n1_ n2_ n3_ n4_ n5_ n6_ n7_ n8_ n9_ n10_
             (try clear hb)
             (try clear hb2)
             (try clear hk)
             (try clear hi)
             (try simp only [errW_none, errW_some])
             have CA42 := fun W hg_ => colloquylaw20_num.calls t380 t381 W hg_ A42.out
             refine hK.out _ _ ⟨(blk_cell BK346.out 0).trans rfl, (blk_cell BK351.out 0).trans rfl, (blk_cell BK351.out 1).trans rfl, (blk_cell BK338.out 0).trans rfl, (blk_cell BK338.out 1).trans rfl, (blk_cell BK338.out 2).trans rfl, (blk_cell BK338.out 3).trans rfl, (blk_cell BK337.out 0).trans rfl, (blk_cell BK337.out 1).trans rfl⟩ (fun hHeld => ?_)
             clear hK K
             refine norm_ (a' := ?_) ?_ ?_
             rotate_left
             ·show Act.put _ (some 107) _ = _
              exact uP
             refine one_ (i := 49) (N := some 108) #[true, true, true, true, true, true, true, true, true, true, true, true, true, true, true, true, true, true, true, true, true, true, true, true, true, true, true, true, true, true, true, true, true, true, true, true, true, true, true, true, true, true, true, true, true, true, true, true, true, true, true, true, true, true, true, false, false, false, false, false, false, false, false, false, false, false, false] rfl rfl (one_of HT_.out (by kernel_rfl)) (by decide) (fun K hK => ?_)
             refine goes_ Tryd.func9 (by kernel_rfl) rfl #[errW t380] (by rfl) rfl rfl uC ?_
             with_reducible refine (CA42 _ ?side1).mono ?_
             (case side1 => exact HG.out.below (uB4 HB GE337 GE338 GE346 GE351))
             rintro e w89 ⟨rfl, hb⟩
             refine ⟨_, rfl, ?_⟩
             have n0_ := Aside0.mk (Kd.R_below (uR HO345) hb)
             have n1_ := Aside0.mk (Kd.R_below (uR HO350) hb)
             have n2_ := Aside0.mk (Kd.R_below (uR HO362) hb)
             have n3_ := Aside0.mk (Kd.V_below (uV HO366) hb)
             have n4_ := Aside0.mk (Kd.R_below (uR HO371) hb)
             have n5_ := Aside0.mk (Kd.V_below (uV HO375) hb)
             have n6_ := Aside0.mk (blk_below (g := gb337) (o := .cells #[.int .i64 a1_0, .slice A1_1 l1_1.length c1_1] 25 (0, 0)) (uK BK337) hb)
             have n7_ := Aside0.mk (blk_below (g := gb338) (o := .cells #[.int .i64 a2_0, .int .i64 a2_1, .int .i64 a2_2, .slice A2_3 l2_3.length c2_3] 28 (0, 0)) (uK BK338) hb)
             have n8_ := Aside0.mk (blk_below (g := gb346) (o := .cells #[.slice Ao51 y343.length co51] 31 (0, 0)) (uK BK346) hb)
             have n9_ := Aside0.mk (blk_below (g := gb351) (o := .cells #[.int .i64 t347, .slice Ao64 t348.length co64] 34 (0, 0)) (uK BK351) hb)
             have n10_ := Aside0.mk (below_step (uB4 HB GE337 GE338 GE346 GE351) hb)
             clear HO345
             clear HO350
             clear HO362
             clear HO366
             clear HO371
             clear HO375
             clear BK337
             clear BK338
             clear BK346
             clear BK351
             clear HB
             have HO345 := n0_
             have HO350 := n1_
             have HO362 := n2_
             have HO366 := n3_
             have HO371 := n4_
             have HO375 := n5_
             have BK337 := n6_
             have BK338 := n7_
             have BK346 := n8_
             have BK351 := n9_
             have HB := n10_
             clear n0_ n1_ n2_ n3_ n4_ n5_ n6_ n7_ n8_ n9_ n10_
             (try clear hb)
             (try clear hb2)
             (try clear hk)
             (try clear hi)
             refine hK.out _ _ ⟨(blk_cell BK346.out 0).trans rfl, (blk_cell BK351.out 0).trans rfl, (blk_cell BK351.out 1).trans rfl, (blk_cell BK338.out 0).trans rfl, (blk_cell BK338.out 1).trans rfl, (blk_cell BK338.out 2).trans rfl, (blk_cell BK338.out 3).trans rfl, (blk_cell BK337.out 0).trans rfl, (blk_cell BK337.out 1).trans rfl⟩ (fun hHeld => ?_)
             clear hK K
             refine norm_ (a' := ?_) ?_ ?_
             rotate_left
             ·show Act.put _ (some 108) _ = _
              exact uP
             refine one_ (i := 55) (N := some 114) #[true, true, true, true, true, true, true, true, true, true, true, true, true, true, true, true, true, true, true, true, true, true, true, true, true, true, true, true, true, true, true, true, true, true, true, true, true, true, true, true, true, true, true, true, true, true, true, true, true, true, true, true, true, true, true, true, false, false, false, false, false, false, false, false, false, false, false] rfl rfl (one_of HT_.out (by kernel_rfl)) (by decide) (fun K hK => ?_)
             refine goes_ Tryd.func24 (by kernel_rfl) rfl #[.slice A0 l0.length c0, .int .i64 a2_1, .int .i64 a2_2] (by rfl) rfl rfl uC ?_
             with_reducible refine (colloquyref20_May.calls kj3 _ _ l0 a2_1 a2_2 t382 _ ?side1 ?side2 A43.out).mono ?_
             (case side1 => exact uS (Kd.C_below HR0.out HB.out))
             (case side2 => exact HC0.out)
             rintro e w' ⟨rfl, ⟨nd, rfl⟩⟩
             refine ⟨_, rfl, ?_⟩
             refine hK.out _ _ ⟨(blk_cell BK346.out 0).trans rfl, (blk_cell BK351.out 0).trans rfl, (blk_cell BK351.out 1).trans rfl, (blk_cell BK338.out 0).trans rfl, (blk_cell BK338.out 1).trans rfl, (blk_cell BK338.out 2).trans rfl, (blk_cell BK338.out 3).trans rfl, (blk_cell BK337.out 0).trans rfl, (blk_cell BK337.out 1).trans rfl⟩ (fun hHeld => ?_)
             clear hK K
             refine norm_ (a' := ?_) ?_ ?_
             rotate_left
             ·show Act.put _ (some 114) _ = _
              exact uP
             refine pure_ (i := 56) (N := some 115) (v := ?_) (a' := ?_) #[true, true, true, true, true, true, true, true, true, true, true, true, true, true, true, true, true, true, true, true, true, true, true, true, true, true, true, true, true, true, true, true, true, true, true, true, true, true, true, true, true, true, true, true, true, true, true, true, true, true, true, true, true, true, true, true, true, false, false, false, false, false, false, false, false, false, false] rfl rfl (any_of HT_.out (by kernel_rfl)) (fun _ _ _ h => h) (Or.inl ⟨by rfl, ?_⟩) ?_ ?_
             rotate_left
             ·intro w'
              go_simp
              with_reducible rfl
             rotate_left
             ·simp only [Act.put, List.setIfInBounds_toArray, List.set_cons_zero, List.set_cons_succ, i64_w, i32_w]
              rfl
             refine pure_ (i := 57) (N := some 116) (v := ?_) (a' := ?_) #[true, true, true, true, true, true, true, true, true, true, true, true, true, true, true, true, true, true, true, true, true, true, true, true, true, true, true, true, true, true, true, true, true, true, true, true, true, true, true, true, true, true, true, true, true, true, true, true, true, true, true, true, true, true, true, true, true, true, false, false, false, false, false, false, false, false, false] rfl rfl (any_of HT_.out (by kernel_rfl)) (fun _ _ _ h => h) (Or.inl ⟨by rfl, ?_⟩) ?_ ?_
             rotate_left
             ·intro w'
              go_simp
              with_reducible rfl
             rotate_left
             ·simp only [Act.put, List.setIfInBounds_toArray, List.set_cons_zero, List.set_cons_succ, i64_w, i32_w]
              rfl
             refine pure_ (i := 58) (N := some 117) (v := ?_) (a' := ?_) #[true, true, true, true, true, true, true, true, true, true, true, true, true, true, true, true, true, true, true, true, true, true, true, true, true, true, true, true, true, true, true, true, true, true, true, true, true, true, true, true, true, true, true, true, true, true, true, true, true, true, true, true, true, true, true, true, true, true, true, false, false, false, false, false, false, false, false] rfl rfl (any_of HT_.out (by kernel_rfl)) (fun _ _ _ h => h) (Or.inl ⟨by rfl, ?_⟩) ?_ ?_
             rotate_left
             ·intro w'
              go_simp
              with_reducible rfl
             rotate_left
             ·simp only [Act.put, List.setIfInBounds_toArray, List.set_cons_zero, List.set_cons_succ, i64_w, i32_w]
              rfl
             refine take_ (i := 59) (N := some 118) (v := ?_) (a' := ?_) #[true, true, true, true, true, true, true, true, true, true, true, true, true, true, true, true, true, true, true, true, true, true, true, true, true, true, true, true, true, true, true, true, true, true, true, true, true, true, true, true, true, true, true, true, true, true, true, true, true, true, true, true, true, true, true, true, true, true, true, true, false, false, false, false, false, false, false] rfl rfl (take_ofW HT_.out HW_.out (by kernel_rfl)) (fun _ _ _ h => h) (Or.inl ⟨by rfl, ?_⟩) hHeld ?_ ?_
             rotate_left
             ·rintro w' ⟨s0, s1, s2, s3, s4, s5, s6, s7, s8⟩
              go_simp
              with_reducible rfl
             rotate_left
             ·simp only [Act.put, List.setIfInBounds_toArray, List.set_cons_zero, List.set_cons_succ, i64_w, i32_w]
              rfl
             refine take_ (i := 60) (N := some 119) (v := ?_) (a' := ?_) #[true, true, true, true, true, true, true, true, true, true, true, true, true, true, true, true, true, true, true, true, true, true, true, true, true, true, true, true, true, true, true, true, true, true, true, true, true, true, true, true, true, true, true, true, true, true, true, true, true, true, true, true, true, true, true, true, true, true, true, true, true, false, false, false, false, false, false] rfl rfl (take_ofW HT_.out HW_.out (by kernel_rfl)) (fun _ _ _ h => h) (Or.inl ⟨by rfl, ?_⟩) hHeld ?_ ?_
             rotate_left
             ·rintro w' ⟨s0, s1, s2, s3, s4, s5, s6, s7, s8⟩
              go_simp
              with_reducible rfl
             rotate_left
             ·simp only [Act.put, List.setIfInBounds_toArray, List.set_cons_zero, List.set_cons_succ, i64_w, i32_w]
              rfl
             refine one_ (i := 61) (N := some 120) #[true, true, true, true, true, true, true, true, true, true, true, true, true, true, true, true, true, true, true, true, true, true, true, true, true, true, true, true, true, true, true, true, true, true, true, true, true, true, true, true, true, true, true, true, true, true, true, true, true, true, true, true, true, true, true, true, true, true, true, true, true, true, false, false, false, false, false] rfl rfl (one_of HT_.out (by kernel_rfl)) (by decide) (fun K hK => ?_)
             refine goes_ Tryd.func16 (by kernel_rfl) rfl #[.agg #[.int .i64 t347, .slice Ao64 t348.length co64], .agg #[.int .i64 a1_0, .slice A1_1 l1_1.length c1_1]] (by rfl) rfl rfl uC ?_
             with_reducible refine (colloquylaw20_isMon.calls kj3 t347 _ _ t348 a1_0 _ _ l1_1 true _ ?side1 ?side2 ?side3 ?side4 A45.out).mono ?_
             (case side1 => exact uS (Kd.R_reads' HO350.out).2.2)
             (case side2 => exact (Kd.R_reads' HO350.out).2.1)
             (case side3 => exact uS (Kd.C_below HR1_1.out (uB4 HB GE337 GE338 GE346 GE351)))
             (case side4 => exact HC1_1.out)
             rintro e w90 ⟨rfl, hb⟩
             refine ⟨_, rfl, ?_⟩
             have n0_ := Aside0.mk (Kd.R_below (uR HO345) hb)
             have n1_ := Aside0.mk (Kd.R_below (uR HO350) hb)
             have n2_ := Aside0.mk (Kd.R_below (uR HO362) hb)
             have n3_ := Aside0.mk (Kd.V_below (uV HO366) hb)
             have n4_ := Aside0.mk (Kd.R_below (uR HO371) hb)
             have n5_ := Aside0.mk (Kd.V_below (uV HO375) hb)
             have n6_ := Aside0.mk (blk_below (g := gb337) (o := .cells #[.int .i64 a1_0, .slice A1_1 l1_1.length c1_1] 25 (0, 0)) (uK BK337) hb)
             have n7_ := Aside0.mk (blk_below (g := gb338) (o := .cells #[.int .i64 a2_0, .int .i64 a2_1, .int .i64 a2_2, .slice A2_3 l2_3.length c2_3] 28 (0, 0)) (uK BK338) hb)
             have n8_ := Aside0.mk (blk_below (g := gb346) (o := .cells #[.slice Ao51 y343.length co51] 31 (0, 0)) (uK BK346) hb)
             have n9_ := Aside0.mk (blk_below (g := gb351) (o := .cells #[.int .i64 t347, .slice Ao64 t348.length co64] 34 (0, 0)) (uK BK351) hb)
             have n10_ := Aside0.mk (below_step (uB4 HB GE337 GE338 GE346 GE351) hb)
             clear HO345
             clear HO350
             clear HO362
             clear HO366
             clear HO371
             clear HO375
             clear BK337
             clear BK338
             clear BK346
             clear BK351
             clear HB
             have HO345 := n0_
             have HO350 := n1_
             have HO362 := n2_
             have HO366 := n3_
             have HO371 := n4_
             have HO375 := n5_
             have BK337 := n6_
             have BK338 := n7_
             have BK346 := n8_
             have BK351 := n9_
             have HB := n10_
             clear n0_ n1_ n2_ n3_ n4_ n5_ n6_ n7_ n8_ n9_ n10_
             (try clear hb)
             (try clear hb2)
             (try clear hk)
             (try clear hi)
             refine hK.out _ _ ⟨(blk_cell BK346.out 0).trans rfl, (blk_cell BK351.out 0).trans rfl, (blk_cell BK351.out 1).trans rfl, (blk_cell BK338.out 0).trans rfl, (blk_cell BK338.out 1).trans rfl, (blk_cell BK338.out 2).trans rfl, (blk_cell BK338.out 3).trans rfl, (blk_cell BK337.out 0).trans rfl, (blk_cell BK337.out 1).trans rfl⟩ (fun hHeld => ?_)
             clear hK K
             refine norm_ (a' := ?_) ?_ ?_
             rotate_left
             ·show Act.put _ (some 120) _ = _
              exact uP
             refine pure_ (i := 62) (N := some 121) (v := ?_) (a' := ?_) #[true, true, true, true, true, true, true, true, true, true, true, true, true, true, true, true, true, true, true, true, true, true, true, true, true, true, true, true, true, true, true, true, true, true, true, true, true, true, true, true, true, true, true, true, true, true, true, true, true, true, true, true, true, true, true, true, true, true, true, true, true, true, true, false, false, false, false] rfl rfl (any_of HT_.out (by kernel_rfl)) (fun _ _ _ h => h) (Or.inl ⟨by rfl, ?_⟩) ?_ ?_
             rotate_left
             ·intro w'
              go_simp
              with_reducible rfl
             rotate_left
             ·simp only [Act.put, List.setIfInBounds_toArray, List.set_cons_zero, List.set_cons_succ, i64_w, i32_w]
              rfl
             refine pure_ (i := 63) (N := some 122) (v := ?_) (a' := ?_) #[true, true, true, true, true, true, true, true, true, true, true, true, true, true, true, true, true, true, true, true, true, true, true, true, true, true, true, true, true, true, true, true, true, true, true, true, true, true, true, true, true, true, true, true, true, true, true, true, true, true, true, true, true, true, true, true, true, true, true, true, true, true, true, true, false, false, false] rfl rfl (any_of HT_.out (by kernel_rfl)) (fun _ _ _ h => h) (Or.inl ⟨by rfl, ?_⟩) ?_ ?_
             rotate_left
             ·intro w'
              go_simp
              with_reducible rfl
             rotate_left
             ·simp only [Act.put, List.setIfInBounds_toArray, List.set_cons_zero, List.set_cons_succ, i64_w, i32_w]
              rfl
             refine one_ (i := 64) (N := some 123) #[true, true, true, true, true, true, true, true, true, true, true, true, true, true, true, true, true, true, true, true, true, true, true, true, true, true, true, true, true, true, true, true, true, true, true, true, true, true, true, true, true, true, true, true, true, true, true, true, true, true, true, true, true, true, true, true, true, true, true, true, true, true, true, true, true, false, false] rfl rfl (one_of HT_.out (by kernel_rfl)) (by decide) (fun K hK => ?_)
             refine goes_ Tryd.func7 (by kernel_rfl) rfl #[] (by rfl) rfl rfl uC ?_
             with_reducible refine (colloquylaw20_sure.calls kj3  t384 _ ?side1 A47.out).mono ?_
             (case side1 => exact HG.out.below (uB4 HB GE337 GE338 GE346 GE351))
             rintro e w91 ⟨rfl, hb⟩
             refine ⟨_, rfl, ?_⟩
             have n0_ := Aside0.mk (Kd.R_below (uR HO345) hb)
             have n1_ := Aside0.mk (Kd.R_below (uR HO350) hb)
             have n2_ := Aside0.mk (Kd.R_below (uR HO362) hb)
             have n3_ := Aside0.mk (Kd.V_below (uV HO366) hb)
             have n4_ := Aside0.mk (Kd.R_below (uR HO371) hb)
             have n5_ := Aside0.mk (Kd.V_below (uV HO375) hb)
             have n6_ := Aside0.mk (blk_below (g := gb337) (o := .cells #[.int .i64 a1_0, .slice A1_1 l1_1.length c1_1] 25 (0, 0)) (uK BK337) hb)
             have n7_ := Aside0.mk (blk_below (g := gb338) (o := .cells #[.int .i64 a2_0, .int .i64 a2_1, .int .i64 a2_2, .slice A2_3 l2_3.length c2_3] 28 (0, 0)) (uK BK338) hb)
             have n8_ := Aside0.mk (blk_below (g := gb346) (o := .cells #[.slice Ao51 y343.length co51] 31 (0, 0)) (uK BK346) hb)
             have n9_ := Aside0.mk (blk_below (g := gb351) (o := .cells #[.int .i64 t347, .slice Ao64 t348.length co64] 34 (0, 0)) (uK BK351) hb)
             have n10_ := Aside0.mk (below_step (uB4 HB GE337 GE338 GE346 GE351) hb)
             clear HO345
             clear HO350
             clear HO362
             clear HO366
             clear HO371
             clear HO375
             clear BK337
             clear BK338
             clear BK346
             clear BK351
             clear HB
             have HO345 := n0_
             have HO350 := n1_
             have HO362 := n2_
             have HO366 := n3_
             have HO371 := n4_
             have HO375 := n5_
             have BK337 := n6_
             have BK338 := n7_
             have BK346 := n8_
             have BK351 := n9_
             have HB := n10_
             clear n0_ n1_ n2_ n3_ n4_ n5_ n6_ n7_ n8_ n9_ n10_
             (try clear hb)
             (try clear hb2)
             (try clear hk)
             (try clear hi)
             refine hK.out _ _ ⟨(blk_cell BK346.out 0).trans rfl, (blk_cell BK351.out 0).trans rfl, (blk_cell BK351.out 1).trans rfl, (blk_cell BK338.out 0).trans rfl, (blk_cell BK338.out 1).trans rfl, (blk_cell BK338.out 2).trans rfl, (blk_cell BK338.out 3).trans rfl, (blk_cell BK337.out 0).trans rfl, (blk_cell BK337.out 1).trans rfl⟩ (fun hHeld => ?_)
             clear hK K
             refine norm_ (a' := ?_) ?_ ?_
             rotate_left
             ·show Act.put _ (some 123) _ = _
              exact uP
             refine pure_ (i := 65) (N := some 124) (v := ?_) (a' := ?_) #[true, true, true, true, true, true, true, true, true, true, true, true, true, true, true, true, true, true, true, true, true, true, true, true, true, true, true, true, true, true, true, true, true, true, true, true, true, true, true, true, true, true, true, true, true, true, true, true, true, true, true, true, true, true, true, true, true, true, true, true, true, true, true, true, true, true, false] rfl rfl (any_of HT_.out (by kernel_rfl)) (fun _ _ _ h => h) (Or.inl ⟨by rfl, ?_⟩) ?_ ?_
             rotate_left
             ·intro w'
              go_simp
              with_reducible rfl
             rotate_left
             ·simp only [Act.put, List.setIfInBounds_toArray, List.set_cons_zero, List.set_cons_succ, i64_w, i32_w]
              rfl
             refine pure_ (i := 66) (N := some 6) (v := ?_) (a' := ?_) #[true, true, true, true, true, true, true, true, true, true, true, true, true, true, true, true, true, true, true, true, true, true, true, true, true, true, true, true, true, true, true, true, true, true, true, true, true, true, true, true, true, true, true, true, true, true, true, true, true, true, true, true, true, true, true, true, true, true, true, true, true, true, true, true, true, true, true] rfl rfl (any_of HT_.out (by kernel_rfl)) (fun _ _ _ h => h) (Or.inl ⟨by rfl, ?_⟩) ?_ ?_
             rotate_left
             ·intro w'
              go_simp
              with_reducible rfl
             rotate_left
             ·simp only [Act.put, List.setIfInBounds_toArray, List.set_cons_zero, List.set_cons_succ, i64_w, i32_w]
              rfl
             refine done_ (done_of HT_.out (by kernel_rfl)) ?_
             try go_wp2
             go_ret
             exact ⟨by first | rfl | (simp [errW_none, errW_some] <;> rfl) | (simp [*, errW_none, errW_some] <;> rfl), uB4 HB GE337 GE338 GE346 GE351⟩
            ·replace c46 := Bool.eq_false_iff.mpr c46
             subst c46
             have H1 : (none) = some r := by rw [if_neg (show ¬ (false = true) by decide)] at H; exact H
             clear H
             have H := H1
             clear H1
             exact absurd H (by simp)
           ·rw [if_neg c44] at H
            have c44b0 : (t381 == t382) = false := beq_eq_false_iff_ne.mpr c44
            have c44b1 : (t381 != t382) = true := bne_iff_ne.mpr c44
            exact absurd H (by simp)
          ·rw [if_neg c40] at H
           have c40b0 : (t378 == t379) = false := beq_eq_false_iff_ne.mpr c40
           have c40b1 : (t378 != t379) = true := bne_iff_ne.mpr c40
           exact absurd H (by simp)
         ·replace c36 := Bool.eq_false_iff.mpr c36
          subst c36
          have H1 : (none) = some r := by rw [if_neg (show ¬ (false = true) by decide)] at H; exact H
          clear H
          have H := H1
          clear H1
          exact absurd H (by simp)
        ·replace c32 := Bool.eq_false_iff.mpr c32
         subst c32
         have H1 : (none) = some r := by rw [if_neg (show ¬ (false = true) by decide)] at H; exact H
         clear H
         have H := H1
         clear H1
         exact absurd H (by simp)
       ·rw [if_neg c28] at H
        exact absurd H (by simp)
      ·rw [if_neg c25] at H
       have c25b0 : (t355 == t356) = false := beq_eq_false_iff_ne.mpr c25
       have c25b1 : (t355 != t356) = true := bne_iff_ne.mpr c25
       exact absurd H (by simp)
     ·rw [if_neg c22] at H
      have c22b0 : (t353 == t354) = false := beq_eq_false_iff_ne.mpr c22
      have c22b1 : (t353 != t354) = true := bne_iff_ne.mpr c22
      exact absurd H (by simp)
    ·rw [if_neg c17] at H
     exact absurd H (by simp)

/-- THE ONE PURE STATEMENT of colloquylaw20_MonTells: yours. -/
def colloquylaw20_MonTells.Pure : Prop := ∀ (l0 : List Int) (a1_0 : Int) (l1_1 : List (S62)) (a2_0 : Int) (a2_1 : Int) (a2_2 : Int) (l2_3 : List Int), l0.length ≤ maxLen → l0.length * 1 ≤ 140737488351232 → (∀ x ∈ l0, (Lit.int .u8 x).wf = true) → (Lit.int .i64 a1_0).wf = true → l1_1.length ≤ maxLen → l1_1.length * 24 ≤ 140737488351232 → (∀ y_ ∈ l1_1, ((Lit.int .i64 y_.f0).wf = true) ∧ ((Lit.int .i64 y_.f1).wf = true) ∧ ((Lit.int .i64 y_.f2).wf = true)) → (Lit.int .i64 a2_0).wf = true → (Lit.int .i64 a2_1).wf = true → (Lit.int .i64 a2_2).wf = true → l2_3.length ≤ maxLen → l2_3.length * 8 ≤ 140737488351232 → (∀ y_ ∈ l2_3, (Lit.int .i64 y_).wf = true) → ∃ k, colloquylaw20_MonTells.f k l0 a1_0 l1_1 a2_0 a2_1 a2_2 l2_3 = some true
theorem colloquylaw20_MonTells.walk (P : colloquylaw20_MonTells.Pure) (a0 : Option Addr) (len0 cap0 : Nat) (z0 : List Int) (a1_0 : Int) (A1_1 : Option Addr) (c1_1 : Nat) (l1_1 : List (S62)) (a2_0 : Int) (a2_1 : Int) (a2_2 : Int) (A2_3 : Option Addr) (c2_3 : Nat) (l2_3 : List Int) (w : World) (hg : Go.Proofs.YtodfomkhhfcnhaaDoor.AsNum.GP w) (w0 : (a0 = none ∧ len0 = 0 ∧ cap0 = 0 ∧ z0 = []) ∨ ∃ x, a0 = some x ∧ len0 ≤ cap0 ∧ cap0 ≤ maxLen ∧ z0.length = cap0 ∧ (∀ i, i < z0.length → w.cell? (x.add i) = some (.int .u8 (z0.getD i 0))) ∧ ∀ n ∈ z0, (Lit.int .u8 n).wf = true) (y0 : len0 * 1 ≤ 140737488351232) (w1_0 : (Lit.int .i64 a1_0).wf = true) (hr1_1 : Kd.C k62 w A1_1 l1_1.length l1_1) (hc1_1 : l1_1.length ≤ c1_1) (m1_1 : l1_1.length ≤ maxLen) (z1_1 : l1_1.length * 24 ≤ 140737488351232) (e1_1 : ∀ y_ ∈ l1_1, ((Lit.int .i64 y_.f0).wf = true) ∧ ((Lit.int .i64 y_.f1).wf = true) ∧ ((Lit.int .i64 y_.f2).wf = true)) (w2_0 : (Lit.int .i64 a2_0).wf = true) (w2_1 : (Lit.int .i64 a2_1).wf = true) (w2_2 : (Lit.int .i64 a2_2).wf = true) (hr2_3 : Kd.C (Kd.int .i64) w A2_3 l2_3.length l2_3) (hc2_3 : l2_3.length ≤ c2_3) (m2_3 : l2_3.length ≤ maxLen) (z2_3 : l2_3.length * 8 ≤ 140737488351232) (e2_3 : ∀ y_ ∈ l2_3, (Lit.int .i64 y_).wf = true) :
  Calls Tryd.prog 3 #[.slice a0 len0 cap0, .agg #[.int .i64 a1_0, .slice A1_1 l1_1.length c1_1], .agg #[.int .i64 a2_0, .int .i64 a2_1, .int .i64 a2_2, .slice A2_3 l2_3.length c2_3]] w fun e w' => e = .returned (.bool true) ∧ Below w.heap.size w w' := by
 obtain ⟨l0, rfl, hr0, hm0, hw0, hc0⟩ := ReadsInt.ofRowC w0
 obtain ⟨k, h⟩ := P l0 a1_0 l1_1 a2_0 a2_1 a2_2 l2_3 hm0 y0 hw0 w1_0 m1_1 z1_1 e1_1 w2_0 w2_1 w2_2 m2_3 z2_3 e2_3
 refine (colloquylaw20_MonTells.calls k _ _ l0 a1_0 A1_1 c1_1 l1_1 a2_0 a2_1 a2_2 A2_3 c2_3 l2_3 true w (Kd.C_of_reads (d := (0 : Int)) (h1 := fun _ => rfl) hr0) hc0 hr1_1 hc1_1 hr2_3 hc2_3 hg h).mono ?_
 rintro e w' ⟨rfl, hd⟩
 exact ⟨rfl, hd⟩

end Go.Proofs.YtodfomkhhfcnhaaDoor.PMonTells
