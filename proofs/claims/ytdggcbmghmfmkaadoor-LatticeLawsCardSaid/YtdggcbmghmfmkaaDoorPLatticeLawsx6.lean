/- The functions that the law reaches, as plain functions of lists and numbers, and that a call of the Go code comes to just their answers; laid by this repo's own program over the seat's translation. Conditions: each contract's own premises. -/
import Derived.Test.YtdggcbmghmfmkaaDoorPLatticeLawsx0
import Derived.Test.YtdggcbmghmfmkaaDoorPLatticeLawsx3
import Derived.Test.YtdggcbmghmfmkaaDoorPLatticeLawsx4
import Derived.Test.YtdggcbmghmfmkaaDoorPLatticeLawsx5
namespace Go.Proofs.YtdggcbmghmfmkaaDoor.PLatticeLaws
open Go.RowKit Go.Proofs.YtdggcbmghmfmkaaDoorW.PrintWords Go.Proofs.YtdggcbmghmfmkaaDoorW.PrintLast Go.Proofs.YtdggcbmghmfmkaaDoorW.PrintMore
attribute [local go_sem] max2_int min2_int max_two min_two max_three min_three max_four min_four   -- for this text's walks alone
set_option linter.unusedVariables false
set_option linter.unusedSimpArgs false

/-! ### colloquylaw01_LatticeLaws: function 4 -/
def colloquylaw01_LatticeLaws.j0 : Nat → List Int → Bool → Int → Int → Int → List Int → Option (Bool)
 | 0, _, _, _, _, _, _ => none
 | k + 1, x0, x23, x186000, x186001, x186002, x193000 => if x23 = true then ((colloquylaw01_sure.f k).bind fun t195 => (some t195)) else (if (x0.length : Int) = 0 then (none) else ((lattice_Lat_Join.f k x193000 (Int.tmod (wrap64 (x186000)) (x0.length : Int)) (Int.tmod (wrap64 (x186001)) (x0.length : Int))).bind fun t196 => ((lattice_Lat_Meet.f k x193000 (Int.tmod (wrap64 (x186000)) (x0.length : Int)) (Int.tmod (wrap64 (x186001)) (x0.length : Int))).bind fun t197 => ((lattice_Lat_Join.f k x193000 (Int.tmod (wrap64 (x186001)) (x0.length : Int)) (Int.tmod (wrap64 (x186000)) (x0.length : Int))).bind fun t198 => (if t196 = t198 then ((lattice_Lat_Meet.f k x193000 (Int.tmod (wrap64 (x186001)) (x0.length : Int)) (Int.tmod (wrap64 (x186000)) (x0.length : Int))).bind fun t199 => (if t197 = t199 then ((lattice_Lat_Join.f k x193000 t196 (Int.tmod (wrap64 (x186002)) (x0.length : Int))).bind fun t200 => ((lattice_Lat_Join.f k x193000 (Int.tmod (wrap64 (x186001)) (x0.length : Int)) (Int.tmod (wrap64 (x186002)) (x0.length : Int))).bind fun t201 => ((lattice_Lat_Join.f k x193000 (Int.tmod (wrap64 (x186000)) (x0.length : Int)) t201).bind fun t202 => (if t200 = t202 then ((lattice_Lat_Meet.f k x193000 t197 (Int.tmod (wrap64 (x186002)) (x0.length : Int))).bind fun t203 => ((lattice_Lat_Meet.f k x193000 (Int.tmod (wrap64 (x186001)) (x0.length : Int)) (Int.tmod (wrap64 (x186002)) (x0.length : Int))).bind fun t204 => ((lattice_Lat_Meet.f k x193000 (Int.tmod (wrap64 (x186000)) (x0.length : Int)) t204).bind fun t205 => (if t203 = t205 then ((lattice_Lat_Join.f k x193000 (Int.tmod (wrap64 (x186000)) (x0.length : Int)) (Int.tmod (wrap64 (x186000)) (x0.length : Int))).bind fun t206 => (if t206 = (Int.tmod (wrap64 (x186000)) (x0.length : Int)) then ((lattice_Lat_Meet.f k x193000 (Int.tmod (wrap64 (x186000)) (x0.length : Int)) (Int.tmod (wrap64 (x186000)) (x0.length : Int))).bind fun t207 => (if t207 = (Int.tmod (wrap64 (x186000)) (x0.length : Int)) then ((lattice_Lat_Join.f k x193000 (Int.tmod (wrap64 (x186000)) (x0.length : Int)) t197).bind fun t208 => (if t208 = (Int.tmod (wrap64 (x186000)) (x0.length : Int)) then ((lattice_Lat_Meet.f k x193000 (Int.tmod (wrap64 (x186000)) (x0.length : Int)) t196).bind fun t209 => (if t209 = (Int.tmod (wrap64 (x186000)) (x0.length : Int)) then ((lattice_Lat_Leq.f k x193000 (Int.tmod (wrap64 (x186000)) (x0.length : Int)) (Int.tmod (wrap64 (x186001)) (x0.length : Int))).bind fun t210 => (if (t210 == (t196 == (Int.tmod (wrap64 (x186001)) (x0.length : Int)))) = true then ((lattice_Lat_Leq.f k x193000 (Int.tmod (wrap64 (x186000)) (x0.length : Int)) (Int.tmod (wrap64 (x186001)) (x0.length : Int))).bind fun t211 => (if (t211 == (t197 == (Int.tmod (wrap64 (x186000)) (x0.length : Int)))) = true then ((lattice_Lat_Bottom.f k x193000).bind fun t212 => ((lattice_Lat_Leq.f k x193000 t212 (Int.tmod (wrap64 (x186000)) (x0.length : Int))).bind fun t213 => (if t213 = true then ((lattice_Lat_Top.f k x193000).bind fun t214 => ((lattice_Lat_Leq.f k x193000 (Int.tmod (wrap64 (x186000)) (x0.length : Int)) t214).bind fun t215 => (if t215 = true then ((lattice_Lat_Leq.f k x193000 (Int.tmod (wrap64 (x186000)) (x0.length : Int)) t196).bind fun t216 => (if t216 = true then ((lattice_Lat_Leq.f k x193000 t197 (Int.tmod (wrap64 (x186001)) (x0.length : Int))).bind fun t217 => (if t217 = true then ((colloquylaw01_sure.f k).bind fun t218 => (some t218)) else (none))) else (none))) else (none)))) else (none)))) else (none))) else (none))) else (none))) else (none))) else (none))) else (none))) else (none))))) else (none))))) else (none))) else (none))))))
def colloquylaw01_LatticeLaws.f (k : Nat) (l0 : List Int) (a1_0 : Int) (a1_1 : Int) (a1_2 : Int) : Option (Bool) := (some (([] : List Int) : List Int)).bind fun y186 => (if y186.length + l0.length < 140737488355328 then ((some (y186 ++ l0 : List Int)).bind fun y189 => (if (l0.length : Int) > 20 then (colloquylaw01_LatticeLaws.j0 k l0 true a1_0 a1_1 a1_2 y189) else ((lattice_Check.f k y189).bind fun t193 => (if t193.isNone = true then (colloquylaw01_LatticeLaws.j0 k l0 false a1_0 a1_1 a1_2 y189) else (colloquylaw01_LatticeLaws.j0 k l0 true a1_0 a1_1 a1_2 y189))))) else (none))
theorem colloquylaw01_LatticeLaws.mono_l : ∀ k, (∀ y0 y1 y2 y3 y4 y5, LeO (colloquylaw01_LatticeLaws.j0 k y0 y1 y2 y3 y4 y5) (colloquylaw01_LatticeLaws.j0 (k + 1) y0 y1 y2 y3 y4 y5))
 | 0 => fun _ _ _ _ _ _ r h => by simp [colloquylaw01_LatticeLaws.j0] at h
 | k + 1 => by
  have ih0 := colloquylaw01_LatticeLaws.mono_l k
  ·intro y0 y1 y2 y3 y4 y5
   unfold colloquylaw01_LatticeLaws.j0
   repeat' first
   | (with_reducible exact ih0 _ _ _ _ _ _)
   | (with_reducible exact colloquylaw01_sure.mono _)
   | (with_reducible exact lattice_Check.mono _ _)
   | (with_reducible exact lattice_Lat_Bottom.mono _ _)
   | (with_reducible exact lattice_Lat_Join.mono _ _ _ _)
   | (with_reducible exact lattice_Lat_Leq.mono _ _ _ _)
   | (with_reducible exact lattice_Lat_Meet.mono _ _ _ _)
   | (with_reducible exact lattice_Lat_Top.mono _ _)
   | (with_reducible exact LeO.refl _)
   | (with_reducible exact LeO.none _)
   | (with_reducible refine LeO.ite ?_ ?_)
   | (with_reducible refine LeO.bind ?_ (fun _ => ?_))
   | exact ih0 _ _ _ _ _ _
   | exact colloquylaw01_sure.mono _
   | exact lattice_Check.mono _ _
   | exact lattice_Lat_Bottom.mono _ _
   | exact lattice_Lat_Join.mono _ _ _ _
   | exact lattice_Lat_Leq.mono _ _ _ _
   | exact lattice_Lat_Meet.mono _ _ _ _
   | exact lattice_Lat_Top.mono _ _
   | exact LeO.none _
   | refine LeO.ite ?_ ?_
   | refine LeO.bind ?_ (fun _ => ?_)
theorem colloquylaw01_LatticeLaws.mono : ∀ a0 a1 a2 a3 k, LeO (colloquylaw01_LatticeLaws.f k a0 a1 a2 a3) (colloquylaw01_LatticeLaws.f (k + 1) a0 a1 a2 a3) := by
 intro a0 a1 a2 a3 k
 have ih0 := colloquylaw01_LatticeLaws.mono_l k
 unfold colloquylaw01_LatticeLaws.f
 repeat' first
   | (with_reducible exact ih0 _ _ _ _ _ _)
   | (with_reducible exact colloquylaw01_sure.mono _)
   | (with_reducible exact lattice_Check.mono _ _)
   | (with_reducible exact lattice_Lat_Bottom.mono _ _)
   | (with_reducible exact lattice_Lat_Join.mono _ _ _ _)
   | (with_reducible exact lattice_Lat_Leq.mono _ _ _ _)
   | (with_reducible exact lattice_Lat_Meet.mono _ _ _ _)
   | (with_reducible exact lattice_Lat_Top.mono _ _)
   | (with_reducible exact LeO.refl _)
   | (with_reducible exact LeO.none _)
   | (with_reducible refine LeO.ite ?_ ?_)
   | (with_reducible refine LeO.bind ?_ (fun _ => ?_))
   | exact ih0 _ _ _ _ _ _
   | exact colloquylaw01_sure.mono _
   | exact lattice_Check.mono _ _
   | exact lattice_Lat_Bottom.mono _ _
   | exact lattice_Lat_Join.mono _ _ _ _
   | exact lattice_Lat_Leq.mono _ _ _ _
   | exact lattice_Lat_Meet.mono _ _ _ _
   | exact lattice_Lat_Top.mono _ _
   | exact LeO.none _
   | refine LeO.ite ?_ ?_
   | refine LeO.bind ?_ (fun _ => ?_)
def colloquylaw01_LatticeLaws.T5 : Bool × List (List Nat × List Nat) := (true, [([], []), ([0], [0]), ([1], [1]), ([], []), ([2, 3], [2, 3]), ([], []), ([5], [5]), ([6], [6]), ([], []), ([7, 8], [7, 8]), ([], []), ([10], [10]), ([11], [11]), ([], []), ([12, 13], [12, 13]), ([4, 0, 1, 2, 3, 4], [4]), ([9, 15, 0, 1, 2, 3, 4, 5, 6, 7, 8, 9, 15], [9]), ([14, 16, 0, 1, 2, 3, 4, 5, 6, 7, 8, 9, 10, 11, 12, 13, 14, 15, 16], [14])])
def colloquylaw01_LatticeLaws.B5 : List Nat := [0, 1, 3, 0, 15, 0, 32, 96, 0, 480, 0, 1024, 3072, 0, 15360, 31, 33791, 131071]
theorem colloquylaw01_LatticeLaws.tab5 : rtab .any (opsOf Tryd.f4 5) = colloquylaw01_LatticeLaws.T5 := by kernel_rfl
theorem colloquylaw01_LatticeLaws.bits5 : waitsOk colloquylaw01_LatticeLaws.T5.2 colloquylaw01_LatticeLaws.B5 = true := by kernel_rfl
def colloquylaw01_LatticeLaws.T6 : Bool × List (List Nat × List Nat) := (true, [([], []), ([], []), ([], []), ([0, 1, 2], [0, 1, 2]), ([], []), ([], []), ([], []), ([4, 5, 6, 3], [4, 5, 6]), ([3, 7, 0, 1, 2, 3], [3]), ([7, 8, 0, 1, 2, 3, 4, 5, 6, 7, 8], [7])])
def colloquylaw01_LatticeLaws.B6 : List Nat := [0, 0, 0, 7, 0, 0, 0, 127, 255, 511]
theorem colloquylaw01_LatticeLaws.tab6 : rtab .any (opsOf Tryd.f4 6) = colloquylaw01_LatticeLaws.T6 := by kernel_rfl
theorem colloquylaw01_LatticeLaws.bits6 : waitsOk colloquylaw01_LatticeLaws.T6.2 colloquylaw01_LatticeLaws.B6 = true := by kernel_rfl
def colloquylaw01_LatticeLaws.T7 : Bool × List (List Nat × List Nat) := (true, [([], []), ([], []), ([], []), ([], []), ([1, 2, 3], [1, 2, 3]), ([0, 4], [0, 4]), ([5, 4], [5]), ([6], [6]), ([6], [6]), ([6], [6]), ([6], [6]), ([8, 9, 10, 6, 6], [6, 8, 9, 10]), ([7, 11, 6], [6, 7, 11]), ([6, 12], [6, 12]), ([13, 11], [13]), ([14], [14]), ([14], [14]), ([14], [14]), ([15, 16, 17, 14, 14], [14, 15, 16, 17]), ([14], [14]), ([14], [14]), ([14], [14]), ([14], [14]), ([14], [14]), ([21, 22, 23, 18, 14], [14, 21, 22, 23]), ([19, 20, 24, 24, 14], [14, 19, 20, 24]), ([18, 25, 14], [14, 18, 25]), ([14, 26], [14, 26]), ([27, 25], [27]), ([28], [28]), ([28], [28]), ([28], [28]), ([29, 30, 31, 28, 28], [28, 29, 30, 31]), ([28], [28]), ([28], [28]), ([28], [28]), ([28], [28]), ([28], [28]), ([35, 36, 37, 32, 28], [28, 35, 36, 37]), ([33, 34, 38, 38, 28], [28, 33, 34, 38]), ([32, 39, 28], [28, 32, 39]), ([28, 40], [28, 40]), ([41, 39], [41]), ([42], [42]), ([42], [42]), ([42], [42]), ([43, 44, 45, 42, 42], [42, 43, 44, 45]), ([42], [42]), ([46, 47, 42], [42, 46, 47]), ([42, 48], [42, 48]), ([49, 46], [49]), ([50], [50]), ([50], [50]), ([50], [50]), ([51, 52, 53, 50, 50], [50, 51, 52, 53]), ([50], [50]), ([54, 55, 50], [50, 54, 55]), ([50, 56], [50, 56])])
def colloquylaw01_LatticeLaws.B7 : List Nat := [0, 0, 0, 0, 14, 31, 63, 127, 127, 127, 127, 1919, 4095, 8191, 16383, 32767, 32767, 32767, 262143, 32767, 32767, 32767, 32767, 32767, 15204351, 33554431, 67108863, 134217727, 268435455, 536870911, 536870911, 536870911, 4294967295, 536870911, 536870911, 536870911, 536870911, 536870911, 249108103167, 549755813887, 1099511627775, 2199023255551, 4398046511103, 8796093022207, 8796093022207, 8796093022207, 70368744177663, 8796093022207, 281474976710655, 562949953421311, 1125899906842623, 2251799813685247, 2251799813685247, 2251799813685247, 18014398509481983, 2251799813685247, 72057594037927935, 144115188075855871]
theorem colloquylaw01_LatticeLaws.tab7 : rtab .any (opsOf Tryd.f4 7) = colloquylaw01_LatticeLaws.T7 := by kernel_rfl
theorem colloquylaw01_LatticeLaws.bits7 : waitsOk colloquylaw01_LatticeLaws.T7.2 colloquylaw01_LatticeLaws.B7 = true := by kernel_rfl
def colloquylaw01_LatticeLaws.T9 : Bool × List (List Nat × List Nat) := (true, [([], []), ([], []), ([], []), ([0, 1, 2], [0, 1, 2]), ([], []), ([3, 4], [3, 4]), ([5, 3], [5]), ([6], [6]), ([6], [6]), ([6], [6]), ([7, 8, 9, 6, 6], [6, 7, 8, 9]), ([6], [6]), ([10, 11, 6], [6, 10, 11]), ([6, 12], [6, 12]), ([13, 10], [13]), ([14], [14]), ([14], [14]), ([14], [14]), ([15, 16, 17, 14, 14], [14, 15, 16, 17]), ([14], [14]), ([14], [14]), ([19, 20, 14], [14, 19, 20]), ([18, 21, 14], [14, 18, 21]), ([14, 22], [14, 22]), ([23, 18], [23]), ([24], [24]), ([24], [24]), ([24], [24]), ([25, 26, 27, 24, 24], [24, 25, 26, 27]), ([24], [24]), ([24], [24]), ([29, 30, 24], [24, 29, 30]), ([28, 31, 24], [24, 28, 31]), ([24, 32], [24, 32]), ([33, 28], [33]), ([34], [34]), ([34], [34]), ([36, 34, 34], [34, 36]), ([34], [34]), ([35, 37, 38, 37, 34], [34, 35, 37, 38]), ([34, 39], [34, 39]), ([40, 39], [40]), ([41], [41]), ([41], [41]), ([41], [41]), ([44, 41, 41], [41, 44]), ([42, 43, 45, 45, 41], [41, 42, 43, 45]), ([41, 46], [41, 46]), ([47, 46], [47]), ([48], [48]), ([48], [48]), ([48], [48]), ([49, 50, 51, 48, 48], [48, 49, 50, 51]), ([48, 52], [48, 52]), ([53, 52], [53]), ([54], [54]), ([54], [54]), ([54], [54]), ([55, 56, 57, 54, 54], [54, 55, 56, 57]), ([54, 58], [54, 58]), ([59, 58], [59]), ([60, 60], [60]), ([60, 61], [60, 61]), ([62, 61, 0, 1, 2, 3, 4, 5, 6, 7, 8, 9, 10, 11, 12, 13, 14, 15, 16, 17, 18, 19, 20, 21, 22, 23, 24, 25, 26, 27, 28, 29, 30, 31, 32, 33, 34, 35, 36, 37, 38, 39, 40, 41, 42, 43, 44, 45, 46, 47, 48, 49, 50, 51, 52, 53, 54, 55, 56, 57, 58, 59, 60, 61, 62], [62])])
def colloquylaw01_LatticeLaws.B9 : List Nat := [0, 0, 0, 7, 0, 31, 63, 127, 127, 127, 1023, 127, 4095, 8191, 16383, 32767, 32767, 32767, 262143, 32767, 32767, 1605631, 4194303, 8388607, 16777215, 33554431, 33554431, 33554431, 268435455, 33554431, 33554431, 1644167167, 4294967295, 8589934591, 17179869183, 34359738367, 34359738367, 103079215103, 34359738367, 549755813887, 1099511627775, 2199023255551, 4398046511103, 4398046511103, 4398046511103, 21990232555519, 70368744177663, 140737488355327, 281474976710655, 562949953421311, 562949953421311, 562949953421311, 4503599627370495, 9007199254740991, 18014398509481983, 36028797018963967, 36028797018963967, 36028797018963967, 288230376151711743, 576460752303423487, 1152921504606846975, 2305843009213693951, 4611686018427387903, 9223372036854775807]
theorem colloquylaw01_LatticeLaws.tab9 : rtab .any (opsOf Tryd.f4 9) = colloquylaw01_LatticeLaws.T9 := by kernel_rfl
theorem colloquylaw01_LatticeLaws.bits9 : waitsOk colloquylaw01_LatticeLaws.T9.2 colloquylaw01_LatticeLaws.B9 = true := by kernel_rfl
set_option maxHeartbeats 8000000 in
set_option maxRecDepth 100000 in
theorem colloquylaw01_LatticeLaws.calls (k : Nat) (A0 : Option Addr) (c0 : Nat) (l0 : List Int) (a1_0 : Int) (a1_1 : Int) (a1_2 : Int) (r : Bool) (w : World) (hr0 : Kd.C (Kd.int .u8) w A0 l0.length l0) (hc0 : l0.length ≤ c0) (hg : Go.Proofs.YtdggcbmghmfmkaaDoor.AsNum.GP w) (h : colloquylaw01_LatticeLaws.f k l0 a1_0 a1_1 a1_2 = some r) :
  Calls Tryd.prog 4 #[.slice A0 l0.length c0, .agg #[.int .u8 a1_0, .int .u8 a1_1, .int .u8 a1_2]] w fun e w' => e = .returned (.bool r) ∧ Below w.heap.size w w' := by
 have hu37 := Tryd.underlying37
 have hu25 := Tryd.underlying25
 have hu27 := Tryd.underlying27
 have hu41 := Tryd.underlying41
 have HG := Aside0.mk hg
 clear hg
 have HR0 := Aside0.mk hr0
 have HC0 := Aside0.mk hc0
 clear hr0 hc0
 have HB := Aside0.mk (Below.refl w.heap.size w)
 have H : ((some (([] : List Int) : List Int)).bind fun y186 => (if y186.length + l0.length < 140737488355328 then ((some (y186 ++ l0 : List Int)).bind fun y189 => (if (l0.length : Int) > 20 then (colloquylaw01_LatticeLaws.j0 k l0 true a1_0 a1_1 a1_2 y189) else ((lattice_Check.f k y189).bind fun t193 => (if t193.isNone = true then (colloquylaw01_LatticeLaws.j0 k l0 false a1_0 a1_1 a1_2 y189) else (colloquylaw01_LatticeLaws.j0 k l0 true a1_0 a1_1 a1_2 y189))))) else (none))) = some r := h
 clear h
 obtain ⟨y186, hy186⟩ : ∃ y_ : List Int, y_ = (([] : List Int)) := ⟨_, rfl⟩
 replace H : (if y186.length + l0.length < 140737488355328 then ((some (y186 ++ l0 : List Int)).bind fun y189 => (if (l0.length : Int) > 20 then (colloquylaw01_LatticeLaws.j0 k l0 true a1_0 a1_1 a1_2 y189) else ((lattice_Check.f k y189).bind fun t193 => (if t193.isNone = true then (colloquylaw01_LatticeLaws.j0 k l0 false a1_0 a1_1 a1_2 y189) else (colloquylaw01_LatticeLaws.j0 k l0 true a1_0 a1_1 a1_2 y189))))) else (none)) = some r := by first | (rw [hy186]; with_reducible exact H) | (have H2_ := (Option.bind_some _ _).symm.trans H; rw [hy186]; with_reducible exact H2_) | (have H2_ := (Option.bind_some _ _).symm.trans H; with_reducible exact H2_) | with_reducible exact H | (rw [hy186]; exact H) | exact H
 have Ny186 := Aside0.mk hy186
 clear hy186
 by_cases c3 : y186.length + l0.length < 140737488355328
 ·rw [if_pos c3] at H
  have LMc3 := Aside0.mk c3
  clear c3
  obtain ⟨y189, hy189⟩ : ∃ y_ : List Int, y_ = (y186 ++ l0) := ⟨_, rfl⟩
  replace H : (if (l0.length : Int) > 20 then (colloquylaw01_LatticeLaws.j0 k l0 true a1_0 a1_1 a1_2 y189) else ((lattice_Check.f k y189).bind fun t193 => (if t193.isNone = true then (colloquylaw01_LatticeLaws.j0 k l0 false a1_0 a1_1 a1_2 y189) else (colloquylaw01_LatticeLaws.j0 k l0 true a1_0 a1_1 a1_2 y189)))) = some r := by first | (rw [hy189]; with_reducible exact H) | (have H2_ := (Option.bind_some _ _).symm.trans H; rw [hy189]; with_reducible exact H2_) | (have H2_ := (Option.bind_some _ _).symm.trans H; with_reducible exact H2_) | with_reducible exact H | (rw [hy189]; exact H) | exact H
  have Ny189 := Aside0.mk hy189
  clear hy189
  have HC4 := Aside0.mk H
  clear H
  go_enter Tryd.func4, Tryd.ntmps4
  try simp only [List.append_eq, List.cons_append, List.nil_append]
  go_upto_region 2 with (first | ((with_reducible refine gate_dst (N := 3) rfl ?_); refine box_event ?hg (N := 3) ?hd (cs := #[.int .u8 a1_0, .int .u8 a1_1, .int .u8 a1_2]) (t := 37) ?hr ?_; (case hd => rfl); (case hg => rfl); (case hr => first | (go_simp; done) | (go_simp; rfl)); intro gb185 hg w5 hbox hb; have n0_ := Aside0.mk (below_step (by repeat (first | (with_reducible first | exact HB.out | apply below_alloc | apply pw_below_drewN | apply below_drew1) | exact HB.out)) hb); have n1_ := Aside0.mk (hbox); have n2_ := Aside0.mk ((by rw [hg]; exact (below_size (by repeat (first | (with_reducible first | exact HB.out | apply below_alloc | apply pw_below_drewN | apply below_drew1) | exact HB.out))) : w.heap.size ≤ gb185)); have n3_ := Aside0.mk ((by rw [hg]; exact (below_size (by repeat (first | (with_reducible first | exact HB.out | apply below_alloc | apply pw_below_drewN | apply below_drew1) | exact HB.out))) : w.heap.size ≤ gb185)); clear HB; have HB := n0_; have BK185 := n1_; have GW185 := n2_; have GE185 := n3_; clear n0_ n1_ n2_ n3_; clear hb hbox hg) | ((with_reducible refine gate_dst (N := 12) rfl ?_); refine Kd.R_lit (Kd.int .u8) _ 5 ?hg (N := 12) ?hd (xs := ([] : List Int)) (inner := []) (ok := fun _ => True) (okp := fun _ => True) ?hr ?hp (fun _ hk => hk) trivial (Below.refl _ _) (Nat.le_refl _) (by simp) ?_; (case hd => rfl); (case hg => rfl); (case hr => first | (go_simp; done) | (go_simp; rfl)); (case hp => exact (Reps.none _ _)); intro v187 w6 ho7 hb hg_ hnew_; clear hg_ hnew_; (first | rw [← Ny186.out] at ho7 | (simp only [Int.reduceToNat] at ho7; rw [← Ny186.out] at ho7)); have n0_ := Aside0.mk (Kd.R_lower ho7 (below_size (by repeat (first | (with_reducible first | exact HB.out | apply below_alloc | apply pw_below_drewN | apply below_drew1 | refine below_set ?_ GE185.out) | exact HB.out)))); have n1_ := Aside0.mk (blk_below (g := gb185) (o := .cells #[.int .u8 a1_0, .int .u8 a1_1, .int .u8 a1_2] 37 (0, 0)) (by (with_reducible repeat (first | refine blk_drewN ?_ _ | refine blk_drew ?_ | refine blk_alloc ?_ _)); exact BK185.out) hb); have n2_ := Aside0.mk (below_step (by repeat (first | (with_reducible first | exact HB.out | apply below_alloc | apply pw_below_drewN | apply below_drew1 | refine below_set ?_ GE185.out) | exact HB.out)) hb); clear BK185; clear HB; have HO188 := n0_; have BK185 := n1_; have HB := n2_; clear n0_ n1_ n2_; clear hb ho7) | ((with_reducible refine gate_builtin (b := .append) (xs := #[.tmp 12, .tmp 13]) rfl ?_); at_builtin; refine Kd.R_append_rows (Kd.int .u8) (w0 := w) w.heap.size rfl (.tmp 12) (.tmp 13) 23 5 (.int .u8 0) 1 rfl Tryd.underlying23 info5 rfl (by decide) (by omega) v187 y186 l0 _ _ _ (fun _ => True) (fun _ => False) rfl rfl ?aO ?aR (fun _ _ h => h) (fun _ h => h.elim) ?aF ?aB ?aS ?aL ?_; (case aR => repeat (first | exact (Kd.C_below HR0.out HB.out) | (with_reducible refine Kd.C_alloc ?_ _) | (with_reducible refine Kd.C_drewN ?_ _) | (with_reducible refine Kd.C_drew ?_))); (case aB => exact (by repeat (first | (with_reducible first | exact HB.out | apply below_alloc | apply pw_below_drewN | apply below_drew1 | refine below_set ?_ GE185.out) | exact HB.out))); (case aF => exact (fun _ _ => trivial)); (case aO => exact (by (with_reducible repeat (first | apply Kd.R_alloc | apply Kd.R_drewN | apply Kd.R_drew)); exact HO188.out)); (case aS => exact (below_size (by repeat (first | (with_reducible first | exact HB.out | apply below_alloc | apply pw_below_drewN | apply below_drew1 | refine below_set ?_ GE185.out) | exact HB.out)))); (case aL => have := LMc3.out; omega); intro v190 w8 ho hb hg hat; rw [← Ny189.out] at ho; have n0_ := Aside0.mk (blk_grown (g := gb185) (o := .cells #[.int .u8 a1_0, .int .u8 a1_1, .int .u8 a1_2] 37 (0, 0)) (by (with_reducible repeat (first | refine blk_drewN ?_ _ | refine blk_drew ?_ | refine blk_alloc ?_ _)); exact BK185.out) hg (Kd.R_ne HO188.out BK185.out (by decide))); have n1_ := Aside0.mk (hb); have n2_ := Aside0.mk (ho); clear BK185; clear HB; clear HO188; have BK185 := n0_; have HB := n1_; have HO191 := n2_; clear n0_ n1_ n2_; clear ho hb hg hat; obtain ⟨Ao9, co9, eo9⟩ := Kd.R_slice HO191.out; subst eo9) | ((with_reducible refine gate_dst (N := 5) rfl ?_); refine box_event ?hg (N := 5) ?hd (cs := #[.slice none 0 0]) (t := 25) ?hr ?_; (case hd => rfl); (case hg => rfl); (case hr => first | (go_simp; done) | (go_simp; rfl)); intro gb192 hg w10 hbox hb; have n0_ := Aside0.mk (Kd.R_below (by (with_reducible repeat (first | apply Kd.R_alloc | apply Kd.R_drewN | apply Kd.R_drew)); exact HO191.out) hb); have n1_ := Aside0.mk (blk_below (g := gb185) (o := .cells #[.int .u8 a1_0, .int .u8 a1_1, .int .u8 a1_2] 37 (0, 0)) (by (with_reducible repeat (first | refine blk_drewN ?_ _ | refine blk_drew ?_ | refine blk_alloc ?_ _)); exact BK185.out) hb); have n2_ := Aside0.mk (below_step (by repeat (first | (with_reducible first | exact HB.out | apply below_alloc | apply pw_below_drewN | apply below_drew1 | refine below_set ?_ GE185.out) | exact HB.out)) hb); have n3_ := Aside0.mk (hbox); have n4_ := Aside0.mk ((by rw [hg]; exact (below_size (by repeat (first | (with_reducible first | exact HB.out | apply below_alloc | apply pw_below_drewN | apply below_drew1 | refine below_set ?_ GE185.out) | exact HB.out))) : w.heap.size ≤ gb192)); have n5_ := Aside0.mk ((by rw [hg]; exact (below_size (by repeat (first | (with_reducible first | exact HB.out | apply below_alloc | apply pw_below_drewN | apply below_drew1 | refine below_set ?_ GE185.out) | exact HB.out))) : w.heap.size ≤ gb192)); have n6_ := Aside0.mk ((by rw [hg]; exact Nat.ne_of_lt (blk_lt (g := gb185) (o := .cells #[.int .u8 a1_0, .int .u8 a1_1, .int .u8 a1_2] 37 (0, 0)) (by (with_reducible repeat (first | refine blk_drewN ?_ _ | refine blk_drew ?_ | refine blk_alloc ?_ _)); exact BK185.out)) : gb185 ≠ gb192)); have n7_ := Aside0.mk ((by rw [hg]; exact Nat.ne_of_gt (blk_lt (g := gb185) (o := .cells #[.int .u8 a1_0, .int .u8 a1_1, .int .u8 a1_2] 37 (0, 0)) (by (with_reducible repeat (first | refine blk_drewN ?_ _ | refine blk_drew ?_ | refine blk_alloc ?_ _)); exact BK185.out)) : gb192 ≠ gb185)); clear HO191; clear BK185; clear HB; have HO191 := n0_; have BK185 := n1_; have HB := n2_; have BK192 := n3_; have GW192 := n4_; have GE192 := n5_; have NB185_192 := n6_; have NB192_185 := n7_; clear n0_ n1_ n2_ n3_ n4_ n5_ n6_ n7_; clear hb hbox hg; have hnb11 := NB192_185.out; have hnc11 := NB185_192.out; have hcz12_0 : w10.cell? ⟨gb192, 0, none⟩ = some (.slice none 0 0) := (blk_cell BK192.out 0).trans rfl; have hfz12_0 := blk_frozen BK192.out 0))
  (try simp only [Act.put, List.setIfInBounds_toArray, List.set_cons_zero, List.set_cons_succ])
  go_cut [23] (fun v23 wc => ∃ (kq : Nat) (x23_3 : Bool), v23 = .bool x23_3 ∧ Aside0 (colloquylaw01_LatticeLaws.j0 kq l0 x23_3 a1_0 a1_1 a1_2 y189 = some r) ∧ Aside0 (kq ≤ k) ∧ Aside0 (Kd.R (Kd.int .u8) 5 wc w.heap.size (fun _ => True) (.slice Ao9 y189.length co9) y189) ∧ Aside0 (wc.heap[gb185]? = some (.cells #[.int .u8 a1_0, .int .u8 a1_1, .int .u8 a1_2] 37 (0, 0))) ∧ Aside0 (wc.heap[gb192]? = some (.cells #[(.slice Ao9 y189.length co9)] 25 (0, 0))) ∧ Aside0 (Below w.heap.size w wc))
  case first =>
   have H := HC4.out
   clear HC4
   by_cases c13 : (l0.length : Int) > 20
   ·rw [if_pos c13] at H
    have c13b0 : decide (20 < (l0.length : Int)) = true := decide_eq_true c13
    have c13b1 : decide (20 < l0.length) = true := decide_eq_true (by omega)
    clear c13
    (first | rw [c13b0] | (simp only [i64_w, i32_w]; rw [c13b0]) | skip)
    have H' := Aside0.mk H
    clear H
    go_wp2
    go_meet
    case rel => exact ⟨_, (true), (by first | rfl | (simp; done) | (simp [*]; done)), H', ⟨by first | omega | exact Nat.le_refl _⟩, ⟨by (with_reducible repeat (first | apply Kd.R_alloc | apply Kd.R_drewN | apply Kd.R_drew)); exact Kd.R_mono (Kd.R_far (p := ⟨gb192, 0, none⟩) (Kd.R_types HO191.out BK192.out (by decide)) (fun _ hk => hk.2) (.slice Ao9 y189.length co9)) (fun _ hk => trivial)⟩, ⟨by (with_reducible repeat (first | refine blk_drewN ?_ _ | refine blk_drew ?_ | refine blk_alloc ?_ _)); refine blk_far ?_ NB185_192.out _; (with_reducible repeat (first | refine blk_drewN ?_ _ | refine blk_drew ?_ | refine blk_alloc ?_ _)); exact BK185.out⟩, ⟨by (with_reducible repeat (first | refine blk_drewN ?_ _ | refine blk_drew ?_ | refine blk_alloc ?_ _)); refine blk_put (cs := #[.slice none 0 0]) ?_ 0 _ rfl; (with_reducible repeat (first | refine blk_drewN ?_ _ | refine blk_drew ?_ | refine blk_alloc ?_ _)); exact BK192.out⟩, ⟨by repeat (first | (with_reducible first | exact HB.out | apply below_alloc | apply pw_below_drewN | apply below_drew1 | refine below_set ?_ GE185.out | refine below_set ?_ GE192.out) | exact HB.out)⟩⟩
   ·rw [if_neg c13] at H
    have c13b0 : decide (20 < (l0.length : Int)) = false := decide_eq_false c13
    have c13b1 : decide (20 < l0.length) = false := decide_eq_false (by omega)
    clear c13
    (first | rw [c13b0] | (simp only [i64_w, i32_w]; rw [c13b0]) | skip)
    replace H := Option.bind_eq_some_iff.mp H
    obtain ⟨t193, A140, H⟩ := H
    replace H : (if t193.isNone = true then (colloquylaw01_LatticeLaws.j0 k l0 false a1_0 a1_1 a1_2 y189) else (colloquylaw01_LatticeLaws.j0 k l0 true a1_0 a1_1 a1_2 y189)) = some r := H
    have A14 := Aside0.mk A140
    clear A140
    rcases t193 with _ | q194
    ·have H1 : (colloquylaw01_LatticeLaws.j0 k l0 false a1_0 a1_1 a1_2 y189) = some r := by rw [if_pos (show (none : Option Int).isNone = true by rfl)] at H; exact H
     clear H
     have H := H1
     clear H1
     try simp only [errW_none, errW_some]
     have H' := Aside0.mk H
     clear H
     have hnb15 := NB192_185.out
     have hnc15 := NB185_192.out
     have hcz16_0 : w10.cell? ⟨gb192, 0, none⟩ = some (.slice none 0 0) := (blk_cell BK192.out 0).trans rfl
     have hfz16_0 := blk_frozen BK192.out 0
     go_wp2_with (first | (go_at_call 11; (with_reducible refine (lattice_Check.calls k _ _ y189 none _ ?side1 ?side2 A14.out).mono ?_); (case side1 => refine (Kd.R_reads' (e := 5) (base := w.heap.size) (ok := fun k_ => True) (n := y189.length) (c := co9) ?_).2.2; exact (by (with_reducible repeat (first | apply Kd.R_alloc | apply Kd.R_drewN | apply Kd.R_drew)); exact (Kd.R_mono (Kd.R_far (p := ⟨gb192, 0, none⟩) (Kd.R_types HO191.out BK192.out (by decide)) (fun _ hk => hk.2) (.slice Ao9 y189.length co9)) (fun _ h_ => h_.1)))); (case side2 => exact (Kd.R_reads' HO191.out).2.1); rintro e w17 ⟨rfl, hb⟩; have n0_ := Aside0.mk (Kd.R_below (by (with_reducible repeat (first | apply Kd.R_alloc | apply Kd.R_drewN | apply Kd.R_drew)); exact (Kd.R_mono (Kd.R_far (p := ⟨gb192, 0, none⟩) (Kd.R_types HO191.out BK192.out (by decide)) (fun _ hk => hk.2) (.slice Ao9 y189.length co9)) (fun _ h_ => h_.1))) hb); have n1_ := Aside0.mk (blk_below (g := gb185) (o := .cells #[.int .u8 a1_0, .int .u8 a1_1, .int .u8 a1_2] 37 (0, 0)) (by (with_reducible repeat (first | refine blk_drewN ?_ _ | refine blk_drew ?_ | refine blk_alloc ?_ _)); refine blk_far ?_ NB185_192.out _; (with_reducible repeat (first | refine blk_drewN ?_ _ | refine blk_drew ?_ | refine blk_alloc ?_ _)); exact BK185.out) hb); have n2_ := Aside0.mk (blk_below (g := gb192) (o := .cells #[.slice Ao9 y189.length co9] 25 (0, 0)) (by (with_reducible repeat (first | refine blk_drewN ?_ _ | refine blk_drew ?_ | refine blk_alloc ?_ _)); refine blk_put (cs := #[.slice none 0 0]) ?_ 0 _ rfl; (with_reducible repeat (first | refine blk_drewN ?_ _ | refine blk_drew ?_ | refine blk_alloc ?_ _)); exact BK192.out) hb); have n3_ := Aside0.mk (below_step (by repeat (first | (with_reducible first | exact HB.out | apply below_alloc | apply pw_below_drewN | apply below_drew1 | refine below_set ?_ GE185.out | refine below_set ?_ GE192.out) | exact HB.out)) hb); clear HO191; clear BK185; clear BK192; clear HB; have HO191 := n0_; have BK185 := n1_; have BK192 := n2_; have HB := n3_; clear n0_ n1_ n2_ n3_; (try clear hb); (try clear hb2); (try clear hk); (try clear hi); (try simp only [errW_none, errW_some])))
     go_meet
     case rel => exact ⟨_, (false), (by first | rfl | (simp; done) | (simp [*]; done)), H', ⟨by first | omega | exact Nat.le_refl _⟩, ⟨by (with_reducible repeat (first | apply Kd.R_alloc | apply Kd.R_drewN | apply Kd.R_drew)); exact HO191.out⟩, ⟨by (with_reducible repeat (first | refine blk_drewN ?_ _ | refine blk_drew ?_ | refine blk_alloc ?_ _)); exact BK185.out⟩, ⟨by (with_reducible repeat (first | refine blk_drewN ?_ _ | refine blk_drew ?_ | refine blk_alloc ?_ _)); exact BK192.out⟩, ⟨by repeat (first | (with_reducible first | exact HB.out | apply below_alloc | apply pw_below_drewN | apply below_drew1 | refine below_set ?_ GE185.out | refine below_set ?_ GE192.out) | exact HB.out)⟩⟩
    ·have H1 : (colloquylaw01_LatticeLaws.j0 k l0 true a1_0 a1_1 a1_2 y189) = some r := by rw [if_neg (show ¬ (some q194).isNone = true by simp)] at H; exact H
     clear H
     have H := H1
     clear H1
     try simp only [errW_none, errW_some]
     have H' := Aside0.mk H
     clear H
     have hnb18 := NB192_185.out
     have hnc18 := NB185_192.out
     have hcz19_0 : w10.cell? ⟨gb192, 0, none⟩ = some (.slice none 0 0) := (blk_cell BK192.out 0).trans rfl
     have hfz19_0 := blk_frozen BK192.out 0
     go_wp2_with (first | (go_at_call 11; (with_reducible refine (lattice_Check.calls k _ _ y189 (some q194) _ ?side1 ?side2 A14.out).mono ?_); (case side1 => refine (Kd.R_reads' (e := 5) (base := w.heap.size) (ok := fun k_ => True) (n := y189.length) (c := co9) ?_).2.2; exact (by (with_reducible repeat (first | apply Kd.R_alloc | apply Kd.R_drewN | apply Kd.R_drew)); exact (Kd.R_mono (Kd.R_far (p := ⟨gb192, 0, none⟩) (Kd.R_types HO191.out BK192.out (by decide)) (fun _ hk => hk.2) (.slice Ao9 y189.length co9)) (fun _ h_ => h_.1)))); (case side2 => exact (Kd.R_reads' HO191.out).2.1); rintro e w20 ⟨rfl, hb⟩; have n0_ := Aside0.mk (Kd.R_below (by (with_reducible repeat (first | apply Kd.R_alloc | apply Kd.R_drewN | apply Kd.R_drew)); exact (Kd.R_mono (Kd.R_far (p := ⟨gb192, 0, none⟩) (Kd.R_types HO191.out BK192.out (by decide)) (fun _ hk => hk.2) (.slice Ao9 y189.length co9)) (fun _ h_ => h_.1))) hb); have n1_ := Aside0.mk (blk_below (g := gb185) (o := .cells #[.int .u8 a1_0, .int .u8 a1_1, .int .u8 a1_2] 37 (0, 0)) (by (with_reducible repeat (first | refine blk_drewN ?_ _ | refine blk_drew ?_ | refine blk_alloc ?_ _)); refine blk_far ?_ NB185_192.out _; (with_reducible repeat (first | refine blk_drewN ?_ _ | refine blk_drew ?_ | refine blk_alloc ?_ _)); exact BK185.out) hb); have n2_ := Aside0.mk (blk_below (g := gb192) (o := .cells #[.slice Ao9 y189.length co9] 25 (0, 0)) (by (with_reducible repeat (first | refine blk_drewN ?_ _ | refine blk_drew ?_ | refine blk_alloc ?_ _)); refine blk_put (cs := #[.slice none 0 0]) ?_ 0 _ rfl; (with_reducible repeat (first | refine blk_drewN ?_ _ | refine blk_drew ?_ | refine blk_alloc ?_ _)); exact BK192.out) hb); have n3_ := Aside0.mk (below_step (by repeat (first | (with_reducible first | exact HB.out | apply below_alloc | apply pw_below_drewN | apply below_drew1 | refine below_set ?_ GE185.out | refine below_set ?_ GE192.out) | exact HB.out)) hb); clear HO191; clear BK185; clear BK192; clear HB; have HO191 := n0_; have BK185 := n1_; have BK192 := n2_; have HB := n3_; clear n0_ n1_ n2_ n3_; (try clear hb); (try clear hb2); (try clear hk); (try clear hi); (try simp only [errW_none, errW_some])))
     go_meet
     case rel => exact ⟨_, (true), (by first | rfl | (simp; done) | (simp [*]; done)), H', ⟨by first | omega | exact Nat.le_refl _⟩, ⟨by (with_reducible repeat (first | apply Kd.R_alloc | apply Kd.R_drewN | apply Kd.R_drew)); exact HO191.out⟩, ⟨by (with_reducible repeat (first | refine blk_drewN ?_ _ | refine blk_drew ?_ | refine blk_alloc ?_ _)); exact BK185.out⟩, ⟨by (with_reducible repeat (first | refine blk_drewN ?_ _ | refine blk_drew ?_ | refine blk_alloc ?_ _)); exact BK192.out⟩, ⟨by repeat (first | (with_reducible first | exact HB.out | apply below_alloc | apply pw_below_drewN | apply below_drew1 | refine below_set ?_ GE185.out | refine below_set ?_ GE192.out) | exact HB.out)⟩⟩
  case rest =>
   clear HC4
   try clear c1
   try clear q1
   try clear p2
   try clear c3
   try clear c4
   try clear c11
   try clear c13
   try clear c13b0
   try clear c13b1
   try clear c15
   try clear c18
   try clear q19
   try clear hcz12_0
   try clear hcz16_0
   try clear hcz19_0
   try clear hfz12_0
   try clear hfz16_0
   try clear hfz19_0
   try clear q194
   obtain ⟨kq, x23_3, rfl, HA, HJ3, HO_193000, BK185, BK192, HB⟩ := hcut
   cases kq with
   | zero => exact absurd HA.out (by simp [colloquylaw01_LatticeLaws.j0])
   | succ kj3 =>
    have H := HA.out
    clear HA
    simp only [colloquylaw01_LatticeLaws.j0] at H
    by_cases c21 : x23_3 = true
    ·subst c21
     have H1 : ((colloquylaw01_sure.f kj3).bind fun t195 => (some t195)) = some r := by rw [if_pos rfl] at H; exact H
     clear H
     have H := H1
     clear H1
     replace H := Option.bind_eq_some_iff.mp H
     obtain ⟨t195, A220, H⟩ := H
     replace H : (some t195) = some r := H
     have A22 := Aside0.mk A220
     clear A220
     obtain rfl := Option.some.inj H
     go_wp2_with (first | ((with_reducible refine gate_callee (f := 10) rfl ?_); refine goesL_ (some 24) rfl rfl Tryd.func10 (by kernel_rfl) rfl #[] rfl (by (try simp only [List.map_toArray, List.map_cons, List.map_nil]); first | done | rfl | (simp only [List.length_drop, List.length_take]; rfl)) ?_; (with_reducible refine (colloquylaw01_sure.calls kj3  t195 _ ?side1 A22.out).mono ?_); (case side1 => exact HG.out.below (by repeat (first | (with_reducible first | exact HB.out | apply below_alloc | apply pw_below_drewN | apply below_drew1 | refine below_set ?_ GE185.out | refine below_set ?_ GE192.out) | exact HB.out))); rintro e w23 ⟨rfl, hb⟩; refine ⟨_, rfl, ?_⟩; have n0_ := Aside0.mk (Kd.R_below (by (with_reducible repeat (first | apply Kd.R_alloc | apply Kd.R_drewN | apply Kd.R_drew)); exact HO_193000.out) hb); have n1_ := Aside0.mk (blk_below (g := gb185) (o := .cells #[.int .u8 a1_0, .int .u8 a1_1, .int .u8 a1_2] 37 (0, 0)) (by (with_reducible repeat (first | refine blk_drewN ?_ _ | refine blk_drew ?_ | refine blk_alloc ?_ _)); exact BK185.out) hb); have n2_ := Aside0.mk (blk_below (g := gb192) (o := .cells #[.slice Ao9 y189.length co9] 25 (0, 0)) (by (with_reducible repeat (first | refine blk_drewN ?_ _ | refine blk_drew ?_ | refine blk_alloc ?_ _)); exact BK192.out) hb); have n3_ := Aside0.mk (below_step (by repeat (first | (with_reducible first | exact HB.out | apply below_alloc | apply pw_below_drewN | apply below_drew1 | refine below_set ?_ GE185.out | refine below_set ?_ GE192.out) | exact HB.out)) hb); clear HO_193000; clear BK185; clear BK192; clear HB; have HO_193000 := n0_; have BK185 := n1_; have BK192 := n2_; have HB := n3_; clear n0_ n1_ n2_ n3_; (try clear hb); (try clear hb2); (try clear hk); (try clear hi)))
     go_ret
     exact ⟨by first | rfl | (simp [errW_none, errW_some] <;> rfl) | (simp [*, errW_none, errW_some] <;> rfl), by repeat (first | (with_reducible first | exact HB.out | apply below_alloc | apply pw_below_drewN | apply below_drew1 | refine below_set ?_ GE185.out | refine below_set ?_ GE192.out) | exact HB.out)⟩
    ·replace c21 := Bool.eq_false_iff.mpr c21
     subst c21
     have H1 : (if (l0.length : Int) = 0 then (none) else ((lattice_Lat_Join.f kj3 y189 (Int.tmod (wrap64 (a1_0)) (l0.length : Int)) (Int.tmod (wrap64 (a1_1)) (l0.length : Int))).bind fun t196 => ((lattice_Lat_Meet.f kj3 y189 (Int.tmod (wrap64 (a1_0)) (l0.length : Int)) (Int.tmod (wrap64 (a1_1)) (l0.length : Int))).bind fun t197 => ((lattice_Lat_Join.f kj3 y189 (Int.tmod (wrap64 (a1_1)) (l0.length : Int)) (Int.tmod (wrap64 (a1_0)) (l0.length : Int))).bind fun t198 => (if t196 = t198 then ((lattice_Lat_Meet.f kj3 y189 (Int.tmod (wrap64 (a1_1)) (l0.length : Int)) (Int.tmod (wrap64 (a1_0)) (l0.length : Int))).bind fun t199 => (if t197 = t199 then ((lattice_Lat_Join.f kj3 y189 t196 (Int.tmod (wrap64 (a1_2)) (l0.length : Int))).bind fun t200 => ((lattice_Lat_Join.f kj3 y189 (Int.tmod (wrap64 (a1_1)) (l0.length : Int)) (Int.tmod (wrap64 (a1_2)) (l0.length : Int))).bind fun t201 => ((lattice_Lat_Join.f kj3 y189 (Int.tmod (wrap64 (a1_0)) (l0.length : Int)) t201).bind fun t202 => (if t200 = t202 then ((lattice_Lat_Meet.f kj3 y189 t197 (Int.tmod (wrap64 (a1_2)) (l0.length : Int))).bind fun t203 => ((lattice_Lat_Meet.f kj3 y189 (Int.tmod (wrap64 (a1_1)) (l0.length : Int)) (Int.tmod (wrap64 (a1_2)) (l0.length : Int))).bind fun t204 => ((lattice_Lat_Meet.f kj3 y189 (Int.tmod (wrap64 (a1_0)) (l0.length : Int)) t204).bind fun t205 => (if t203 = t205 then ((lattice_Lat_Join.f kj3 y189 (Int.tmod (wrap64 (a1_0)) (l0.length : Int)) (Int.tmod (wrap64 (a1_0)) (l0.length : Int))).bind fun t206 => (if t206 = (Int.tmod (wrap64 (a1_0)) (l0.length : Int)) then ((lattice_Lat_Meet.f kj3 y189 (Int.tmod (wrap64 (a1_0)) (l0.length : Int)) (Int.tmod (wrap64 (a1_0)) (l0.length : Int))).bind fun t207 => (if t207 = (Int.tmod (wrap64 (a1_0)) (l0.length : Int)) then ((lattice_Lat_Join.f kj3 y189 (Int.tmod (wrap64 (a1_0)) (l0.length : Int)) t197).bind fun t208 => (if t208 = (Int.tmod (wrap64 (a1_0)) (l0.length : Int)) then ((lattice_Lat_Meet.f kj3 y189 (Int.tmod (wrap64 (a1_0)) (l0.length : Int)) t196).bind fun t209 => (if t209 = (Int.tmod (wrap64 (a1_0)) (l0.length : Int)) then ((lattice_Lat_Leq.f kj3 y189 (Int.tmod (wrap64 (a1_0)) (l0.length : Int)) (Int.tmod (wrap64 (a1_1)) (l0.length : Int))).bind fun t210 => (if (t210 == (t196 == (Int.tmod (wrap64 (a1_1)) (l0.length : Int)))) = true then ((lattice_Lat_Leq.f kj3 y189 (Int.tmod (wrap64 (a1_0)) (l0.length : Int)) (Int.tmod (wrap64 (a1_1)) (l0.length : Int))).bind fun t211 => (if (t211 == (t197 == (Int.tmod (wrap64 (a1_0)) (l0.length : Int)))) = true then ((lattice_Lat_Bottom.f kj3 y189).bind fun t212 => ((lattice_Lat_Leq.f kj3 y189 t212 (Int.tmod (wrap64 (a1_0)) (l0.length : Int))).bind fun t213 => (if t213 = true then ((lattice_Lat_Top.f kj3 y189).bind fun t214 => ((lattice_Lat_Leq.f kj3 y189 (Int.tmod (wrap64 (a1_0)) (l0.length : Int)) t214).bind fun t215 => (if t215 = true then ((lattice_Lat_Leq.f kj3 y189 (Int.tmod (wrap64 (a1_0)) (l0.length : Int)) t196).bind fun t216 => (if t216 = true then ((lattice_Lat_Leq.f kj3 y189 t197 (Int.tmod (wrap64 (a1_1)) (l0.length : Int))).bind fun t217 => (if t217 = true then ((colloquylaw01_sure.f kj3).bind fun t218 => (some t218)) else (none))) else (none))) else (none)))) else (none)))) else (none))) else (none))) else (none))) else (none))) else (none))) else (none))) else (none))))) else (none))))) else (none))) else (none)))))) = some r := by rw [if_neg (show ¬ (false = true) by decide)] at H; exact H
     clear H
     have H := H1
     clear H1
     by_cases c24 : (l0.length : Int) = 0
     ·rw [if_pos c24] at H
      exact absurd H (by simp)
     ·rw [if_neg c24] at H
      have c24b0 : ((l0.length : Int) == 0) = false := beq_eq_false_iff_ne.mpr c24
      have c24b1 : ((l0.length : Int) != 0) = true := bne_iff_ne.mpr c24
      have c24b2 : ¬ (l0 = []) := fun h_ => c24 (by rw [h_]; rfl)
      replace H := Option.bind_eq_some_iff.mp H
      obtain ⟨t196, A250, H⟩ := H
      replace H : ((lattice_Lat_Meet.f kj3 y189 (Int.tmod (wrap64 (a1_0)) (l0.length : Int)) (Int.tmod (wrap64 (a1_1)) (l0.length : Int))).bind fun t197 => ((lattice_Lat_Join.f kj3 y189 (Int.tmod (wrap64 (a1_1)) (l0.length : Int)) (Int.tmod (wrap64 (a1_0)) (l0.length : Int))).bind fun t198 => (if t196 = t198 then ((lattice_Lat_Meet.f kj3 y189 (Int.tmod (wrap64 (a1_1)) (l0.length : Int)) (Int.tmod (wrap64 (a1_0)) (l0.length : Int))).bind fun t199 => (if t197 = t199 then ((lattice_Lat_Join.f kj3 y189 t196 (Int.tmod (wrap64 (a1_2)) (l0.length : Int))).bind fun t200 => ((lattice_Lat_Join.f kj3 y189 (Int.tmod (wrap64 (a1_1)) (l0.length : Int)) (Int.tmod (wrap64 (a1_2)) (l0.length : Int))).bind fun t201 => ((lattice_Lat_Join.f kj3 y189 (Int.tmod (wrap64 (a1_0)) (l0.length : Int)) t201).bind fun t202 => (if t200 = t202 then ((lattice_Lat_Meet.f kj3 y189 t197 (Int.tmod (wrap64 (a1_2)) (l0.length : Int))).bind fun t203 => ((lattice_Lat_Meet.f kj3 y189 (Int.tmod (wrap64 (a1_1)) (l0.length : Int)) (Int.tmod (wrap64 (a1_2)) (l0.length : Int))).bind fun t204 => ((lattice_Lat_Meet.f kj3 y189 (Int.tmod (wrap64 (a1_0)) (l0.length : Int)) t204).bind fun t205 => (if t203 = t205 then ((lattice_Lat_Join.f kj3 y189 (Int.tmod (wrap64 (a1_0)) (l0.length : Int)) (Int.tmod (wrap64 (a1_0)) (l0.length : Int))).bind fun t206 => (if t206 = (Int.tmod (wrap64 (a1_0)) (l0.length : Int)) then ((lattice_Lat_Meet.f kj3 y189 (Int.tmod (wrap64 (a1_0)) (l0.length : Int)) (Int.tmod (wrap64 (a1_0)) (l0.length : Int))).bind fun t207 => (if t207 = (Int.tmod (wrap64 (a1_0)) (l0.length : Int)) then ((lattice_Lat_Join.f kj3 y189 (Int.tmod (wrap64 (a1_0)) (l0.length : Int)) t197).bind fun t208 => (if t208 = (Int.tmod (wrap64 (a1_0)) (l0.length : Int)) then ((lattice_Lat_Meet.f kj3 y189 (Int.tmod (wrap64 (a1_0)) (l0.length : Int)) t196).bind fun t209 => (if t209 = (Int.tmod (wrap64 (a1_0)) (l0.length : Int)) then ((lattice_Lat_Leq.f kj3 y189 (Int.tmod (wrap64 (a1_0)) (l0.length : Int)) (Int.tmod (wrap64 (a1_1)) (l0.length : Int))).bind fun t210 => (if (t210 == (t196 == (Int.tmod (wrap64 (a1_1)) (l0.length : Int)))) = true then ((lattice_Lat_Leq.f kj3 y189 (Int.tmod (wrap64 (a1_0)) (l0.length : Int)) (Int.tmod (wrap64 (a1_1)) (l0.length : Int))).bind fun t211 => (if (t211 == (t197 == (Int.tmod (wrap64 (a1_0)) (l0.length : Int)))) = true then ((lattice_Lat_Bottom.f kj3 y189).bind fun t212 => ((lattice_Lat_Leq.f kj3 y189 t212 (Int.tmod (wrap64 (a1_0)) (l0.length : Int))).bind fun t213 => (if t213 = true then ((lattice_Lat_Top.f kj3 y189).bind fun t214 => ((lattice_Lat_Leq.f kj3 y189 (Int.tmod (wrap64 (a1_0)) (l0.length : Int)) t214).bind fun t215 => (if t215 = true then ((lattice_Lat_Leq.f kj3 y189 (Int.tmod (wrap64 (a1_0)) (l0.length : Int)) t196).bind fun t216 => (if t216 = true then ((lattice_Lat_Leq.f kj3 y189 t197 (Int.tmod (wrap64 (a1_1)) (l0.length : Int))).bind fun t217 => (if t217 = true then ((colloquylaw01_sure.f kj3).bind fun t218 => (some t218)) else (none))) else (none))) else (none)))) else (none)))) else (none))) else (none))) else (none))) else (none))) else (none))) else (none))) else (none))))) else (none))))) else (none))) else (none)))) = some r := H
      have A25 := Aside0.mk A250
      clear A250
      replace H := Option.bind_eq_some_iff.mp H
      obtain ⟨t197, A260, H⟩ := H
      replace H : ((lattice_Lat_Join.f kj3 y189 (Int.tmod (wrap64 (a1_1)) (l0.length : Int)) (Int.tmod (wrap64 (a1_0)) (l0.length : Int))).bind fun t198 => (if t196 = t198 then ((lattice_Lat_Meet.f kj3 y189 (Int.tmod (wrap64 (a1_1)) (l0.length : Int)) (Int.tmod (wrap64 (a1_0)) (l0.length : Int))).bind fun t199 => (if t197 = t199 then ((lattice_Lat_Join.f kj3 y189 t196 (Int.tmod (wrap64 (a1_2)) (l0.length : Int))).bind fun t200 => ((lattice_Lat_Join.f kj3 y189 (Int.tmod (wrap64 (a1_1)) (l0.length : Int)) (Int.tmod (wrap64 (a1_2)) (l0.length : Int))).bind fun t201 => ((lattice_Lat_Join.f kj3 y189 (Int.tmod (wrap64 (a1_0)) (l0.length : Int)) t201).bind fun t202 => (if t200 = t202 then ((lattice_Lat_Meet.f kj3 y189 t197 (Int.tmod (wrap64 (a1_2)) (l0.length : Int))).bind fun t203 => ((lattice_Lat_Meet.f kj3 y189 (Int.tmod (wrap64 (a1_1)) (l0.length : Int)) (Int.tmod (wrap64 (a1_2)) (l0.length : Int))).bind fun t204 => ((lattice_Lat_Meet.f kj3 y189 (Int.tmod (wrap64 (a1_0)) (l0.length : Int)) t204).bind fun t205 => (if t203 = t205 then ((lattice_Lat_Join.f kj3 y189 (Int.tmod (wrap64 (a1_0)) (l0.length : Int)) (Int.tmod (wrap64 (a1_0)) (l0.length : Int))).bind fun t206 => (if t206 = (Int.tmod (wrap64 (a1_0)) (l0.length : Int)) then ((lattice_Lat_Meet.f kj3 y189 (Int.tmod (wrap64 (a1_0)) (l0.length : Int)) (Int.tmod (wrap64 (a1_0)) (l0.length : Int))).bind fun t207 => (if t207 = (Int.tmod (wrap64 (a1_0)) (l0.length : Int)) then ((lattice_Lat_Join.f kj3 y189 (Int.tmod (wrap64 (a1_0)) (l0.length : Int)) t197).bind fun t208 => (if t208 = (Int.tmod (wrap64 (a1_0)) (l0.length : Int)) then ((lattice_Lat_Meet.f kj3 y189 (Int.tmod (wrap64 (a1_0)) (l0.length : Int)) t196).bind fun t209 => (if t209 = (Int.tmod (wrap64 (a1_0)) (l0.length : Int)) then ((lattice_Lat_Leq.f kj3 y189 (Int.tmod (wrap64 (a1_0)) (l0.length : Int)) (Int.tmod (wrap64 (a1_1)) (l0.length : Int))).bind fun t210 => (if (t210 == (t196 == (Int.tmod (wrap64 (a1_1)) (l0.length : Int)))) = true then ((lattice_Lat_Leq.f kj3 y189 (Int.tmod (wrap64 (a1_0)) (l0.length : Int)) (Int.tmod (wrap64 (a1_1)) (l0.length : Int))).bind fun t211 => (if (t211 == (t197 == (Int.tmod (wrap64 (a1_0)) (l0.length : Int)))) = true then ((lattice_Lat_Bottom.f kj3 y189).bind fun t212 => ((lattice_Lat_Leq.f kj3 y189 t212 (Int.tmod (wrap64 (a1_0)) (l0.length : Int))).bind fun t213 => (if t213 = true then ((lattice_Lat_Top.f kj3 y189).bind fun t214 => ((lattice_Lat_Leq.f kj3 y189 (Int.tmod (wrap64 (a1_0)) (l0.length : Int)) t214).bind fun t215 => (if t215 = true then ((lattice_Lat_Leq.f kj3 y189 (Int.tmod (wrap64 (a1_0)) (l0.length : Int)) t196).bind fun t216 => (if t216 = true then ((lattice_Lat_Leq.f kj3 y189 t197 (Int.tmod (wrap64 (a1_1)) (l0.length : Int))).bind fun t217 => (if t217 = true then ((colloquylaw01_sure.f kj3).bind fun t218 => (some t218)) else (none))) else (none))) else (none)))) else (none)))) else (none))) else (none))) else (none))) else (none))) else (none))) else (none))) else (none))))) else (none))))) else (none))) else (none))) = some r := H
      have A26 := Aside0.mk A260
      clear A260
      replace H := Option.bind_eq_some_iff.mp H
      obtain ⟨t198, A270, H⟩ := H
      replace H : (if t196 = t198 then ((lattice_Lat_Meet.f kj3 y189 (Int.tmod (wrap64 (a1_1)) (l0.length : Int)) (Int.tmod (wrap64 (a1_0)) (l0.length : Int))).bind fun t199 => (if t197 = t199 then ((lattice_Lat_Join.f kj3 y189 t196 (Int.tmod (wrap64 (a1_2)) (l0.length : Int))).bind fun t200 => ((lattice_Lat_Join.f kj3 y189 (Int.tmod (wrap64 (a1_1)) (l0.length : Int)) (Int.tmod (wrap64 (a1_2)) (l0.length : Int))).bind fun t201 => ((lattice_Lat_Join.f kj3 y189 (Int.tmod (wrap64 (a1_0)) (l0.length : Int)) t201).bind fun t202 => (if t200 = t202 then ((lattice_Lat_Meet.f kj3 y189 t197 (Int.tmod (wrap64 (a1_2)) (l0.length : Int))).bind fun t203 => ((lattice_Lat_Meet.f kj3 y189 (Int.tmod (wrap64 (a1_1)) (l0.length : Int)) (Int.tmod (wrap64 (a1_2)) (l0.length : Int))).bind fun t204 => ((lattice_Lat_Meet.f kj3 y189 (Int.tmod (wrap64 (a1_0)) (l0.length : Int)) t204).bind fun t205 => (if t203 = t205 then ((lattice_Lat_Join.f kj3 y189 (Int.tmod (wrap64 (a1_0)) (l0.length : Int)) (Int.tmod (wrap64 (a1_0)) (l0.length : Int))).bind fun t206 => (if t206 = (Int.tmod (wrap64 (a1_0)) (l0.length : Int)) then ((lattice_Lat_Meet.f kj3 y189 (Int.tmod (wrap64 (a1_0)) (l0.length : Int)) (Int.tmod (wrap64 (a1_0)) (l0.length : Int))).bind fun t207 => (if t207 = (Int.tmod (wrap64 (a1_0)) (l0.length : Int)) then ((lattice_Lat_Join.f kj3 y189 (Int.tmod (wrap64 (a1_0)) (l0.length : Int)) t197).bind fun t208 => (if t208 = (Int.tmod (wrap64 (a1_0)) (l0.length : Int)) then ((lattice_Lat_Meet.f kj3 y189 (Int.tmod (wrap64 (a1_0)) (l0.length : Int)) t196).bind fun t209 => (if t209 = (Int.tmod (wrap64 (a1_0)) (l0.length : Int)) then ((lattice_Lat_Leq.f kj3 y189 (Int.tmod (wrap64 (a1_0)) (l0.length : Int)) (Int.tmod (wrap64 (a1_1)) (l0.length : Int))).bind fun t210 => (if (t210 == (t196 == (Int.tmod (wrap64 (a1_1)) (l0.length : Int)))) = true then ((lattice_Lat_Leq.f kj3 y189 (Int.tmod (wrap64 (a1_0)) (l0.length : Int)) (Int.tmod (wrap64 (a1_1)) (l0.length : Int))).bind fun t211 => (if (t211 == (t197 == (Int.tmod (wrap64 (a1_0)) (l0.length : Int)))) = true then ((lattice_Lat_Bottom.f kj3 y189).bind fun t212 => ((lattice_Lat_Leq.f kj3 y189 t212 (Int.tmod (wrap64 (a1_0)) (l0.length : Int))).bind fun t213 => (if t213 = true then ((lattice_Lat_Top.f kj3 y189).bind fun t214 => ((lattice_Lat_Leq.f kj3 y189 (Int.tmod (wrap64 (a1_0)) (l0.length : Int)) t214).bind fun t215 => (if t215 = true then ((lattice_Lat_Leq.f kj3 y189 (Int.tmod (wrap64 (a1_0)) (l0.length : Int)) t196).bind fun t216 => (if t216 = true then ((lattice_Lat_Leq.f kj3 y189 t197 (Int.tmod (wrap64 (a1_1)) (l0.length : Int))).bind fun t217 => (if t217 = true then ((colloquylaw01_sure.f kj3).bind fun t218 => (some t218)) else (none))) else (none))) else (none)))) else (none)))) else (none))) else (none))) else (none))) else (none))) else (none))) else (none))) else (none))))) else (none))))) else (none))) else (none)) = some r := H
      have A27 := Aside0.mk A270
      clear A270
      by_cases c28 : t196 = t198
      ·rw [if_pos c28] at H
       have c28b0 : (t196 == t198) = true := beq_iff_eq.mpr c28
       have c28b1 : (t196 != t198) = false := bne_eq_false_iff_eq.mpr c28
       clear c28
       replace H := Option.bind_eq_some_iff.mp H
       obtain ⟨t199, A290, H⟩ := H
       replace H : (if t197 = t199 then ((lattice_Lat_Join.f kj3 y189 t196 (Int.tmod (wrap64 (a1_2)) (l0.length : Int))).bind fun t200 => ((lattice_Lat_Join.f kj3 y189 (Int.tmod (wrap64 (a1_1)) (l0.length : Int)) (Int.tmod (wrap64 (a1_2)) (l0.length : Int))).bind fun t201 => ((lattice_Lat_Join.f kj3 y189 (Int.tmod (wrap64 (a1_0)) (l0.length : Int)) t201).bind fun t202 => (if t200 = t202 then ((lattice_Lat_Meet.f kj3 y189 t197 (Int.tmod (wrap64 (a1_2)) (l0.length : Int))).bind fun t203 => ((lattice_Lat_Meet.f kj3 y189 (Int.tmod (wrap64 (a1_1)) (l0.length : Int)) (Int.tmod (wrap64 (a1_2)) (l0.length : Int))).bind fun t204 => ((lattice_Lat_Meet.f kj3 y189 (Int.tmod (wrap64 (a1_0)) (l0.length : Int)) t204).bind fun t205 => (if t203 = t205 then ((lattice_Lat_Join.f kj3 y189 (Int.tmod (wrap64 (a1_0)) (l0.length : Int)) (Int.tmod (wrap64 (a1_0)) (l0.length : Int))).bind fun t206 => (if t206 = (Int.tmod (wrap64 (a1_0)) (l0.length : Int)) then ((lattice_Lat_Meet.f kj3 y189 (Int.tmod (wrap64 (a1_0)) (l0.length : Int)) (Int.tmod (wrap64 (a1_0)) (l0.length : Int))).bind fun t207 => (if t207 = (Int.tmod (wrap64 (a1_0)) (l0.length : Int)) then ((lattice_Lat_Join.f kj3 y189 (Int.tmod (wrap64 (a1_0)) (l0.length : Int)) t197).bind fun t208 => (if t208 = (Int.tmod (wrap64 (a1_0)) (l0.length : Int)) then ((lattice_Lat_Meet.f kj3 y189 (Int.tmod (wrap64 (a1_0)) (l0.length : Int)) t196).bind fun t209 => (if t209 = (Int.tmod (wrap64 (a1_0)) (l0.length : Int)) then ((lattice_Lat_Leq.f kj3 y189 (Int.tmod (wrap64 (a1_0)) (l0.length : Int)) (Int.tmod (wrap64 (a1_1)) (l0.length : Int))).bind fun t210 => (if (t210 == (t196 == (Int.tmod (wrap64 (a1_1)) (l0.length : Int)))) = true then ((lattice_Lat_Leq.f kj3 y189 (Int.tmod (wrap64 (a1_0)) (l0.length : Int)) (Int.tmod (wrap64 (a1_1)) (l0.length : Int))).bind fun t211 => (if (t211 == (t197 == (Int.tmod (wrap64 (a1_0)) (l0.length : Int)))) = true then ((lattice_Lat_Bottom.f kj3 y189).bind fun t212 => ((lattice_Lat_Leq.f kj3 y189 t212 (Int.tmod (wrap64 (a1_0)) (l0.length : Int))).bind fun t213 => (if t213 = true then ((lattice_Lat_Top.f kj3 y189).bind fun t214 => ((lattice_Lat_Leq.f kj3 y189 (Int.tmod (wrap64 (a1_0)) (l0.length : Int)) t214).bind fun t215 => (if t215 = true then ((lattice_Lat_Leq.f kj3 y189 (Int.tmod (wrap64 (a1_0)) (l0.length : Int)) t196).bind fun t216 => (if t216 = true then ((lattice_Lat_Leq.f kj3 y189 t197 (Int.tmod (wrap64 (a1_1)) (l0.length : Int))).bind fun t217 => (if t217 = true then ((colloquylaw01_sure.f kj3).bind fun t218 => (some t218)) else (none))) else (none))) else (none)))) else (none)))) else (none))) else (none))) else (none))) else (none))) else (none))) else (none))) else (none))))) else (none))))) else (none)) = some r := H
       have A29 := Aside0.mk A290
       clear A290
       by_cases c30 : t197 = t199
       ·rw [if_pos c30] at H
        have c30b0 : (t197 == t199) = true := beq_iff_eq.mpr c30
        have c30b1 : (t197 != t199) = false := bne_eq_false_iff_eq.mpr c30
        clear c30
        replace H := Option.bind_eq_some_iff.mp H
        obtain ⟨t200, A310, H⟩ := H
        replace H : ((lattice_Lat_Join.f kj3 y189 (Int.tmod (wrap64 (a1_1)) (l0.length : Int)) (Int.tmod (wrap64 (a1_2)) (l0.length : Int))).bind fun t201 => ((lattice_Lat_Join.f kj3 y189 (Int.tmod (wrap64 (a1_0)) (l0.length : Int)) t201).bind fun t202 => (if t200 = t202 then ((lattice_Lat_Meet.f kj3 y189 t197 (Int.tmod (wrap64 (a1_2)) (l0.length : Int))).bind fun t203 => ((lattice_Lat_Meet.f kj3 y189 (Int.tmod (wrap64 (a1_1)) (l0.length : Int)) (Int.tmod (wrap64 (a1_2)) (l0.length : Int))).bind fun t204 => ((lattice_Lat_Meet.f kj3 y189 (Int.tmod (wrap64 (a1_0)) (l0.length : Int)) t204).bind fun t205 => (if t203 = t205 then ((lattice_Lat_Join.f kj3 y189 (Int.tmod (wrap64 (a1_0)) (l0.length : Int)) (Int.tmod (wrap64 (a1_0)) (l0.length : Int))).bind fun t206 => (if t206 = (Int.tmod (wrap64 (a1_0)) (l0.length : Int)) then ((lattice_Lat_Meet.f kj3 y189 (Int.tmod (wrap64 (a1_0)) (l0.length : Int)) (Int.tmod (wrap64 (a1_0)) (l0.length : Int))).bind fun t207 => (if t207 = (Int.tmod (wrap64 (a1_0)) (l0.length : Int)) then ((lattice_Lat_Join.f kj3 y189 (Int.tmod (wrap64 (a1_0)) (l0.length : Int)) t197).bind fun t208 => (if t208 = (Int.tmod (wrap64 (a1_0)) (l0.length : Int)) then ((lattice_Lat_Meet.f kj3 y189 (Int.tmod (wrap64 (a1_0)) (l0.length : Int)) t196).bind fun t209 => (if t209 = (Int.tmod (wrap64 (a1_0)) (l0.length : Int)) then ((lattice_Lat_Leq.f kj3 y189 (Int.tmod (wrap64 (a1_0)) (l0.length : Int)) (Int.tmod (wrap64 (a1_1)) (l0.length : Int))).bind fun t210 => (if (t210 == (t196 == (Int.tmod (wrap64 (a1_1)) (l0.length : Int)))) = true then ((lattice_Lat_Leq.f kj3 y189 (Int.tmod (wrap64 (a1_0)) (l0.length : Int)) (Int.tmod (wrap64 (a1_1)) (l0.length : Int))).bind fun t211 => (if (t211 == (t197 == (Int.tmod (wrap64 (a1_0)) (l0.length : Int)))) = true then ((lattice_Lat_Bottom.f kj3 y189).bind fun t212 => ((lattice_Lat_Leq.f kj3 y189 t212 (Int.tmod (wrap64 (a1_0)) (l0.length : Int))).bind fun t213 => (if t213 = true then ((lattice_Lat_Top.f kj3 y189).bind fun t214 => ((lattice_Lat_Leq.f kj3 y189 (Int.tmod (wrap64 (a1_0)) (l0.length : Int)) t214).bind fun t215 => (if t215 = true then ((lattice_Lat_Leq.f kj3 y189 (Int.tmod (wrap64 (a1_0)) (l0.length : Int)) t196).bind fun t216 => (if t216 = true then ((lattice_Lat_Leq.f kj3 y189 t197 (Int.tmod (wrap64 (a1_1)) (l0.length : Int))).bind fun t217 => (if t217 = true then ((colloquylaw01_sure.f kj3).bind fun t218 => (some t218)) else (none))) else (none))) else (none)))) else (none)))) else (none))) else (none))) else (none))) else (none))) else (none))) else (none))) else (none))))) else (none)))) = some r := H
        have A31 := Aside0.mk A310
        clear A310
        replace H := Option.bind_eq_some_iff.mp H
        obtain ⟨t201, A320, H⟩ := H
        replace H : ((lattice_Lat_Join.f kj3 y189 (Int.tmod (wrap64 (a1_0)) (l0.length : Int)) t201).bind fun t202 => (if t200 = t202 then ((lattice_Lat_Meet.f kj3 y189 t197 (Int.tmod (wrap64 (a1_2)) (l0.length : Int))).bind fun t203 => ((lattice_Lat_Meet.f kj3 y189 (Int.tmod (wrap64 (a1_1)) (l0.length : Int)) (Int.tmod (wrap64 (a1_2)) (l0.length : Int))).bind fun t204 => ((lattice_Lat_Meet.f kj3 y189 (Int.tmod (wrap64 (a1_0)) (l0.length : Int)) t204).bind fun t205 => (if t203 = t205 then ((lattice_Lat_Join.f kj3 y189 (Int.tmod (wrap64 (a1_0)) (l0.length : Int)) (Int.tmod (wrap64 (a1_0)) (l0.length : Int))).bind fun t206 => (if t206 = (Int.tmod (wrap64 (a1_0)) (l0.length : Int)) then ((lattice_Lat_Meet.f kj3 y189 (Int.tmod (wrap64 (a1_0)) (l0.length : Int)) (Int.tmod (wrap64 (a1_0)) (l0.length : Int))).bind fun t207 => (if t207 = (Int.tmod (wrap64 (a1_0)) (l0.length : Int)) then ((lattice_Lat_Join.f kj3 y189 (Int.tmod (wrap64 (a1_0)) (l0.length : Int)) t197).bind fun t208 => (if t208 = (Int.tmod (wrap64 (a1_0)) (l0.length : Int)) then ((lattice_Lat_Meet.f kj3 y189 (Int.tmod (wrap64 (a1_0)) (l0.length : Int)) t196).bind fun t209 => (if t209 = (Int.tmod (wrap64 (a1_0)) (l0.length : Int)) then ((lattice_Lat_Leq.f kj3 y189 (Int.tmod (wrap64 (a1_0)) (l0.length : Int)) (Int.tmod (wrap64 (a1_1)) (l0.length : Int))).bind fun t210 => (if (t210 == (t196 == (Int.tmod (wrap64 (a1_1)) (l0.length : Int)))) = true then ((lattice_Lat_Leq.f kj3 y189 (Int.tmod (wrap64 (a1_0)) (l0.length : Int)) (Int.tmod (wrap64 (a1_1)) (l0.length : Int))).bind fun t211 => (if (t211 == (t197 == (Int.tmod (wrap64 (a1_0)) (l0.length : Int)))) = true then ((lattice_Lat_Bottom.f kj3 y189).bind fun t212 => ((lattice_Lat_Leq.f kj3 y189 t212 (Int.tmod (wrap64 (a1_0)) (l0.length : Int))).bind fun t213 => (if t213 = true then ((lattice_Lat_Top.f kj3 y189).bind fun t214 => ((lattice_Lat_Leq.f kj3 y189 (Int.tmod (wrap64 (a1_0)) (l0.length : Int)) t214).bind fun t215 => (if t215 = true then ((lattice_Lat_Leq.f kj3 y189 (Int.tmod (wrap64 (a1_0)) (l0.length : Int)) t196).bind fun t216 => (if t216 = true then ((lattice_Lat_Leq.f kj3 y189 t197 (Int.tmod (wrap64 (a1_1)) (l0.length : Int))).bind fun t217 => (if t217 = true then ((colloquylaw01_sure.f kj3).bind fun t218 => (some t218)) else (none))) else (none))) else (none)))) else (none)))) else (none))) else (none))) else (none))) else (none))) else (none))) else (none))) else (none))))) else (none))) = some r := H
        have A32 := Aside0.mk A320
        clear A320
        replace H := Option.bind_eq_some_iff.mp H
        obtain ⟨t202, A330, H⟩ := H
        replace H : (if t200 = t202 then ((lattice_Lat_Meet.f kj3 y189 t197 (Int.tmod (wrap64 (a1_2)) (l0.length : Int))).bind fun t203 => ((lattice_Lat_Meet.f kj3 y189 (Int.tmod (wrap64 (a1_1)) (l0.length : Int)) (Int.tmod (wrap64 (a1_2)) (l0.length : Int))).bind fun t204 => ((lattice_Lat_Meet.f kj3 y189 (Int.tmod (wrap64 (a1_0)) (l0.length : Int)) t204).bind fun t205 => (if t203 = t205 then ((lattice_Lat_Join.f kj3 y189 (Int.tmod (wrap64 (a1_0)) (l0.length : Int)) (Int.tmod (wrap64 (a1_0)) (l0.length : Int))).bind fun t206 => (if t206 = (Int.tmod (wrap64 (a1_0)) (l0.length : Int)) then ((lattice_Lat_Meet.f kj3 y189 (Int.tmod (wrap64 (a1_0)) (l0.length : Int)) (Int.tmod (wrap64 (a1_0)) (l0.length : Int))).bind fun t207 => (if t207 = (Int.tmod (wrap64 (a1_0)) (l0.length : Int)) then ((lattice_Lat_Join.f kj3 y189 (Int.tmod (wrap64 (a1_0)) (l0.length : Int)) t197).bind fun t208 => (if t208 = (Int.tmod (wrap64 (a1_0)) (l0.length : Int)) then ((lattice_Lat_Meet.f kj3 y189 (Int.tmod (wrap64 (a1_0)) (l0.length : Int)) t196).bind fun t209 => (if t209 = (Int.tmod (wrap64 (a1_0)) (l0.length : Int)) then ((lattice_Lat_Leq.f kj3 y189 (Int.tmod (wrap64 (a1_0)) (l0.length : Int)) (Int.tmod (wrap64 (a1_1)) (l0.length : Int))).bind fun t210 => (if (t210 == (t196 == (Int.tmod (wrap64 (a1_1)) (l0.length : Int)))) = true then ((lattice_Lat_Leq.f kj3 y189 (Int.tmod (wrap64 (a1_0)) (l0.length : Int)) (Int.tmod (wrap64 (a1_1)) (l0.length : Int))).bind fun t211 => (if (t211 == (t197 == (Int.tmod (wrap64 (a1_0)) (l0.length : Int)))) = true then ((lattice_Lat_Bottom.f kj3 y189).bind fun t212 => ((lattice_Lat_Leq.f kj3 y189 t212 (Int.tmod (wrap64 (a1_0)) (l0.length : Int))).bind fun t213 => (if t213 = true then ((lattice_Lat_Top.f kj3 y189).bind fun t214 => ((lattice_Lat_Leq.f kj3 y189 (Int.tmod (wrap64 (a1_0)) (l0.length : Int)) t214).bind fun t215 => (if t215 = true then ((lattice_Lat_Leq.f kj3 y189 (Int.tmod (wrap64 (a1_0)) (l0.length : Int)) t196).bind fun t216 => (if t216 = true then ((lattice_Lat_Leq.f kj3 y189 t197 (Int.tmod (wrap64 (a1_1)) (l0.length : Int))).bind fun t217 => (if t217 = true then ((colloquylaw01_sure.f kj3).bind fun t218 => (some t218)) else (none))) else (none))) else (none)))) else (none)))) else (none))) else (none))) else (none))) else (none))) else (none))) else (none))) else (none))))) else (none)) = some r := H
        have A33 := Aside0.mk A330
        clear A330
        by_cases c34 : t200 = t202
        ·rw [if_pos c34] at H
         have c34b0 : (t200 == t202) = true := beq_iff_eq.mpr c34
         have c34b1 : (t200 != t202) = false := bne_eq_false_iff_eq.mpr c34
         clear c34
         replace H := Option.bind_eq_some_iff.mp H
         obtain ⟨t203, A350, H⟩ := H
         replace H : ((lattice_Lat_Meet.f kj3 y189 (Int.tmod (wrap64 (a1_1)) (l0.length : Int)) (Int.tmod (wrap64 (a1_2)) (l0.length : Int))).bind fun t204 => ((lattice_Lat_Meet.f kj3 y189 (Int.tmod (wrap64 (a1_0)) (l0.length : Int)) t204).bind fun t205 => (if t203 = t205 then ((lattice_Lat_Join.f kj3 y189 (Int.tmod (wrap64 (a1_0)) (l0.length : Int)) (Int.tmod (wrap64 (a1_0)) (l0.length : Int))).bind fun t206 => (if t206 = (Int.tmod (wrap64 (a1_0)) (l0.length : Int)) then ((lattice_Lat_Meet.f kj3 y189 (Int.tmod (wrap64 (a1_0)) (l0.length : Int)) (Int.tmod (wrap64 (a1_0)) (l0.length : Int))).bind fun t207 => (if t207 = (Int.tmod (wrap64 (a1_0)) (l0.length : Int)) then ((lattice_Lat_Join.f kj3 y189 (Int.tmod (wrap64 (a1_0)) (l0.length : Int)) t197).bind fun t208 => (if t208 = (Int.tmod (wrap64 (a1_0)) (l0.length : Int)) then ((lattice_Lat_Meet.f kj3 y189 (Int.tmod (wrap64 (a1_0)) (l0.length : Int)) t196).bind fun t209 => (if t209 = (Int.tmod (wrap64 (a1_0)) (l0.length : Int)) then ((lattice_Lat_Leq.f kj3 y189 (Int.tmod (wrap64 (a1_0)) (l0.length : Int)) (Int.tmod (wrap64 (a1_1)) (l0.length : Int))).bind fun t210 => (if (t210 == (t196 == (Int.tmod (wrap64 (a1_1)) (l0.length : Int)))) = true then ((lattice_Lat_Leq.f kj3 y189 (Int.tmod (wrap64 (a1_0)) (l0.length : Int)) (Int.tmod (wrap64 (a1_1)) (l0.length : Int))).bind fun t211 => (if (t211 == (t197 == (Int.tmod (wrap64 (a1_0)) (l0.length : Int)))) = true then ((lattice_Lat_Bottom.f kj3 y189).bind fun t212 => ((lattice_Lat_Leq.f kj3 y189 t212 (Int.tmod (wrap64 (a1_0)) (l0.length : Int))).bind fun t213 => (if t213 = true then ((lattice_Lat_Top.f kj3 y189).bind fun t214 => ((lattice_Lat_Leq.f kj3 y189 (Int.tmod (wrap64 (a1_0)) (l0.length : Int)) t214).bind fun t215 => (if t215 = true then ((lattice_Lat_Leq.f kj3 y189 (Int.tmod (wrap64 (a1_0)) (l0.length : Int)) t196).bind fun t216 => (if t216 = true then ((lattice_Lat_Leq.f kj3 y189 t197 (Int.tmod (wrap64 (a1_1)) (l0.length : Int))).bind fun t217 => (if t217 = true then ((colloquylaw01_sure.f kj3).bind fun t218 => (some t218)) else (none))) else (none))) else (none)))) else (none)))) else (none))) else (none))) else (none))) else (none))) else (none))) else (none))) else (none)))) = some r := H
         have A35 := Aside0.mk A350
         clear A350
         replace H := Option.bind_eq_some_iff.mp H
         obtain ⟨t204, A360, H⟩ := H
         replace H : ((lattice_Lat_Meet.f kj3 y189 (Int.tmod (wrap64 (a1_0)) (l0.length : Int)) t204).bind fun t205 => (if t203 = t205 then ((lattice_Lat_Join.f kj3 y189 (Int.tmod (wrap64 (a1_0)) (l0.length : Int)) (Int.tmod (wrap64 (a1_0)) (l0.length : Int))).bind fun t206 => (if t206 = (Int.tmod (wrap64 (a1_0)) (l0.length : Int)) then ((lattice_Lat_Meet.f kj3 y189 (Int.tmod (wrap64 (a1_0)) (l0.length : Int)) (Int.tmod (wrap64 (a1_0)) (l0.length : Int))).bind fun t207 => (if t207 = (Int.tmod (wrap64 (a1_0)) (l0.length : Int)) then ((lattice_Lat_Join.f kj3 y189 (Int.tmod (wrap64 (a1_0)) (l0.length : Int)) t197).bind fun t208 => (if t208 = (Int.tmod (wrap64 (a1_0)) (l0.length : Int)) then ((lattice_Lat_Meet.f kj3 y189 (Int.tmod (wrap64 (a1_0)) (l0.length : Int)) t196).bind fun t209 => (if t209 = (Int.tmod (wrap64 (a1_0)) (l0.length : Int)) then ((lattice_Lat_Leq.f kj3 y189 (Int.tmod (wrap64 (a1_0)) (l0.length : Int)) (Int.tmod (wrap64 (a1_1)) (l0.length : Int))).bind fun t210 => (if (t210 == (t196 == (Int.tmod (wrap64 (a1_1)) (l0.length : Int)))) = true then ((lattice_Lat_Leq.f kj3 y189 (Int.tmod (wrap64 (a1_0)) (l0.length : Int)) (Int.tmod (wrap64 (a1_1)) (l0.length : Int))).bind fun t211 => (if (t211 == (t197 == (Int.tmod (wrap64 (a1_0)) (l0.length : Int)))) = true then ((lattice_Lat_Bottom.f kj3 y189).bind fun t212 => ((lattice_Lat_Leq.f kj3 y189 t212 (Int.tmod (wrap64 (a1_0)) (l0.length : Int))).bind fun t213 => (if t213 = true then ((lattice_Lat_Top.f kj3 y189).bind fun t214 => ((lattice_Lat_Leq.f kj3 y189 (Int.tmod (wrap64 (a1_0)) (l0.length : Int)) t214).bind fun t215 => (if t215 = true then ((lattice_Lat_Leq.f kj3 y189 (Int.tmod (wrap64 (a1_0)) (l0.length : Int)) t196).bind fun t216 => (if t216 = true then ((lattice_Lat_Leq.f kj3 y189 t197 (Int.tmod (wrap64 (a1_1)) (l0.length : Int))).bind fun t217 => (if t217 = true then ((colloquylaw01_sure.f kj3).bind fun t218 => (some t218)) else (none))) else (none))) else (none)))) else (none)))) else (none))) else (none))) else (none))) else (none))) else (none))) else (none))) else (none))) = some r := H
         have A36 := Aside0.mk A360
         clear A360
         replace H := Option.bind_eq_some_iff.mp H
         obtain ⟨t205, A370, H⟩ := H
         replace H : (if t203 = t205 then ((lattice_Lat_Join.f kj3 y189 (Int.tmod (wrap64 (a1_0)) (l0.length : Int)) (Int.tmod (wrap64 (a1_0)) (l0.length : Int))).bind fun t206 => (if t206 = (Int.tmod (wrap64 (a1_0)) (l0.length : Int)) then ((lattice_Lat_Meet.f kj3 y189 (Int.tmod (wrap64 (a1_0)) (l0.length : Int)) (Int.tmod (wrap64 (a1_0)) (l0.length : Int))).bind fun t207 => (if t207 = (Int.tmod (wrap64 (a1_0)) (l0.length : Int)) then ((lattice_Lat_Join.f kj3 y189 (Int.tmod (wrap64 (a1_0)) (l0.length : Int)) t197).bind fun t208 => (if t208 = (Int.tmod (wrap64 (a1_0)) (l0.length : Int)) then ((lattice_Lat_Meet.f kj3 y189 (Int.tmod (wrap64 (a1_0)) (l0.length : Int)) t196).bind fun t209 => (if t209 = (Int.tmod (wrap64 (a1_0)) (l0.length : Int)) then ((lattice_Lat_Leq.f kj3 y189 (Int.tmod (wrap64 (a1_0)) (l0.length : Int)) (Int.tmod (wrap64 (a1_1)) (l0.length : Int))).bind fun t210 => (if (t210 == (t196 == (Int.tmod (wrap64 (a1_1)) (l0.length : Int)))) = true then ((lattice_Lat_Leq.f kj3 y189 (Int.tmod (wrap64 (a1_0)) (l0.length : Int)) (Int.tmod (wrap64 (a1_1)) (l0.length : Int))).bind fun t211 => (if (t211 == (t197 == (Int.tmod (wrap64 (a1_0)) (l0.length : Int)))) = true then ((lattice_Lat_Bottom.f kj3 y189).bind fun t212 => ((lattice_Lat_Leq.f kj3 y189 t212 (Int.tmod (wrap64 (a1_0)) (l0.length : Int))).bind fun t213 => (if t213 = true then ((lattice_Lat_Top.f kj3 y189).bind fun t214 => ((lattice_Lat_Leq.f kj3 y189 (Int.tmod (wrap64 (a1_0)) (l0.length : Int)) t214).bind fun t215 => (if t215 = true then ((lattice_Lat_Leq.f kj3 y189 (Int.tmod (wrap64 (a1_0)) (l0.length : Int)) t196).bind fun t216 => (if t216 = true then ((lattice_Lat_Leq.f kj3 y189 t197 (Int.tmod (wrap64 (a1_1)) (l0.length : Int))).bind fun t217 => (if t217 = true then ((colloquylaw01_sure.f kj3).bind fun t218 => (some t218)) else (none))) else (none))) else (none)))) else (none)))) else (none))) else (none))) else (none))) else (none))) else (none))) else (none))) else (none)) = some r := H
         have A37 := Aside0.mk A370
         clear A370
         by_cases c38 : t203 = t205
         ·rw [if_pos c38] at H
          have c38b0 : (t203 == t205) = true := beq_iff_eq.mpr c38
          have c38b1 : (t203 != t205) = false := bne_eq_false_iff_eq.mpr c38
          clear c38
          replace H := Option.bind_eq_some_iff.mp H
          obtain ⟨t206, A390, H⟩ := H
          replace H : (if t206 = (Int.tmod (wrap64 (a1_0)) (l0.length : Int)) then ((lattice_Lat_Meet.f kj3 y189 (Int.tmod (wrap64 (a1_0)) (l0.length : Int)) (Int.tmod (wrap64 (a1_0)) (l0.length : Int))).bind fun t207 => (if t207 = (Int.tmod (wrap64 (a1_0)) (l0.length : Int)) then ((lattice_Lat_Join.f kj3 y189 (Int.tmod (wrap64 (a1_0)) (l0.length : Int)) t197).bind fun t208 => (if t208 = (Int.tmod (wrap64 (a1_0)) (l0.length : Int)) then ((lattice_Lat_Meet.f kj3 y189 (Int.tmod (wrap64 (a1_0)) (l0.length : Int)) t196).bind fun t209 => (if t209 = (Int.tmod (wrap64 (a1_0)) (l0.length : Int)) then ((lattice_Lat_Leq.f kj3 y189 (Int.tmod (wrap64 (a1_0)) (l0.length : Int)) (Int.tmod (wrap64 (a1_1)) (l0.length : Int))).bind fun t210 => (if (t210 == (t196 == (Int.tmod (wrap64 (a1_1)) (l0.length : Int)))) = true then ((lattice_Lat_Leq.f kj3 y189 (Int.tmod (wrap64 (a1_0)) (l0.length : Int)) (Int.tmod (wrap64 (a1_1)) (l0.length : Int))).bind fun t211 => (if (t211 == (t197 == (Int.tmod (wrap64 (a1_0)) (l0.length : Int)))) = true then ((lattice_Lat_Bottom.f kj3 y189).bind fun t212 => ((lattice_Lat_Leq.f kj3 y189 t212 (Int.tmod (wrap64 (a1_0)) (l0.length : Int))).bind fun t213 => (if t213 = true then ((lattice_Lat_Top.f kj3 y189).bind fun t214 => ((lattice_Lat_Leq.f kj3 y189 (Int.tmod (wrap64 (a1_0)) (l0.length : Int)) t214).bind fun t215 => (if t215 = true then ((lattice_Lat_Leq.f kj3 y189 (Int.tmod (wrap64 (a1_0)) (l0.length : Int)) t196).bind fun t216 => (if t216 = true then ((lattice_Lat_Leq.f kj3 y189 t197 (Int.tmod (wrap64 (a1_1)) (l0.length : Int))).bind fun t217 => (if t217 = true then ((colloquylaw01_sure.f kj3).bind fun t218 => (some t218)) else (none))) else (none))) else (none)))) else (none)))) else (none))) else (none))) else (none))) else (none))) else (none))) else (none)) = some r := H
          have A39 := Aside0.mk A390
          clear A390
          by_cases c40 : t206 = (Int.tmod (wrap64 (a1_0)) (l0.length : Int))
          ·rw [if_pos c40] at H
           have c40b0 : (t206 == (Int.tmod (wrap64 (a1_0)) (l0.length : Int))) = true := beq_iff_eq.mpr c40
           have c40b1 : (t206 != (Int.tmod (wrap64 (a1_0)) (l0.length : Int))) = false := bne_eq_false_iff_eq.mpr c40
           clear c40
           replace H := Option.bind_eq_some_iff.mp H
           obtain ⟨t207, A410, H⟩ := H
           replace H : (if t207 = (Int.tmod (wrap64 (a1_0)) (l0.length : Int)) then ((lattice_Lat_Join.f kj3 y189 (Int.tmod (wrap64 (a1_0)) (l0.length : Int)) t197).bind fun t208 => (if t208 = (Int.tmod (wrap64 (a1_0)) (l0.length : Int)) then ((lattice_Lat_Meet.f kj3 y189 (Int.tmod (wrap64 (a1_0)) (l0.length : Int)) t196).bind fun t209 => (if t209 = (Int.tmod (wrap64 (a1_0)) (l0.length : Int)) then ((lattice_Lat_Leq.f kj3 y189 (Int.tmod (wrap64 (a1_0)) (l0.length : Int)) (Int.tmod (wrap64 (a1_1)) (l0.length : Int))).bind fun t210 => (if (t210 == (t196 == (Int.tmod (wrap64 (a1_1)) (l0.length : Int)))) = true then ((lattice_Lat_Leq.f kj3 y189 (Int.tmod (wrap64 (a1_0)) (l0.length : Int)) (Int.tmod (wrap64 (a1_1)) (l0.length : Int))).bind fun t211 => (if (t211 == (t197 == (Int.tmod (wrap64 (a1_0)) (l0.length : Int)))) = true then ((lattice_Lat_Bottom.f kj3 y189).bind fun t212 => ((lattice_Lat_Leq.f kj3 y189 t212 (Int.tmod (wrap64 (a1_0)) (l0.length : Int))).bind fun t213 => (if t213 = true then ((lattice_Lat_Top.f kj3 y189).bind fun t214 => ((lattice_Lat_Leq.f kj3 y189 (Int.tmod (wrap64 (a1_0)) (l0.length : Int)) t214).bind fun t215 => (if t215 = true then ((lattice_Lat_Leq.f kj3 y189 (Int.tmod (wrap64 (a1_0)) (l0.length : Int)) t196).bind fun t216 => (if t216 = true then ((lattice_Lat_Leq.f kj3 y189 t197 (Int.tmod (wrap64 (a1_1)) (l0.length : Int))).bind fun t217 => (if t217 = true then ((colloquylaw01_sure.f kj3).bind fun t218 => (some t218)) else (none))) else (none))) else (none)))) else (none)))) else (none))) else (none))) else (none))) else (none))) else (none)) = some r := H
           have A41 := Aside0.mk A410
           clear A410
           by_cases c42 : t207 = (Int.tmod (wrap64 (a1_0)) (l0.length : Int))
           ·rw [if_pos c42] at H
            have c42b0 : (t207 == (Int.tmod (wrap64 (a1_0)) (l0.length : Int))) = true := beq_iff_eq.mpr c42
            have c42b1 : (t207 != (Int.tmod (wrap64 (a1_0)) (l0.length : Int))) = false := bne_eq_false_iff_eq.mpr c42
            clear c42
            replace H := Option.bind_eq_some_iff.mp H
            obtain ⟨t208, A430, H⟩ := H
            replace H : (if t208 = (Int.tmod (wrap64 (a1_0)) (l0.length : Int)) then ((lattice_Lat_Meet.f kj3 y189 (Int.tmod (wrap64 (a1_0)) (l0.length : Int)) t196).bind fun t209 => (if t209 = (Int.tmod (wrap64 (a1_0)) (l0.length : Int)) then ((lattice_Lat_Leq.f kj3 y189 (Int.tmod (wrap64 (a1_0)) (l0.length : Int)) (Int.tmod (wrap64 (a1_1)) (l0.length : Int))).bind fun t210 => (if (t210 == (t196 == (Int.tmod (wrap64 (a1_1)) (l0.length : Int)))) = true then ((lattice_Lat_Leq.f kj3 y189 (Int.tmod (wrap64 (a1_0)) (l0.length : Int)) (Int.tmod (wrap64 (a1_1)) (l0.length : Int))).bind fun t211 => (if (t211 == (t197 == (Int.tmod (wrap64 (a1_0)) (l0.length : Int)))) = true then ((lattice_Lat_Bottom.f kj3 y189).bind fun t212 => ((lattice_Lat_Leq.f kj3 y189 t212 (Int.tmod (wrap64 (a1_0)) (l0.length : Int))).bind fun t213 => (if t213 = true then ((lattice_Lat_Top.f kj3 y189).bind fun t214 => ((lattice_Lat_Leq.f kj3 y189 (Int.tmod (wrap64 (a1_0)) (l0.length : Int)) t214).bind fun t215 => (if t215 = true then ((lattice_Lat_Leq.f kj3 y189 (Int.tmod (wrap64 (a1_0)) (l0.length : Int)) t196).bind fun t216 => (if t216 = true then ((lattice_Lat_Leq.f kj3 y189 t197 (Int.tmod (wrap64 (a1_1)) (l0.length : Int))).bind fun t217 => (if t217 = true then ((colloquylaw01_sure.f kj3).bind fun t218 => (some t218)) else (none))) else (none))) else (none)))) else (none)))) else (none))) else (none))) else (none))) else (none)) = some r := H
            have A43 := Aside0.mk A430
            clear A430
            by_cases c44 : t208 = (Int.tmod (wrap64 (a1_0)) (l0.length : Int))
            ·rw [if_pos c44] at H
             have c44b0 : (t208 == (Int.tmod (wrap64 (a1_0)) (l0.length : Int))) = true := beq_iff_eq.mpr c44
             have c44b1 : (t208 != (Int.tmod (wrap64 (a1_0)) (l0.length : Int))) = false := bne_eq_false_iff_eq.mpr c44
             clear c44
             replace H := Option.bind_eq_some_iff.mp H
             obtain ⟨t209, A450, H⟩ := H
             replace H : (if t209 = (Int.tmod (wrap64 (a1_0)) (l0.length : Int)) then ((lattice_Lat_Leq.f kj3 y189 (Int.tmod (wrap64 (a1_0)) (l0.length : Int)) (Int.tmod (wrap64 (a1_1)) (l0.length : Int))).bind fun t210 => (if (t210 == (t196 == (Int.tmod (wrap64 (a1_1)) (l0.length : Int)))) = true then ((lattice_Lat_Leq.f kj3 y189 (Int.tmod (wrap64 (a1_0)) (l0.length : Int)) (Int.tmod (wrap64 (a1_1)) (l0.length : Int))).bind fun t211 => (if (t211 == (t197 == (Int.tmod (wrap64 (a1_0)) (l0.length : Int)))) = true then ((lattice_Lat_Bottom.f kj3 y189).bind fun t212 => ((lattice_Lat_Leq.f kj3 y189 t212 (Int.tmod (wrap64 (a1_0)) (l0.length : Int))).bind fun t213 => (if t213 = true then ((lattice_Lat_Top.f kj3 y189).bind fun t214 => ((lattice_Lat_Leq.f kj3 y189 (Int.tmod (wrap64 (a1_0)) (l0.length : Int)) t214).bind fun t215 => (if t215 = true then ((lattice_Lat_Leq.f kj3 y189 (Int.tmod (wrap64 (a1_0)) (l0.length : Int)) t196).bind fun t216 => (if t216 = true then ((lattice_Lat_Leq.f kj3 y189 t197 (Int.tmod (wrap64 (a1_1)) (l0.length : Int))).bind fun t217 => (if t217 = true then ((colloquylaw01_sure.f kj3).bind fun t218 => (some t218)) else (none))) else (none))) else (none)))) else (none)))) else (none))) else (none))) else (none)) = some r := H
             have A45 := Aside0.mk A450
             clear A450
             by_cases c46 : t209 = (Int.tmod (wrap64 (a1_0)) (l0.length : Int))
             ·rw [if_pos c46] at H
              have c46b0 : (t209 == (Int.tmod (wrap64 (a1_0)) (l0.length : Int))) = true := beq_iff_eq.mpr c46
              have c46b1 : (t209 != (Int.tmod (wrap64 (a1_0)) (l0.length : Int))) = false := bne_eq_false_iff_eq.mpr c46
              clear c46
              replace H := Option.bind_eq_some_iff.mp H
              obtain ⟨t210, A470, H⟩ := H
              replace H : (if (t210 == (t196 == (Int.tmod (wrap64 (a1_1)) (l0.length : Int)))) = true then ((lattice_Lat_Leq.f kj3 y189 (Int.tmod (wrap64 (a1_0)) (l0.length : Int)) (Int.tmod (wrap64 (a1_1)) (l0.length : Int))).bind fun t211 => (if (t211 == (t197 == (Int.tmod (wrap64 (a1_0)) (l0.length : Int)))) = true then ((lattice_Lat_Bottom.f kj3 y189).bind fun t212 => ((lattice_Lat_Leq.f kj3 y189 t212 (Int.tmod (wrap64 (a1_0)) (l0.length : Int))).bind fun t213 => (if t213 = true then ((lattice_Lat_Top.f kj3 y189).bind fun t214 => ((lattice_Lat_Leq.f kj3 y189 (Int.tmod (wrap64 (a1_0)) (l0.length : Int)) t214).bind fun t215 => (if t215 = true then ((lattice_Lat_Leq.f kj3 y189 (Int.tmod (wrap64 (a1_0)) (l0.length : Int)) t196).bind fun t216 => (if t216 = true then ((lattice_Lat_Leq.f kj3 y189 t197 (Int.tmod (wrap64 (a1_1)) (l0.length : Int))).bind fun t217 => (if t217 = true then ((colloquylaw01_sure.f kj3).bind fun t218 => (some t218)) else (none))) else (none))) else (none)))) else (none)))) else (none))) else (none)) = some r := H
              have A47 := Aside0.mk A470
              clear A470
              by_cases c48 : (t210 == (t196 == (Int.tmod (wrap64 (a1_1)) (l0.length : Int)))) = true
              ·rw [if_pos c48] at H
               have c48b0 : (t210 == (t196 == (Int.tmod (wrap64 (a1_1)) (l0.length : Int)))) = true := c48
               (try (have c48b1 : decide (t210 = (t196 == (Int.tmod (wrap64 (a1_1)) (l0.length : Int)))) = true := by simpa using c48))
               (try (have c48b2 : (t210 == (t196 == (Int.tmod (wrap64 (a1_1)) (l0.length : Int)))) = true := by simpa using c48))
               clear c48
               replace H := Option.bind_eq_some_iff.mp H
               obtain ⟨t211, A490, H⟩ := H
               replace H : (if (t211 == (t197 == (Int.tmod (wrap64 (a1_0)) (l0.length : Int)))) = true then ((lattice_Lat_Bottom.f kj3 y189).bind fun t212 => ((lattice_Lat_Leq.f kj3 y189 t212 (Int.tmod (wrap64 (a1_0)) (l0.length : Int))).bind fun t213 => (if t213 = true then ((lattice_Lat_Top.f kj3 y189).bind fun t214 => ((lattice_Lat_Leq.f kj3 y189 (Int.tmod (wrap64 (a1_0)) (l0.length : Int)) t214).bind fun t215 => (if t215 = true then ((lattice_Lat_Leq.f kj3 y189 (Int.tmod (wrap64 (a1_0)) (l0.length : Int)) t196).bind fun t216 => (if t216 = true then ((lattice_Lat_Leq.f kj3 y189 t197 (Int.tmod (wrap64 (a1_1)) (l0.length : Int))).bind fun t217 => (if t217 = true then ((colloquylaw01_sure.f kj3).bind fun t218 => (some t218)) else (none))) else (none))) else (none)))) else (none)))) else (none)) = some r := H
               have A49 := Aside0.mk A490
               clear A490
               by_cases c50 : (t211 == (t197 == (Int.tmod (wrap64 (a1_0)) (l0.length : Int)))) = true
               ·rw [if_pos c50] at H
                have c50b0 : (t211 == (t197 == (Int.tmod (wrap64 (a1_0)) (l0.length : Int)))) = true := c50
                (try (have c50b1 : decide (t211 = (t197 == (Int.tmod (wrap64 (a1_0)) (l0.length : Int)))) = true := by simpa using c50))
                (try (have c50b2 : (t211 == (t197 == (Int.tmod (wrap64 (a1_0)) (l0.length : Int)))) = true := by simpa using c50))
                clear c50
                replace H := Option.bind_eq_some_iff.mp H
                obtain ⟨t212, A510, H⟩ := H
                replace H : ((lattice_Lat_Leq.f kj3 y189 t212 (Int.tmod (wrap64 (a1_0)) (l0.length : Int))).bind fun t213 => (if t213 = true then ((lattice_Lat_Top.f kj3 y189).bind fun t214 => ((lattice_Lat_Leq.f kj3 y189 (Int.tmod (wrap64 (a1_0)) (l0.length : Int)) t214).bind fun t215 => (if t215 = true then ((lattice_Lat_Leq.f kj3 y189 (Int.tmod (wrap64 (a1_0)) (l0.length : Int)) t196).bind fun t216 => (if t216 = true then ((lattice_Lat_Leq.f kj3 y189 t197 (Int.tmod (wrap64 (a1_1)) (l0.length : Int))).bind fun t217 => (if t217 = true then ((colloquylaw01_sure.f kj3).bind fun t218 => (some t218)) else (none))) else (none))) else (none)))) else (none))) = some r := H
                have A51 := Aside0.mk A510
                clear A510
                replace H := Option.bind_eq_some_iff.mp H
                obtain ⟨t213, A520, H⟩ := H
                replace H : (if t213 = true then ((lattice_Lat_Top.f kj3 y189).bind fun t214 => ((lattice_Lat_Leq.f kj3 y189 (Int.tmod (wrap64 (a1_0)) (l0.length : Int)) t214).bind fun t215 => (if t215 = true then ((lattice_Lat_Leq.f kj3 y189 (Int.tmod (wrap64 (a1_0)) (l0.length : Int)) t196).bind fun t216 => (if t216 = true then ((lattice_Lat_Leq.f kj3 y189 t197 (Int.tmod (wrap64 (a1_1)) (l0.length : Int))).bind fun t217 => (if t217 = true then ((colloquylaw01_sure.f kj3).bind fun t218 => (some t218)) else (none))) else (none))) else (none)))) else (none)) = some r := H
                have A52 := Aside0.mk A520
                clear A520
                by_cases c53 : t213 = true
                ·subst c53
                 have H1 : ((lattice_Lat_Top.f kj3 y189).bind fun t214 => ((lattice_Lat_Leq.f kj3 y189 (Int.tmod (wrap64 (a1_0)) (l0.length : Int)) t214).bind fun t215 => (if t215 = true then ((lattice_Lat_Leq.f kj3 y189 (Int.tmod (wrap64 (a1_0)) (l0.length : Int)) t196).bind fun t216 => (if t216 = true then ((lattice_Lat_Leq.f kj3 y189 t197 (Int.tmod (wrap64 (a1_1)) (l0.length : Int))).bind fun t217 => (if t217 = true then ((colloquylaw01_sure.f kj3).bind fun t218 => (some t218)) else (none))) else (none))) else (none)))) = some r := by rw [if_pos rfl] at H; exact H
                 clear H
                 have H := H1
                 clear H1
                 replace H := Option.bind_eq_some_iff.mp H
                 obtain ⟨t214, A540, H⟩ := H
                 replace H : ((lattice_Lat_Leq.f kj3 y189 (Int.tmod (wrap64 (a1_0)) (l0.length : Int)) t214).bind fun t215 => (if t215 = true then ((lattice_Lat_Leq.f kj3 y189 (Int.tmod (wrap64 (a1_0)) (l0.length : Int)) t196).bind fun t216 => (if t216 = true then ((lattice_Lat_Leq.f kj3 y189 t197 (Int.tmod (wrap64 (a1_1)) (l0.length : Int))).bind fun t217 => (if t217 = true then ((colloquylaw01_sure.f kj3).bind fun t218 => (some t218)) else (none))) else (none))) else (none))) = some r := H
                 have A54 := Aside0.mk A540
                 clear A540
                 replace H := Option.bind_eq_some_iff.mp H
                 obtain ⟨t215, A550, H⟩ := H
                 replace H : (if t215 = true then ((lattice_Lat_Leq.f kj3 y189 (Int.tmod (wrap64 (a1_0)) (l0.length : Int)) t196).bind fun t216 => (if t216 = true then ((lattice_Lat_Leq.f kj3 y189 t197 (Int.tmod (wrap64 (a1_1)) (l0.length : Int))).bind fun t217 => (if t217 = true then ((colloquylaw01_sure.f kj3).bind fun t218 => (some t218)) else (none))) else (none))) else (none)) = some r := H
                 have A55 := Aside0.mk A550
                 clear A550
                 by_cases c56 : t215 = true
                 ·subst c56
                  have H1 : ((lattice_Lat_Leq.f kj3 y189 (Int.tmod (wrap64 (a1_0)) (l0.length : Int)) t196).bind fun t216 => (if t216 = true then ((lattice_Lat_Leq.f kj3 y189 t197 (Int.tmod (wrap64 (a1_1)) (l0.length : Int))).bind fun t217 => (if t217 = true then ((colloquylaw01_sure.f kj3).bind fun t218 => (some t218)) else (none))) else (none))) = some r := by rw [if_pos rfl] at H; exact H
                  clear H
                  have H := H1
                  clear H1
                  replace H := Option.bind_eq_some_iff.mp H
                  obtain ⟨t216, A570, H⟩ := H
                  replace H : (if t216 = true then ((lattice_Lat_Leq.f kj3 y189 t197 (Int.tmod (wrap64 (a1_1)) (l0.length : Int))).bind fun t217 => (if t217 = true then ((colloquylaw01_sure.f kj3).bind fun t218 => (some t218)) else (none))) else (none)) = some r := H
                  have A57 := Aside0.mk A570
                  clear A570
                  by_cases c58 : t216 = true
                  ·subst c58
                   have H1 : ((lattice_Lat_Leq.f kj3 y189 t197 (Int.tmod (wrap64 (a1_1)) (l0.length : Int))).bind fun t217 => (if t217 = true then ((colloquylaw01_sure.f kj3).bind fun t218 => (some t218)) else (none))) = some r := by rw [if_pos rfl] at H; exact H
                   clear H
                   have H := H1
                   clear H1
                   replace H := Option.bind_eq_some_iff.mp H
                   obtain ⟨t217, A590, H⟩ := H
                   replace H : (if t217 = true then ((colloquylaw01_sure.f kj3).bind fun t218 => (some t218)) else (none)) = some r := H
                   have A59 := Aside0.mk A590
                   clear A590
                   by_cases c60 : t217 = true
                   ·subst c60
                    have H1 : ((colloquylaw01_sure.f kj3).bind fun t218 => (some t218)) = some r := by rw [if_pos rfl] at H; exact H
                    clear H
                    have H := H1
                    clear H1
                    replace H := Option.bind_eq_some_iff.mp H
                    obtain ⟨t218, A610, H⟩ := H
                    replace H : (some t218) = some r := H
                    have A61 := Aside0.mk A610
                    clear A610
                    obtain rfl := Option.some.inj H
                    try go_wp2
                    have n0_ := Aside0.mk (Kd.R_drew HO_193000.out)
                    have n1_ := Aside0.mk (blk_drew BK185.out)
                    have n2_ := Aside0.mk (blk_drew BK192.out)
                    have n3_ := Aside0.mk (below_drew1 HB.out)
                    clear HO_193000
                    clear BK185
                    clear BK192
                    clear HB
                    have HO_193000 := n0_
                    have BK185 := n1_
                    have BK192 := n2_
                    have HB := n3_
                    clear n0_ n1_ n2_ n3_
                    refine start_ (n := 18) (S := fun w' => w'.cell? ⟨gb185, 0, none⟩ = some (.int .u8 a1_0) ∧ w'.cell? ⟨gb185, 1, none⟩ = some (.int .u8 a1_1) ∧ w'.cell? ⟨gb185, 2, none⟩ = some (.int .u8 a1_2)) (ds := []) #[false, false, false, false, false, false, false, false, false, false, false, false, false, false, false, false, false, false] (by kernel_rfl) rfl rfl ⟨(blk_cell BK185.out 0).trans rfl, (blk_cell BK185.out 1).trans rfl, (blk_cell BK185.out 2).trans rfl⟩ (fun hHeld => ?_); refine with_tabW colloquylaw01_LatticeLaws.tab5 colloquylaw01_LatticeLaws.bits5 (fun HT_ HW_ => ?_)
                    generalize wc.drew = w62 at HO_193000 BK185 BK192 HB hHeld ⊢
                    refine pure_ (i := 0) (N := some 27) (v := ?_) (a' := ?_) #[true, false, false, false, false, false, false, false, false, false, false, false, false, false, false, false, false, false] rfl rfl (any_of HT_.out (by kernel_rfl)) (fun _ _ _ h => h) (Or.inl ⟨by rfl, ?_⟩) ?_ ?_
                    rotate_left
                    ·intro w'
                     go_simp
                     with_reducible rfl
                    rotate_left
                    ·simp only [Act.put, List.setIfInBounds_toArray, List.set_cons_zero, List.set_cons_succ, i64_w, i32_w]
                     rfl
                    refine pure_ (i := 3) (N := some 30) (v := ?_) (a' := ?_) #[true, false, false, true, false, false, false, false, false, false, false, false, false, false, false, false, false, false] rfl rfl (any_of HT_.out (by kernel_rfl)) (fun _ _ _ h => h) (Or.inl ⟨by rfl, ?_⟩) ?_ ?_
                    rotate_left
                    ·intro w'
                     go_simp
                     with_reducible rfl
                    rotate_left
                    ·simp only [Act.put, List.setIfInBounds_toArray, List.set_cons_zero, List.set_cons_succ, i64_w, i32_w]
                     rfl
                    refine pure_ (i := 5) (N := some 32) (v := ?_) (a' := ?_) #[true, false, false, true, false, true, false, false, false, false, false, false, false, false, false, false, false, false] rfl rfl (any_of HT_.out (by kernel_rfl)) (fun _ _ _ h => h) (Or.inl ⟨by rfl, ?_⟩) ?_ ?_
                    rotate_left
                    ·intro w'
                     go_simp
                     with_reducible rfl
                    rotate_left
                    ·simp only [Act.put, List.setIfInBounds_toArray, List.set_cons_zero, List.set_cons_succ, i64_w, i32_w]
                     rfl
                    refine pure_ (i := 8) (N := some 35) (v := ?_) (a' := ?_) #[true, false, false, true, false, true, false, false, true, false, false, false, false, false, false, false, false, false] rfl rfl (any_of HT_.out (by kernel_rfl)) (fun _ _ _ h => h) (Or.inl ⟨by rfl, ?_⟩) ?_ ?_
                    rotate_left
                    ·intro w'
                     go_simp
                     with_reducible rfl
                    rotate_left
                    ·simp only [Act.put, List.setIfInBounds_toArray, List.set_cons_zero, List.set_cons_succ, i64_w, i32_w]
                     rfl
                    refine pure_ (i := 10) (N := some 37) (v := ?_) (a' := ?_) #[true, false, false, true, false, true, false, false, true, false, true, false, false, false, false, false, false, false] rfl rfl (any_of HT_.out (by kernel_rfl)) (fun _ _ _ h => h) (Or.inl ⟨by rfl, ?_⟩) ?_ ?_
                    rotate_left
                    ·intro w'
                     go_simp
                     with_reducible rfl
                    rotate_left
                    ·simp only [Act.put, List.setIfInBounds_toArray, List.set_cons_zero, List.set_cons_succ, i64_w, i32_w]
                     rfl
                    refine pure_ (i := 13) (N := some 40) (v := ?_) (a' := ?_) #[true, false, false, true, false, true, false, false, true, false, true, false, false, true, false, false, false, false] rfl rfl (any_of HT_.out (by kernel_rfl)) (fun _ _ _ h => h) (Or.inl ⟨by rfl, ?_⟩) ?_ ?_
                    rotate_left
                    ·intro w'
                     go_simp
                     with_reducible rfl
                    rotate_left
                    ·simp only [Act.put, List.setIfInBounds_toArray, List.set_cons_zero, List.set_cons_succ, i64_w, i32_w]
                     rfl
                    refine take_ (i := 1) (N := some 28) (v := ?_) (a' := ?_) #[true, true, false, true, false, true, false, false, true, false, true, false, false, true, false, false, false, false] rfl rfl (take_ofW HT_.out HW_.out (by kernel_rfl)) (fun _ _ _ h => h) (Or.inl ⟨by rfl, ?_⟩) hHeld ?_ ?_
                    rotate_left
                    ·rintro w' ⟨s0, s1, s2⟩
                     go_simp
                     with_reducible rfl
                    rotate_left
                    ·simp only [Act.put, List.setIfInBounds_toArray, List.set_cons_zero, List.set_cons_succ, i64_w, i32_w]
                     rfl
                    refine pure_ (i := 2) (N := some 29) (v := ?_) (a' := ?_) #[true, true, true, true, false, true, false, false, true, false, true, false, false, true, false, false, false, false] rfl rfl (any_of HT_.out (by kernel_rfl)) (fun _ _ _ h => h) (Or.inl ⟨by rfl, ?_⟩) ?_ ?_
                    rotate_left
                    ·intro w'
                     go_simp
                     with_reducible rfl
                    rotate_left
                    ·simp only [Act.put, List.setIfInBounds_toArray, List.set_cons_zero, List.set_cons_succ, i64_w, i32_w]
                     rfl
                    refine pure_ (i := 4) (N := some 31) (v := ?_) (a' := ?_) #[true, true, true, true, true, true, false, false, true, false, true, false, false, true, false, false, false, false] rfl rfl (any_of HT_.out (by kernel_rfl)) (fun _ _ _ h => h) (Or.inl ⟨by rfl, ?_⟩) ?_ ?_
                    rotate_left
                    ·intro w'
                     go_simp
                     with_reducible rfl
                    rotate_left
                    ·simp only [Act.put, List.setIfInBounds_toArray, List.set_cons_zero, List.set_cons_succ, i64_w, i32_w]
                     rfl
                    refine pure_ (i := 15) (N := some 7) (v := ?_) (a' := ?_) #[true, true, true, true, true, true, false, false, true, false, true, false, false, true, false, true, false, false] rfl rfl (any_of HT_.out (by kernel_rfl)) (fun _ _ _ h => h) (Or.inl ⟨by rfl, ?_⟩) ?_ ?_
                    rotate_left
                    ·intro w'
                     go_simp
                     with_reducible rfl
                    rotate_left
                    ·simp only [Act.put, List.setIfInBounds_toArray, List.set_cons_zero, List.set_cons_succ, i64_w, i32_w]
                     rfl
                    refine take_ (i := 6) (N := some 33) (v := ?_) (a' := ?_) #[true, true, true, true, true, true, true, false, true, false, true, false, false, true, false, true, false, false] rfl rfl (take_ofW HT_.out HW_.out (by kernel_rfl)) (fun _ _ _ h => h) (Or.inl ⟨by rfl, ?_⟩) hHeld ?_ ?_
                    rotate_left
                    ·rintro w' ⟨s0, s1, s2⟩
                     go_simp
                     with_reducible rfl
                    rotate_left
                    ·simp only [Act.put, List.setIfInBounds_toArray, List.set_cons_zero, List.set_cons_succ, i64_w, i32_w]
                     rfl
                    refine pure_ (i := 7) (N := some 34) (v := ?_) (a' := ?_) #[true, true, true, true, true, true, true, true, true, false, true, false, false, true, false, true, false, false] rfl rfl (any_of HT_.out (by kernel_rfl)) (fun _ _ _ h => h) (Or.inl ⟨by rfl, ?_⟩) ?_ ?_
                    rotate_left
                    ·intro w'
                     go_simp
                     with_reducible rfl
                    rotate_left
                    ·simp only [Act.put, List.setIfInBounds_toArray, List.set_cons_zero, List.set_cons_succ, i64_w, i32_w]
                     rfl
                    refine pure_ (i := 9) (N := some 36) (v := ?_) (a' := ?_) #[true, true, true, true, true, true, true, true, true, true, true, false, false, true, false, true, false, false] rfl rfl (any_of HT_.out (by kernel_rfl)) (fun _ _ _ h => h) (Or.inl ⟨by rfl, ?_⟩) ?_ ?_
                    rotate_left
                    ·intro w'
                     go_simp
                     with_reducible rfl
                    rotate_left
                    ·simp only [Act.put, List.setIfInBounds_toArray, List.set_cons_zero, List.set_cons_succ, i64_w, i32_w]
                     rfl
                    refine pure_ (i := 16) (N := some 8) (v := ?_) (a' := ?_) #[true, true, true, true, true, true, true, true, true, true, true, false, false, true, false, true, true, false] rfl rfl (any_of HT_.out (by kernel_rfl)) (fun _ _ _ h => h) (Or.inl ⟨by rfl, ?_⟩) ?_ ?_
                    rotate_left
                    ·intro w'
                     go_simp
                     with_reducible rfl
                    rotate_left
                    ·simp only [Act.put, List.setIfInBounds_toArray, List.set_cons_zero, List.set_cons_succ, i64_w, i32_w]
                     rfl
                    refine take_ (i := 11) (N := some 38) (v := ?_) (a' := ?_) #[true, true, true, true, true, true, true, true, true, true, true, true, false, true, false, true, true, false] rfl rfl (take_ofW HT_.out HW_.out (by kernel_rfl)) (fun _ _ _ h => h) (Or.inl ⟨by rfl, ?_⟩) hHeld ?_ ?_
                    rotate_left
                    ·rintro w' ⟨s0, s1, s2⟩
                     go_simp
                     with_reducible rfl
                    rotate_left
                    ·simp only [Act.put, List.setIfInBounds_toArray, List.set_cons_zero, List.set_cons_succ, i64_w, i32_w]
                     rfl
                    refine pure_ (i := 12) (N := some 39) (v := ?_) (a' := ?_) #[true, true, true, true, true, true, true, true, true, true, true, true, true, true, false, true, true, false] rfl rfl (any_of HT_.out (by kernel_rfl)) (fun _ _ _ h => h) (Or.inl ⟨by rfl, ?_⟩) ?_ ?_
                    rotate_left
                    ·intro w'
                     go_simp
                     with_reducible rfl
                    rotate_left
                    ·simp only [Act.put, List.setIfInBounds_toArray, List.set_cons_zero, List.set_cons_succ, i64_w, i32_w]
                     rfl
                    refine pure_ (i := 14) (N := some 41) (v := ?_) (a' := ?_) #[true, true, true, true, true, true, true, true, true, true, true, true, true, true, true, true, true, false] rfl rfl (any_of HT_.out (by kernel_rfl)) (fun _ _ _ h => h) (Or.inl ⟨by rfl, ?_⟩) ?_ ?_
                    rotate_left
                    ·intro w'
                     go_simp
                     with_reducible rfl
                    rotate_left
                    ·simp only [Act.put, List.setIfInBounds_toArray, List.set_cons_zero, List.set_cons_succ, i64_w, i32_w]
                     rfl
                    refine pure_ (i := 17) (N := some 9) (v := ?_) (a' := ?_) #[true, true, true, true, true, true, true, true, true, true, true, true, true, true, true, true, true, true] rfl rfl (any_of HT_.out (by kernel_rfl)) (fun _ _ _ h => h) (Or.inl ⟨by rfl, ?_⟩) ?_ ?_
                    rotate_left
                    ·intro w'
                     go_simp
                     with_reducible rfl
                    rotate_left
                    ·simp only [Act.put, List.setIfInBounds_toArray, List.set_cons_zero, List.set_cons_succ, i64_w, i32_w]
                     rfl
                    refine done_ (done_of HT_.out (by kernel_rfl)) ?_
                    try go_wp2
                    have n0_ := Aside0.mk (Kd.R_drew HO_193000.out)
                    have n1_ := Aside0.mk (blk_drew BK185.out)
                    have n2_ := Aside0.mk (blk_drew BK192.out)
                    have n3_ := Aside0.mk (below_drew1 HB.out)
                    clear HO_193000
                    clear BK185
                    clear BK192
                    clear HB
                    have HO_193000 := n0_
                    have BK185 := n1_
                    have BK192 := n2_
                    have HB := n3_
                    clear n0_ n1_ n2_ n3_
                    refine start_ (n := 10) (S := fun w' => w'.cell? ⟨gb192, 0, none⟩ = some (.slice Ao9 y189.length co9)) (ds := []) #[false, false, false, false, false, false, false, false, false, false] (by kernel_rfl) rfl rfl ((blk_cell BK192.out 0).trans rfl) (fun hHeld => ?_); refine with_tabW colloquylaw01_LatticeLaws.tab6 colloquylaw01_LatticeLaws.bits6 (fun HT_ HW_ => ?_)
                    generalize w62.drew = w63 at HO_193000 BK185 BK192 HB hHeld ⊢
                    refine pure_ (i := 1) (N := some 43) (v := ?_) (a' := ?_) #[false, true, false, false, false, false, false, false, false, false] rfl rfl (any_of HT_.out (by kernel_rfl)) (fun _ _ _ h => h) (Or.inl ⟨by rfl, ?_⟩) ?_ ?_
                    rotate_left
                    ·intro w'
                     go_simp
                     with_reducible rfl
                    rotate_left
                    ·simp only [Act.put, List.setIfInBounds_toArray, List.set_cons_zero, List.set_cons_succ, i64_w, i32_w]
                     rfl
                    refine pure_ (i := 2) (N := some 44) (v := ?_) (a' := ?_) #[false, true, true, false, false, false, false, false, false, false] rfl rfl (any_of HT_.out (by kernel_rfl)) (fun _ _ _ h => h) (Or.inl ⟨by rfl, ?_⟩) ?_ ?_
                    rotate_left
                    ·intro w'
                     go_simp
                     with_reducible rfl
                    rotate_left
                    ·simp only [Act.put, List.setIfInBounds_toArray, List.set_cons_zero, List.set_cons_succ, i64_w, i32_w]
                     rfl
                    refine pure_ (i := 5) (N := some 47) (v := ?_) (a' := ?_) #[false, true, true, false, false, true, false, false, false, false] rfl rfl (any_of HT_.out (by kernel_rfl)) (fun _ _ _ h => h) (Or.inl ⟨by rfl, ?_⟩) ?_ ?_
                    rotate_left
                    ·intro w'
                     go_simp
                     with_reducible rfl
                    rotate_left
                    ·simp only [Act.put, List.setIfInBounds_toArray, List.set_cons_zero, List.set_cons_succ, i64_w, i32_w]
                     rfl
                    refine pure_ (i := 6) (N := some 48) (v := ?_) (a' := ?_) #[false, true, true, false, false, true, true, false, false, false] rfl rfl (any_of HT_.out (by kernel_rfl)) (fun _ _ _ h => h) (Or.inl ⟨by rfl, ?_⟩) ?_ ?_
                    rotate_left
                    ·intro w'
                     go_simp
                     with_reducible rfl
                    rotate_left
                    ·simp only [Act.put, List.setIfInBounds_toArray, List.set_cons_zero, List.set_cons_succ, i64_w, i32_w]
                     rfl
                    refine take_ (i := 0) (N := some 42) (v := ?_) (a' := ?_) #[true, true, true, false, false, true, true, false, false, false] rfl rfl (take_ofW HT_.out HW_.out (by kernel_rfl)) (fun _ _ _ h => h) (Or.inl ⟨by rfl, ?_⟩) hHeld ?_ ?_
                    rotate_left
                    ·intro w' s0
                     go_simp
                     with_reducible rfl
                    rotate_left
                    ·simp only [Act.put, List.setIfInBounds_toArray, List.set_cons_zero, List.set_cons_succ, i64_w, i32_w]
                     rfl
                    refine take_ (i := 4) (N := some 46) (v := ?_) (a' := ?_) #[true, true, true, false, true, true, true, false, false, false] rfl rfl (take_ofW HT_.out HW_.out (by kernel_rfl)) (fun _ _ _ h => h) (Or.inl ⟨by rfl, ?_⟩) hHeld ?_ ?_
                    rotate_left
                    ·intro w' s0
                     go_simp
                     with_reducible rfl
                    rotate_left
                    ·simp only [Act.put, List.setIfInBounds_toArray, List.set_cons_zero, List.set_cons_succ, i64_w, i32_w]
                     rfl
                    refine one_ (i := 3) (N := some 45) #[true, true, true, true, true, true, true, false, false, false] rfl rfl (one_of HT_.out (by kernel_rfl)) (by decide) (fun K hK => ?_)
                    refine goes_ Tryd.func15 (by kernel_rfl) rfl #[.agg #[.slice Ao9 y189.length co9], .int .i64 (Int.tmod (wrap64 (a1_0)) (l0.length : Int)), .int .i64 (Int.tmod (wrap64 (a1_1)) (l0.length : Int))] (by rfl) rfl rfl (by (try simp only [List.map_toArray, List.map_cons, List.map_nil]); first | done | rfl | (simp only [List.length_drop, List.length_take]; rfl)) ?_
                    with_reducible refine (lattice_Lat_Join.calls kj3 _ _ y189 (Int.tmod (wrap64 (a1_0)) (l0.length : Int)) (Int.tmod (wrap64 (a1_1)) (l0.length : Int)) t196 _ ?side1 ?side2 A25.out).mono ?_
                    (case side1 => repeat (first | exact (Kd.R_reads' HO_193000.out).2.2 | (with_reducible refine Kd.C_alloc ?_ _) | (with_reducible refine Kd.C_drewN ?_ _) | (with_reducible refine Kd.C_drew ?_)))
                    (case side2 => exact (Kd.R_reads' HO_193000.out).2.1)
                    rintro e w64 ⟨rfl, hb⟩
                    refine ⟨_, rfl, ?_⟩
                    have n0_ := Aside0.mk (Kd.R_below (by (with_reducible repeat (first | apply Kd.R_alloc | apply Kd.R_drewN | apply Kd.R_drew)); exact HO_193000.out) hb)
                    have n1_ := Aside0.mk (blk_below (g := gb185) (o := .cells #[.int .u8 a1_0, .int .u8 a1_1, .int .u8 a1_2] 37 (0, 0)) (by (with_reducible repeat (first | refine blk_drewN ?_ _ | refine blk_drew ?_ | refine blk_alloc ?_ _)); exact BK185.out) hb)
                    have n2_ := Aside0.mk (blk_below (g := gb192) (o := .cells #[.slice Ao9 y189.length co9] 25 (0, 0)) (by (with_reducible repeat (first | refine blk_drewN ?_ _ | refine blk_drew ?_ | refine blk_alloc ?_ _)); exact BK192.out) hb)
                    have n3_ := Aside0.mk (below_step (by repeat (first | (with_reducible first | exact HB.out | apply below_alloc | apply pw_below_drewN | apply below_drew1 | refine below_set ?_ GE185.out | refine below_set ?_ GE192.out) | exact HB.out)) hb)
                    clear HO_193000
                    clear BK185
                    clear BK192
                    clear HB
                    have HO_193000 := n0_
                    have BK185 := n1_
                    have BK192 := n2_
                    have HB := n3_
                    clear n0_ n1_ n2_ n3_
                    (try clear hb)
                    (try clear hb2)
                    (try clear hk)
                    (try clear hi)
                    refine hK.out _ _ ((blk_cell BK192.out 0).trans rfl) (fun hHeld => ?_)
                    clear hK K
                    refine norm_ (a' := ?_) ?_ ?_
                    rotate_left
                    ·show Act.put _ (some 45) _ = _
                     simp only [Act.put, List.setIfInBounds_toArray, List.set_cons_zero, List.set_cons_succ, i64_w, i32_w]
                     rfl
                    refine one_ (i := 7) (N := some 49) #[true, true, true, true, true, true, true, true, false, false] rfl rfl (one_of HT_.out (by kernel_rfl)) (by decide) (fun K hK => ?_)
                    refine goes_ Tryd.func16 (by kernel_rfl) rfl #[.agg #[.slice Ao9 y189.length co9], .int .i64 (Int.tmod (wrap64 (a1_0)) (l0.length : Int)), .int .i64 (Int.tmod (wrap64 (a1_1)) (l0.length : Int))] (by rfl) rfl rfl (by (try simp only [List.map_toArray, List.map_cons, List.map_nil]); first | done | rfl | (simp only [List.length_drop, List.length_take]; rfl)) ?_
                    with_reducible refine (lattice_Lat_Meet.calls kj3 _ _ y189 (Int.tmod (wrap64 (a1_0)) (l0.length : Int)) (Int.tmod (wrap64 (a1_1)) (l0.length : Int)) t197 _ ?side1 ?side2 A26.out).mono ?_
                    (case side1 => repeat (first | exact (Kd.R_reads' HO_193000.out).2.2 | (with_reducible refine Kd.C_alloc ?_ _) | (with_reducible refine Kd.C_drewN ?_ _) | (with_reducible refine Kd.C_drew ?_)))
                    (case side2 => exact (Kd.R_reads' HO_193000.out).2.1)
                    rintro e w65 ⟨rfl, hb⟩
                    refine ⟨_, rfl, ?_⟩
                    have n0_ := Aside0.mk (Kd.R_below (by (with_reducible repeat (first | apply Kd.R_alloc | apply Kd.R_drewN | apply Kd.R_drew)); exact HO_193000.out) hb)
                    have n1_ := Aside0.mk (blk_below (g := gb185) (o := .cells #[.int .u8 a1_0, .int .u8 a1_1, .int .u8 a1_2] 37 (0, 0)) (by (with_reducible repeat (first | refine blk_drewN ?_ _ | refine blk_drew ?_ | refine blk_alloc ?_ _)); exact BK185.out) hb)
                    have n2_ := Aside0.mk (blk_below (g := gb192) (o := .cells #[.slice Ao9 y189.length co9] 25 (0, 0)) (by (with_reducible repeat (first | refine blk_drewN ?_ _ | refine blk_drew ?_ | refine blk_alloc ?_ _)); exact BK192.out) hb)
                    have n3_ := Aside0.mk (below_step (by repeat (first | (with_reducible first | exact HB.out | apply below_alloc | apply pw_below_drewN | apply below_drew1 | refine below_set ?_ GE185.out | refine below_set ?_ GE192.out) | exact HB.out)) hb)
                    clear HO_193000
                    clear BK185
                    clear BK192
                    clear HB
                    have HO_193000 := n0_
                    have BK185 := n1_
                    have BK192 := n2_
                    have HB := n3_
                    clear n0_ n1_ n2_ n3_
                    (try clear hb)
                    (try clear hb2)
                    (try clear hk)
                    (try clear hi)
                    refine hK.out _ _ ((blk_cell BK192.out 0).trans rfl) (fun hHeld => ?_)
                    clear hK K
                    refine norm_ (a' := ?_) ?_ ?_
                    rotate_left
                    ·show Act.put _ (some 49) _ = _
                     simp only [Act.put, List.setIfInBounds_toArray, List.set_cons_zero, List.set_cons_succ, i64_w, i32_w]
                     rfl
                    refine pure_ (i := 8) (N := some 10) (v := ?_) (a' := ?_) #[true, true, true, true, true, true, true, true, true, false] rfl rfl (any_of HT_.out (by kernel_rfl)) (fun _ _ _ h => h) (Or.inl ⟨by rfl, ?_⟩) ?_ ?_
                    rotate_left
                    ·intro w'
                     go_simp
                     with_reducible rfl
                    rotate_left
                    ·simp only [Act.put, List.setIfInBounds_toArray, List.set_cons_zero, List.set_cons_succ, i64_w, i32_w]
                     rfl
                    refine pure_ (i := 9) (N := some 11) (v := ?_) (a' := ?_) #[true, true, true, true, true, true, true, true, true, true] rfl rfl (any_of HT_.out (by kernel_rfl)) (fun _ _ _ h => h) (Or.inl ⟨by rfl, ?_⟩) ?_ ?_
                    rotate_left
                    ·intro w'
                     go_simp
                     with_reducible rfl
                    rotate_left
                    ·simp only [Act.put, List.setIfInBounds_toArray, List.set_cons_zero, List.set_cons_succ, i64_w, i32_w]
                     rfl
                    refine done_ (done_of HT_.out (by kernel_rfl)) ?_
                    try go_wp2
                    have n0_ := Aside0.mk (Kd.R_drew HO_193000.out)
                    have n1_ := Aside0.mk (blk_drew BK185.out)
                    have n2_ := Aside0.mk (blk_drew BK192.out)
                    have n3_ := Aside0.mk (below_drew1 HB.out)
                    clear HO_193000
                    clear BK185
                    clear BK192
                    clear HB
                    have HO_193000 := n0_
                    have BK185 := n1_
                    have BK192 := n2_
                    have HB := n3_
                    clear n0_ n1_ n2_ n3_
                    refine start_ (n := 58) (S := fun w' => w'.cell? ⟨gb192, 0, none⟩ = some (.slice Ao9 y189.length co9)) (ds := []) #[false, false, false, false, false, false, false, false, false, false, false, false, false, false, false, false, false, false, false, false, false, false, false, false, false, false, false, false, false, false, false, false, false, false, false, false, false, false, false, false, false, false, false, false, false, false, false, false, false, false, false, false, false, false, false, false, false, false] (by kernel_rfl) rfl rfl ((blk_cell BK192.out 0).trans rfl) (fun hHeld => ?_); refine with_tabW colloquylaw01_LatticeLaws.tab7 colloquylaw01_LatticeLaws.bits7 (fun HT_ HW_ => ?_)
                    generalize w65.drew = w66 at HO_193000 BK185 BK192 HB hHeld ⊢
                    refine pure_ (i := 0) (N := some 50) (v := ?_) (a' := ?_) #[true, false, false, false, false, false, false, false, false, false, false, false, false, false, false, false, false, false, false, false, false, false, false, false, false, false, false, false, false, false, false, false, false, false, false, false, false, false, false, false, false, false, false, false, false, false, false, false, false, false, false, false, false, false, false, false, false, false] rfl rfl (any_of HT_.out (by kernel_rfl)) (fun _ _ _ h => h) (Or.inl ⟨by rfl, ?_⟩) ?_ ?_
                    rotate_left
                    ·intro w'
                     go_simp
                     with_reducible rfl
                    rotate_left
                    ·simp only [Act.put, List.setIfInBounds_toArray, List.set_cons_zero, List.set_cons_succ, i64_w, i32_w]
                     rfl
                    refine pure_ (i := 2) (N := some 52) (v := ?_) (a' := ?_) #[true, false, true, false, false, false, false, false, false, false, false, false, false, false, false, false, false, false, false, false, false, false, false, false, false, false, false, false, false, false, false, false, false, false, false, false, false, false, false, false, false, false, false, false, false, false, false, false, false, false, false, false, false, false, false, false, false, false] rfl rfl (any_of HT_.out (by kernel_rfl)) (fun _ _ _ h => h) (Or.inl ⟨by rfl, ?_⟩) ?_ ?_
                    rotate_left
                    ·intro w'
                     go_simp
                     with_reducible rfl
                    rotate_left
                    ·simp only [Act.put, List.setIfInBounds_toArray, List.set_cons_zero, List.set_cons_succ, i64_w, i32_w]
                     rfl
                    refine pure_ (i := 3) (N := some 53) (v := ?_) (a' := ?_) #[true, false, true, true, false, false, false, false, false, false, false, false, false, false, false, false, false, false, false, false, false, false, false, false, false, false, false, false, false, false, false, false, false, false, false, false, false, false, false, false, false, false, false, false, false, false, false, false, false, false, false, false, false, false, false, false, false, false] rfl rfl (any_of HT_.out (by kernel_rfl)) (fun _ _ _ h => h) (Or.inl ⟨by rfl, ?_⟩) ?_ ?_
                    rotate_left
                    ·intro w'
                     go_simp
                     with_reducible rfl
                    rotate_left
                    ·simp only [Act.put, List.setIfInBounds_toArray, List.set_cons_zero, List.set_cons_succ, i64_w, i32_w]
                     rfl
                    refine take_ (i := 1) (N := some 51) (v := ?_) (a' := ?_) #[true, true, true, true, false, false, false, false, false, false, false, false, false, false, false, false, false, false, false, false, false, false, false, false, false, false, false, false, false, false, false, false, false, false, false, false, false, false, false, false, false, false, false, false, false, false, false, false, false, false, false, false, false, false, false, false, false, false] rfl rfl (take_ofW HT_.out HW_.out (by kernel_rfl)) (fun _ _ _ h => h) (Or.inl ⟨by rfl, ?_⟩) hHeld ?_ ?_
                    rotate_left
                    ·intro w' s0
                     go_simp
                     with_reducible rfl
                    rotate_left
                    ·simp only [Act.put, List.setIfInBounds_toArray, List.set_cons_zero, List.set_cons_succ, i64_w, i32_w]
                     rfl
                    refine one_ (i := 4) (N := some 54) #[true, true, true, true, true, false, false, false, false, false, false, false, false, false, false, false, false, false, false, false, false, false, false, false, false, false, false, false, false, false, false, false, false, false, false, false, false, false, false, false, false, false, false, false, false, false, false, false, false, false, false, false, false, false, false, false, false, false] rfl rfl (one_of HT_.out (by kernel_rfl)) (by decide) (fun K hK => ?_)
                    refine goes_ Tryd.func15 (by kernel_rfl) rfl #[.agg #[.slice Ao9 y189.length co9], .int .i64 (Int.tmod (wrap64 (a1_1)) (l0.length : Int)), .int .i64 (Int.tmod (wrap64 (a1_0)) (l0.length : Int))] (by rfl) rfl rfl (by (try simp only [List.map_toArray, List.map_cons, List.map_nil]); first | done | rfl | (simp only [List.length_drop, List.length_take]; rfl)) ?_
                    with_reducible refine (lattice_Lat_Join.calls kj3 _ _ y189 (Int.tmod (wrap64 (a1_1)) (l0.length : Int)) (Int.tmod (wrap64 (a1_0)) (l0.length : Int)) t198 _ ?side1 ?side2 A27.out).mono ?_
                    (case side1 => repeat (first | exact (Kd.R_reads' HO_193000.out).2.2 | (with_reducible refine Kd.C_alloc ?_ _) | (with_reducible refine Kd.C_drewN ?_ _) | (with_reducible refine Kd.C_drew ?_)))
                    (case side2 => exact (Kd.R_reads' HO_193000.out).2.1)
                    rintro e w67 ⟨rfl, hb⟩
                    refine ⟨_, rfl, ?_⟩
                    have n0_ := Aside0.mk (Kd.R_below (by (with_reducible repeat (first | apply Kd.R_alloc | apply Kd.R_drewN | apply Kd.R_drew)); exact HO_193000.out) hb)
                    have n1_ := Aside0.mk (blk_below (g := gb185) (o := .cells #[.int .u8 a1_0, .int .u8 a1_1, .int .u8 a1_2] 37 (0, 0)) (by (with_reducible repeat (first | refine blk_drewN ?_ _ | refine blk_drew ?_ | refine blk_alloc ?_ _)); exact BK185.out) hb)
                    have n2_ := Aside0.mk (blk_below (g := gb192) (o := .cells #[.slice Ao9 y189.length co9] 25 (0, 0)) (by (with_reducible repeat (first | refine blk_drewN ?_ _ | refine blk_drew ?_ | refine blk_alloc ?_ _)); exact BK192.out) hb)
                    have n3_ := Aside0.mk (below_step (by repeat (first | (with_reducible first | exact HB.out | apply below_alloc | apply pw_below_drewN | apply below_drew1 | refine below_set ?_ GE185.out | refine below_set ?_ GE192.out) | exact HB.out)) hb)
                    clear HO_193000
                    clear BK185
                    clear BK192
                    clear HB
                    have HO_193000 := n0_
                    have BK185 := n1_
                    have BK192 := n2_
                    have HB := n3_
                    clear n0_ n1_ n2_ n3_
                    (try clear hb)
                    (try clear hb2)
                    (try clear hk)
                    (try clear hi)
                    refine hK.out _ _ ((blk_cell BK192.out 0).trans rfl) (fun hHeld => ?_)
                    clear hK K
                    refine norm_ (a' := ?_) ?_ ?_
                    rotate_left
                    ·show Act.put _ (some 54) _ = _
                     simp only [Act.put, List.setIfInBounds_toArray, List.set_cons_zero, List.set_cons_succ, i64_w, i32_w]
                     rfl
                    refine pure_ (i := 5) (N := some 55) (v := ?_) (a' := ?_) #[true, true, true, true, true, true, false, false, false, false, false, false, false, false, false, false, false, false, false, false, false, false, false, false, false, false, false, false, false, false, false, false, false, false, false, false, false, false, false, false, false, false, false, false, false, false, false, false, false, false, false, false, false, false, false, false, false, false] rfl rfl (any_of HT_.out (by kernel_rfl)) (fun _ _ _ h => h) (Or.inl ⟨by rfl, ?_⟩) ?_ ?_
                    rotate_left
                    ·intro w'
                     go_simp
                     with_reducible rfl
                    rotate_left
                    ·simp only [Act.put, List.setIfInBounds_toArray, List.set_cons_zero, List.set_cons_succ, i64_w, i32_w]
                     rfl
                    refine pure_ (i := 6) (N := some 56) (v := ?_) (a' := ?_) #[true, true, true, true, true, true, true, false, false, false, false, false, false, false, false, false, false, false, false, false, false, false, false, false, false, false, false, false, false, false, false, false, false, false, false, false, false, false, false, false, false, false, false, false, false, false, false, false, false, false, false, false, false, false, false, false, false, false] rfl rfl (any_of HT_.out (by kernel_rfl)) (fun _ _ _ h => h) (Or.inl ⟨by rfl, ?_⟩) ?_ ?_
                    rotate_left
                    ·intro w'
                     go_simp
                     with_reducible rfl
                    rotate_left
                    ·simp only [Act.put, List.setIfInBounds_toArray, List.set_cons_zero, List.set_cons_succ, i64_w, i32_w]
                     rfl
                    refine pure_ (i := 7) (N := some 57) (v := ?_) (a' := ?_) #[true, true, true, true, true, true, true, true, false, false, false, false, false, false, false, false, false, false, false, false, false, false, false, false, false, false, false, false, false, false, false, false, false, false, false, false, false, false, false, false, false, false, false, false, false, false, false, false, false, false, false, false, false, false, false, false, false, false] rfl rfl (any_of HT_.out (by kernel_rfl)) (fun _ _ _ h => h) (Or.inl ⟨by rfl, ?_⟩) ?_ ?_
                    rotate_left
                    ·intro w'
                     go_simp
                     with_reducible rfl
                    rotate_left
                    ·simp only [Act.put, List.setIfInBounds_toArray, List.set_cons_zero, List.set_cons_succ, i64_w, i32_w]
                     rfl
                    refine pure_ (i := 9) (N := some 59) (v := ?_) (a' := ?_) #[true, true, true, true, true, true, true, true, false, true, false, false, false, false, false, false, false, false, false, false, false, false, false, false, false, false, false, false, false, false, false, false, false, false, false, false, false, false, false, false, false, false, false, false, false, false, false, false, false, false, false, false, false, false, false, false, false, false] rfl rfl (any_of HT_.out (by kernel_rfl)) (fun _ _ _ h => h) (Or.inl ⟨by rfl, ?_⟩) ?_ ?_
                    rotate_left
                    ·intro w'
                     go_simp
                     with_reducible rfl
                    rotate_left
                    ·simp only [Act.put, List.setIfInBounds_toArray, List.set_cons_zero, List.set_cons_succ, i64_w, i32_w]
                     rfl
                    refine pure_ (i := 10) (N := some 60) (v := ?_) (a' := ?_) #[true, true, true, true, true, true, true, true, false, true, true, false, false, false, false, false, false, false, false, false, false, false, false, false, false, false, false, false, false, false, false, false, false, false, false, false, false, false, false, false, false, false, false, false, false, false, false, false, false, false, false, false, false, false, false, false, false, false] rfl rfl (any_of HT_.out (by kernel_rfl)) (fun _ _ _ h => h) (Or.inl ⟨by rfl, ?_⟩) ?_ ?_
                    rotate_left
                    ·intro w'
                     go_simp
                     with_reducible rfl
                    rotate_left
                    ·simp only [Act.put, List.setIfInBounds_toArray, List.set_cons_zero, List.set_cons_succ, i64_w, i32_w]
                     rfl
                    refine take_ (i := 8) (N := some 58) (v := ?_) (a' := ?_) #[true, true, true, true, true, true, true, true, true, true, true, false, false, false, false, false, false, false, false, false, false, false, false, false, false, false, false, false, false, false, false, false, false, false, false, false, false, false, false, false, false, false, false, false, false, false, false, false, false, false, false, false, false, false, false, false, false, false] rfl rfl (take_ofW HT_.out HW_.out (by kernel_rfl)) (fun _ _ _ h => h) (Or.inl ⟨by rfl, ?_⟩) hHeld ?_ ?_
                    rotate_left
                    ·intro w' s0
                     go_simp
                     with_reducible rfl
                    rotate_left
                    ·simp only [Act.put, List.setIfInBounds_toArray, List.set_cons_zero, List.set_cons_succ, i64_w, i32_w]
                     rfl
                    refine one_ (i := 11) (N := some 61) #[true, true, true, true, true, true, true, true, true, true, true, true, false, false, false, false, false, false, false, false, false, false, false, false, false, false, false, false, false, false, false, false, false, false, false, false, false, false, false, false, false, false, false, false, false, false, false, false, false, false, false, false, false, false, false, false, false, false] rfl rfl (one_of HT_.out (by kernel_rfl)) (by decide) (fun K hK => ?_)
                    refine goes_ Tryd.func16 (by kernel_rfl) rfl #[.agg #[.slice Ao9 y189.length co9], .int .i64 (Int.tmod (wrap64 (a1_1)) (l0.length : Int)), .int .i64 (Int.tmod (wrap64 (a1_0)) (l0.length : Int))] (by rfl) rfl rfl (by (try simp only [List.map_toArray, List.map_cons, List.map_nil]); first | done | rfl | (simp only [List.length_drop, List.length_take]; rfl)) ?_
                    with_reducible refine (lattice_Lat_Meet.calls kj3 _ _ y189 (Int.tmod (wrap64 (a1_1)) (l0.length : Int)) (Int.tmod (wrap64 (a1_0)) (l0.length : Int)) t199 _ ?side1 ?side2 A29.out).mono ?_
                    (case side1 => repeat (first | exact (Kd.R_reads' HO_193000.out).2.2 | (with_reducible refine Kd.C_alloc ?_ _) | (with_reducible refine Kd.C_drewN ?_ _) | (with_reducible refine Kd.C_drew ?_)))
                    (case side2 => exact (Kd.R_reads' HO_193000.out).2.1)
                    rintro e w68 ⟨rfl, hb⟩
                    refine ⟨_, rfl, ?_⟩
                    have n0_ := Aside0.mk (Kd.R_below (by (with_reducible repeat (first | apply Kd.R_alloc | apply Kd.R_drewN | apply Kd.R_drew)); exact HO_193000.out) hb)
                    have n1_ := Aside0.mk (blk_below (g := gb185) (o := .cells #[.int .u8 a1_0, .int .u8 a1_1, .int .u8 a1_2] 37 (0, 0)) (by (with_reducible repeat (first | refine blk_drewN ?_ _ | refine blk_drew ?_ | refine blk_alloc ?_ _)); exact BK185.out) hb)
                    have n2_ := Aside0.mk (blk_below (g := gb192) (o := .cells #[.slice Ao9 y189.length co9] 25 (0, 0)) (by (with_reducible repeat (first | refine blk_drewN ?_ _ | refine blk_drew ?_ | refine blk_alloc ?_ _)); exact BK192.out) hb)
                    have n3_ := Aside0.mk (below_step (by repeat (first | (with_reducible first | exact HB.out | apply below_alloc | apply pw_below_drewN | apply below_drew1 | refine below_set ?_ GE185.out | refine below_set ?_ GE192.out) | exact HB.out)) hb)
                    clear HO_193000
                    clear BK185
                    clear BK192
                    clear HB
                    have HO_193000 := n0_
                    have BK185 := n1_
                    have BK192 := n2_
                    have HB := n3_
                    clear n0_ n1_ n2_ n3_
                    (try clear hb)
                    (try clear hb2)
                    (try clear hk)
                    (try clear hi)
                    refine hK.out _ _ ((blk_cell BK192.out 0).trans rfl) (fun hHeld => ?_)
                    clear hK K
                    refine norm_ (a' := ?_) ?_ ?_
                    rotate_left
                    ·show Act.put _ (some 61) _ = _
                     simp only [Act.put, List.setIfInBounds_toArray, List.set_cons_zero, List.set_cons_succ, i64_w, i32_w]
                     rfl
                    refine pure_ (i := 12) (N := some 62) (v := ?_) (a' := ?_) #[true, true, true, true, true, true, true, true, true, true, true, true, true, false, false, false, false, false, false, false, false, false, false, false, false, false, false, false, false, false, false, false, false, false, false, false, false, false, false, false, false, false, false, false, false, false, false, false, false, false, false, false, false, false, false, false, false, false] rfl rfl (any_of HT_.out (by kernel_rfl)) (fun _ _ _ h => h) (Or.inl ⟨by rfl, ?_⟩) ?_ ?_
                    rotate_left
                    ·intro w'
                     go_simp
                     with_reducible rfl
                    rotate_left
                    ·simp only [Act.put, List.setIfInBounds_toArray, List.set_cons_zero, List.set_cons_succ, i64_w, i32_w]
                     rfl
                    refine pure_ (i := 13) (N := some 63) (v := ?_) (a' := ?_) #[true, true, true, true, true, true, true, true, true, true, true, true, true, true, false, false, false, false, false, false, false, false, false, false, false, false, false, false, false, false, false, false, false, false, false, false, false, false, false, false, false, false, false, false, false, false, false, false, false, false, false, false, false, false, false, false, false, false] rfl rfl (any_of HT_.out (by kernel_rfl)) (fun _ _ _ h => h) (Or.inl ⟨by rfl, ?_⟩) ?_ ?_
                    rotate_left
                    ·intro w'
                     go_simp
                     with_reducible rfl
                    rotate_left
                    ·simp only [Act.put, List.setIfInBounds_toArray, List.set_cons_zero, List.set_cons_succ, i64_w, i32_w]
                     rfl
                    refine pure_ (i := 14) (N := some 64) (v := ?_) (a' := ?_) #[true, true, true, true, true, true, true, true, true, true, true, true, true, true, true, false, false, false, false, false, false, false, false, false, false, false, false, false, false, false, false, false, false, false, false, false, false, false, false, false, false, false, false, false, false, false, false, false, false, false, false, false, false, false, false, false, false, false] rfl rfl (any_of HT_.out (by kernel_rfl)) (fun _ _ _ h => h) (Or.inl ⟨by rfl, ?_⟩) ?_ ?_
                    rotate_left
                    ·intro w'
                     go_simp
                     with_reducible rfl
                    rotate_left
                    ·simp only [Act.put, List.setIfInBounds_toArray, List.set_cons_zero, List.set_cons_succ, i64_w, i32_w]
                     rfl
                    refine pure_ (i := 16) (N := some 66) (v := ?_) (a' := ?_) #[true, true, true, true, true, true, true, true, true, true, true, true, true, true, true, false, true, false, false, false, false, false, false, false, false, false, false, false, false, false, false, false, false, false, false, false, false, false, false, false, false, false, false, false, false, false, false, false, false, false, false, false, false, false, false, false, false, false] rfl rfl (any_of HT_.out (by kernel_rfl)) (fun _ _ _ h => h) (Or.inl ⟨by rfl, ?_⟩) ?_ ?_
                    rotate_left
                    ·intro w'
                     go_simp
                     with_reducible rfl
                    rotate_left
                    ·simp only [Act.put, List.setIfInBounds_toArray, List.set_cons_zero, List.set_cons_succ, i64_w, i32_w]
                     rfl
                    refine pure_ (i := 17) (N := some 67) (v := ?_) (a' := ?_) #[true, true, true, true, true, true, true, true, true, true, true, true, true, true, true, false, true, true, false, false, false, false, false, false, false, false, false, false, false, false, false, false, false, false, false, false, false, false, false, false, false, false, false, false, false, false, false, false, false, false, false, false, false, false, false, false, false, false] rfl rfl (any_of HT_.out (by kernel_rfl)) (fun _ _ _ h => h) (Or.inl ⟨by rfl, ?_⟩) ?_ ?_
                    rotate_left
                    ·intro w'
                     go_simp
                     with_reducible rfl
                    rotate_left
                    ·simp only [Act.put, List.setIfInBounds_toArray, List.set_cons_zero, List.set_cons_succ, i64_w, i32_w]
                     rfl
                    refine pure_ (i := 20) (N := some 70) (v := ?_) (a' := ?_) #[true, true, true, true, true, true, true, true, true, true, true, true, true, true, true, false, true, true, false, false, true, false, false, false, false, false, false, false, false, false, false, false, false, false, false, false, false, false, false, false, false, false, false, false, false, false, false, false, false, false, false, false, false, false, false, false, false, false] rfl rfl (any_of HT_.out (by kernel_rfl)) (fun _ _ _ h => h) (Or.inl ⟨by rfl, ?_⟩) ?_ ?_
                    rotate_left
                    ·intro w'
                     go_simp
                     with_reducible rfl
                    rotate_left
                    ·simp only [Act.put, List.setIfInBounds_toArray, List.set_cons_zero, List.set_cons_succ, i64_w, i32_w]
                     rfl
                    refine pure_ (i := 22) (N := some 72) (v := ?_) (a' := ?_) #[true, true, true, true, true, true, true, true, true, true, true, true, true, true, true, false, true, true, false, false, true, false, true, false, false, false, false, false, false, false, false, false, false, false, false, false, false, false, false, false, false, false, false, false, false, false, false, false, false, false, false, false, false, false, false, false, false, false] rfl rfl (any_of HT_.out (by kernel_rfl)) (fun _ _ _ h => h) (Or.inl ⟨by rfl, ?_⟩) ?_ ?_
                    rotate_left
                    ·intro w'
                     go_simp
                     with_reducible rfl
                    rotate_left
                    ·simp only [Act.put, List.setIfInBounds_toArray, List.set_cons_zero, List.set_cons_succ, i64_w, i32_w]
                     rfl
                    refine pure_ (i := 23) (N := some 73) (v := ?_) (a' := ?_) #[true, true, true, true, true, true, true, true, true, true, true, true, true, true, true, false, true, true, false, false, true, false, true, true, false, false, false, false, false, false, false, false, false, false, false, false, false, false, false, false, false, false, false, false, false, false, false, false, false, false, false, false, false, false, false, false, false, false] rfl rfl (any_of HT_.out (by kernel_rfl)) (fun _ _ _ h => h) (Or.inl ⟨by rfl, ?_⟩) ?_ ?_
                    rotate_left
                    ·intro w'
                     go_simp
                     with_reducible rfl
                    rotate_left
                    ·simp only [Act.put, List.setIfInBounds_toArray, List.set_cons_zero, List.set_cons_succ, i64_w, i32_w]
                     rfl
                    refine take_ (i := 15) (N := some 65) (v := ?_) (a' := ?_) #[true, true, true, true, true, true, true, true, true, true, true, true, true, true, true, true, true, true, false, false, true, false, true, true, false, false, false, false, false, false, false, false, false, false, false, false, false, false, false, false, false, false, false, false, false, false, false, false, false, false, false, false, false, false, false, false, false, false] rfl rfl (take_ofW HT_.out HW_.out (by kernel_rfl)) (fun _ _ _ h => h) (Or.inl ⟨by rfl, ?_⟩) hHeld ?_ ?_
                    rotate_left
                    ·intro w' s0
                     go_simp
                     with_reducible rfl
                    rotate_left
                    ·simp only [Act.put, List.setIfInBounds_toArray, List.set_cons_zero, List.set_cons_succ, i64_w, i32_w]
                     rfl
                    refine take_ (i := 19) (N := some 69) (v := ?_) (a' := ?_) #[true, true, true, true, true, true, true, true, true, true, true, true, true, true, true, true, true, true, false, true, true, false, true, true, false, false, false, false, false, false, false, false, false, false, false, false, false, false, false, false, false, false, false, false, false, false, false, false, false, false, false, false, false, false, false, false, false, false] rfl rfl (take_ofW HT_.out HW_.out (by kernel_rfl)) (fun _ _ _ h => h) (Or.inl ⟨by rfl, ?_⟩) hHeld ?_ ?_
                    rotate_left
                    ·intro w' s0
                     go_simp
                     with_reducible rfl
                    rotate_left
                    ·simp only [Act.put, List.setIfInBounds_toArray, List.set_cons_zero, List.set_cons_succ, i64_w, i32_w]
                     rfl
                    refine take_ (i := 21) (N := some 71) (v := ?_) (a' := ?_) #[true, true, true, true, true, true, true, true, true, true, true, true, true, true, true, true, true, true, false, true, true, true, true, true, false, false, false, false, false, false, false, false, false, false, false, false, false, false, false, false, false, false, false, false, false, false, false, false, false, false, false, false, false, false, false, false, false, false] rfl rfl (take_ofW HT_.out HW_.out (by kernel_rfl)) (fun _ _ _ h => h) (Or.inl ⟨by rfl, ?_⟩) hHeld ?_ ?_
                    rotate_left
                    ·intro w' s0
                     go_simp
                     with_reducible rfl
                    rotate_left
                    ·simp only [Act.put, List.setIfInBounds_toArray, List.set_cons_zero, List.set_cons_succ, i64_w, i32_w]
                     rfl
                    refine one_ (i := 18) (N := some 68) #[true, true, true, true, true, true, true, true, true, true, true, true, true, true, true, true, true, true, true, true, true, true, true, true, false, false, false, false, false, false, false, false, false, false, false, false, false, false, false, false, false, false, false, false, false, false, false, false, false, false, false, false, false, false, false, false, false, false] rfl rfl (one_of HT_.out (by kernel_rfl)) (by decide) (fun K hK => ?_)
                    refine goes_ Tryd.func15 (by kernel_rfl) rfl #[.agg #[.slice Ao9 y189.length co9], .int .i64 t196, .int .i64 (Int.tmod (wrap64 (a1_2)) (l0.length : Int))] (by rfl) rfl rfl (by (try simp only [List.map_toArray, List.map_cons, List.map_nil]); first | done | rfl | (simp only [List.length_drop, List.length_take]; rfl)) ?_
                    with_reducible refine (lattice_Lat_Join.calls kj3 _ _ y189 t196 (Int.tmod (wrap64 (a1_2)) (l0.length : Int)) t200 _ ?side1 ?side2 A31.out).mono ?_
                    (case side1 => repeat (first | exact (Kd.R_reads' HO_193000.out).2.2 | (with_reducible refine Kd.C_alloc ?_ _) | (with_reducible refine Kd.C_drewN ?_ _) | (with_reducible refine Kd.C_drew ?_)))
                    (case side2 => exact (Kd.R_reads' HO_193000.out).2.1)
                    rintro e w69 ⟨rfl, hb⟩
                    refine ⟨_, rfl, ?_⟩
                    have n0_ := Aside0.mk (Kd.R_below (by (with_reducible repeat (first | apply Kd.R_alloc | apply Kd.R_drewN | apply Kd.R_drew)); exact HO_193000.out) hb)
                    have n1_ := Aside0.mk (blk_below (g := gb185) (o := .cells #[.int .u8 a1_0, .int .u8 a1_1, .int .u8 a1_2] 37 (0, 0)) (by (with_reducible repeat (first | refine blk_drewN ?_ _ | refine blk_drew ?_ | refine blk_alloc ?_ _)); exact BK185.out) hb)
                    have n2_ := Aside0.mk (blk_below (g := gb192) (o := .cells #[.slice Ao9 y189.length co9] 25 (0, 0)) (by (with_reducible repeat (first | refine blk_drewN ?_ _ | refine blk_drew ?_ | refine blk_alloc ?_ _)); exact BK192.out) hb)
                    have n3_ := Aside0.mk (below_step (by repeat (first | (with_reducible first | exact HB.out | apply below_alloc | apply pw_below_drewN | apply below_drew1 | refine below_set ?_ GE185.out | refine below_set ?_ GE192.out) | exact HB.out)) hb)
                    clear HO_193000
                    clear BK185
                    clear BK192
                    clear HB
                    have HO_193000 := n0_
                    have BK185 := n1_
                    have BK192 := n2_
                    have HB := n3_
                    clear n0_ n1_ n2_ n3_
                    (try clear hb)
                    (try clear hb2)
                    (try clear hk)
                    (try clear hi)
                    refine hK.out _ _ ((blk_cell BK192.out 0).trans rfl) (fun hHeld => ?_)
                    clear hK K
                    refine norm_ (a' := ?_) ?_ ?_
                    rotate_left
                    ·show Act.put _ (some 68) _ = _
                     simp only [Act.put, List.setIfInBounds_toArray, List.set_cons_zero, List.set_cons_succ, i64_w, i32_w]
                     rfl
                    refine one_ (i := 24) (N := some 74) #[true, true, true, true, true, true, true, true, true, true, true, true, true, true, true, true, true, true, true, true, true, true, true, true, true, false, false, false, false, false, false, false, false, false, false, false, false, false, false, false, false, false, false, false, false, false, false, false, false, false, false, false, false, false, false, false, false, false] rfl rfl (one_of HT_.out (by kernel_rfl)) (by decide) (fun K hK => ?_)
                    refine goes_ Tryd.func15 (by kernel_rfl) rfl #[.agg #[.slice Ao9 y189.length co9], .int .i64 (Int.tmod (wrap64 (a1_1)) (l0.length : Int)), .int .i64 (Int.tmod (wrap64 (a1_2)) (l0.length : Int))] (by rfl) rfl rfl (by (try simp only [List.map_toArray, List.map_cons, List.map_nil]); first | done | rfl | (simp only [List.length_drop, List.length_take]; rfl)) ?_
                    with_reducible refine (lattice_Lat_Join.calls kj3 _ _ y189 (Int.tmod (wrap64 (a1_1)) (l0.length : Int)) (Int.tmod (wrap64 (a1_2)) (l0.length : Int)) t201 _ ?side1 ?side2 A32.out).mono ?_
                    (case side1 => repeat (first | exact (Kd.R_reads' HO_193000.out).2.2 | (with_reducible refine Kd.C_alloc ?_ _) | (with_reducible refine Kd.C_drewN ?_ _) | (with_reducible refine Kd.C_drew ?_)))
                    (case side2 => exact (Kd.R_reads' HO_193000.out).2.1)
                    rintro e w70 ⟨rfl, hb⟩
                    refine ⟨_, rfl, ?_⟩
                    have n0_ := Aside0.mk (Kd.R_below (by (with_reducible repeat (first | apply Kd.R_alloc | apply Kd.R_drewN | apply Kd.R_drew)); exact HO_193000.out) hb)
                    have n1_ := Aside0.mk (blk_below (g := gb185) (o := .cells #[.int .u8 a1_0, .int .u8 a1_1, .int .u8 a1_2] 37 (0, 0)) (by (with_reducible repeat (first | refine blk_drewN ?_ _ | refine blk_drew ?_ | refine blk_alloc ?_ _)); exact BK185.out) hb)
                    have n2_ := Aside0.mk (blk_below (g := gb192) (o := .cells #[.slice Ao9 y189.length co9] 25 (0, 0)) (by (with_reducible repeat (first | refine blk_drewN ?_ _ | refine blk_drew ?_ | refine blk_alloc ?_ _)); exact BK192.out) hb)
                    have n3_ := Aside0.mk (below_step (by repeat (first | (with_reducible first | exact HB.out | apply below_alloc | apply pw_below_drewN | apply below_drew1 | refine below_set ?_ GE185.out | refine below_set ?_ GE192.out) | exact HB.out)) hb)
                    clear HO_193000
                    clear BK185
                    clear BK192
                    clear HB
                    have HO_193000 := n0_
                    have BK185 := n1_
                    have BK192 := n2_
                    have HB := n3_
                    clear n0_ n1_ n2_ n3_
                    (try clear hb)
                    (try clear hb2)
                    (try clear hk)
                    (try clear hi)
                    refine hK.out _ _ ((blk_cell BK192.out 0).trans rfl) (fun hHeld => ?_)
                    clear hK K
                    refine norm_ (a' := ?_) ?_ ?_
                    rotate_left
                    ·show Act.put _ (some 74) _ = _
                     simp only [Act.put, List.setIfInBounds_toArray, List.set_cons_zero, List.set_cons_succ, i64_w, i32_w]
                     rfl
                    refine one_ (i := 25) (N := some 75) #[true, true, true, true, true, true, true, true, true, true, true, true, true, true, true, true, true, true, true, true, true, true, true, true, true, true, false, false, false, false, false, false, false, false, false, false, false, false, false, false, false, false, false, false, false, false, false, false, false, false, false, false, false, false, false, false, false, false] rfl rfl (one_of HT_.out (by kernel_rfl)) (by decide) (fun K hK => ?_)
                    refine goes_ Tryd.func15 (by kernel_rfl) rfl #[.agg #[.slice Ao9 y189.length co9], .int .i64 (Int.tmod (wrap64 (a1_0)) (l0.length : Int)), .int .i64 t201] (by rfl) rfl rfl (by (try simp only [List.map_toArray, List.map_cons, List.map_nil]); first | done | rfl | (simp only [List.length_drop, List.length_take]; rfl)) ?_
                    with_reducible refine (lattice_Lat_Join.calls kj3 _ _ y189 (Int.tmod (wrap64 (a1_0)) (l0.length : Int)) t201 t202 _ ?side1 ?side2 A33.out).mono ?_
                    (case side1 => repeat (first | exact (Kd.R_reads' HO_193000.out).2.2 | (with_reducible refine Kd.C_alloc ?_ _) | (with_reducible refine Kd.C_drewN ?_ _) | (with_reducible refine Kd.C_drew ?_)))
                    (case side2 => exact (Kd.R_reads' HO_193000.out).2.1)
                    rintro e w71 ⟨rfl, hb⟩
                    refine ⟨_, rfl, ?_⟩
                    have n0_ := Aside0.mk (Kd.R_below (by (with_reducible repeat (first | apply Kd.R_alloc | apply Kd.R_drewN | apply Kd.R_drew)); exact HO_193000.out) hb)
                    have n1_ := Aside0.mk (blk_below (g := gb185) (o := .cells #[.int .u8 a1_0, .int .u8 a1_1, .int .u8 a1_2] 37 (0, 0)) (by (with_reducible repeat (first | refine blk_drewN ?_ _ | refine blk_drew ?_ | refine blk_alloc ?_ _)); exact BK185.out) hb)
                    have n2_ := Aside0.mk (blk_below (g := gb192) (o := .cells #[.slice Ao9 y189.length co9] 25 (0, 0)) (by (with_reducible repeat (first | refine blk_drewN ?_ _ | refine blk_drew ?_ | refine blk_alloc ?_ _)); exact BK192.out) hb)
                    have n3_ := Aside0.mk (below_step (by repeat (first | (with_reducible first | exact HB.out | apply below_alloc | apply pw_below_drewN | apply below_drew1 | refine below_set ?_ GE185.out | refine below_set ?_ GE192.out) | exact HB.out)) hb)
                    clear HO_193000
                    clear BK185
                    clear BK192
                    clear HB
                    have HO_193000 := n0_
                    have BK185 := n1_
                    have BK192 := n2_
                    have HB := n3_
                    clear n0_ n1_ n2_ n3_
                    (try clear hb)
                    (try clear hb2)
                    (try clear hk)
                    (try clear hi)
                    refine hK.out _ _ ((blk_cell BK192.out 0).trans rfl) (fun hHeld => ?_)
                    clear hK K
                    refine norm_ (a' := ?_) ?_ ?_
                    rotate_left
                    ·show Act.put _ (some 75) _ = _
                     simp only [Act.put, List.setIfInBounds_toArray, List.set_cons_zero, List.set_cons_succ, i64_w, i32_w]
                     rfl
                    refine pure_ (i := 26) (N := some 76) (v := ?_) (a' := ?_) #[true, true, true, true, true, true, true, true, true, true, true, true, true, true, true, true, true, true, true, true, true, true, true, true, true, true, true, false, false, false, false, false, false, false, false, false, false, false, false, false, false, false, false, false, false, false, false, false, false, false, false, false, false, false, false, false, false, false] rfl rfl (any_of HT_.out (by kernel_rfl)) (fun _ _ _ h => h) (Or.inl ⟨by rfl, ?_⟩) ?_ ?_
                    rotate_left
                    ·intro w'
                     go_simp
                     with_reducible rfl
                    rotate_left
                    ·simp only [Act.put, List.setIfInBounds_toArray, List.set_cons_zero, List.set_cons_succ, i64_w, i32_w]
                     rfl
                    refine pure_ (i := 27) (N := some 77) (v := ?_) (a' := ?_) #[true, true, true, true, true, true, true, true, true, true, true, true, true, true, true, true, true, true, true, true, true, true, true, true, true, true, true, true, false, false, false, false, false, false, false, false, false, false, false, false, false, false, false, false, false, false, false, false, false, false, false, false, false, false, false, false, false, false] rfl rfl (any_of HT_.out (by kernel_rfl)) (fun _ _ _ h => h) (Or.inl ⟨by rfl, ?_⟩) ?_ ?_
                    rotate_left
                    ·intro w'
                     go_simp
                     with_reducible rfl
                    rotate_left
                    ·simp only [Act.put, List.setIfInBounds_toArray, List.set_cons_zero, List.set_cons_succ, i64_w, i32_w]
                     rfl
                    refine pure_ (i := 28) (N := some 78) (v := ?_) (a' := ?_) #[true, true, true, true, true, true, true, true, true, true, true, true, true, true, true, true, true, true, true, true, true, true, true, true, true, true, true, true, true, false, false, false, false, false, false, false, false, false, false, false, false, false, false, false, false, false, false, false, false, false, false, false, false, false, false, false, false, false] rfl rfl (any_of HT_.out (by kernel_rfl)) (fun _ _ _ h => h) (Or.inl ⟨by rfl, ?_⟩) ?_ ?_
                    rotate_left
                    ·intro w'
                     go_simp
                     with_reducible rfl
                    rotate_left
                    ·simp only [Act.put, List.setIfInBounds_toArray, List.set_cons_zero, List.set_cons_succ, i64_w, i32_w]
                     rfl
                    refine pure_ (i := 30) (N := some 80) (v := ?_) (a' := ?_) #[true, true, true, true, true, true, true, true, true, true, true, true, true, true, true, true, true, true, true, true, true, true, true, true, true, true, true, true, true, false, true, false, false, false, false, false, false, false, false, false, false, false, false, false, false, false, false, false, false, false, false, false, false, false, false, false, false, false] rfl rfl (any_of HT_.out (by kernel_rfl)) (fun _ _ _ h => h) (Or.inl ⟨by rfl, ?_⟩) ?_ ?_
                    rotate_left
                    ·intro w'
                     go_simp
                     with_reducible rfl
                    rotate_left
                    ·simp only [Act.put, List.setIfInBounds_toArray, List.set_cons_zero, List.set_cons_succ, i64_w, i32_w]
                     rfl
                    refine pure_ (i := 31) (N := some 81) (v := ?_) (a' := ?_) #[true, true, true, true, true, true, true, true, true, true, true, true, true, true, true, true, true, true, true, true, true, true, true, true, true, true, true, true, true, false, true, true, false, false, false, false, false, false, false, false, false, false, false, false, false, false, false, false, false, false, false, false, false, false, false, false, false, false] rfl rfl (any_of HT_.out (by kernel_rfl)) (fun _ _ _ h => h) (Or.inl ⟨by rfl, ?_⟩) ?_ ?_
                    rotate_left
                    ·intro w'
                     go_simp
                     with_reducible rfl
                    rotate_left
                    ·simp only [Act.put, List.setIfInBounds_toArray, List.set_cons_zero, List.set_cons_succ, i64_w, i32_w]
                     rfl
                    refine pure_ (i := 34) (N := some 84) (v := ?_) (a' := ?_) #[true, true, true, true, true, true, true, true, true, true, true, true, true, true, true, true, true, true, true, true, true, true, true, true, true, true, true, true, true, false, true, true, false, false, true, false, false, false, false, false, false, false, false, false, false, false, false, false, false, false, false, false, false, false, false, false, false, false] rfl rfl (any_of HT_.out (by kernel_rfl)) (fun _ _ _ h => h) (Or.inl ⟨by rfl, ?_⟩) ?_ ?_
                    rotate_left
                    ·intro w'
                     go_simp
                     with_reducible rfl
                    rotate_left
                    ·simp only [Act.put, List.setIfInBounds_toArray, List.set_cons_zero, List.set_cons_succ, i64_w, i32_w]
                     rfl
                    refine pure_ (i := 36) (N := some 86) (v := ?_) (a' := ?_) #[true, true, true, true, true, true, true, true, true, true, true, true, true, true, true, true, true, true, true, true, true, true, true, true, true, true, true, true, true, false, true, true, false, false, true, false, true, false, false, false, false, false, false, false, false, false, false, false, false, false, false, false, false, false, false, false, false, false] rfl rfl (any_of HT_.out (by kernel_rfl)) (fun _ _ _ h => h) (Or.inl ⟨by rfl, ?_⟩) ?_ ?_
                    rotate_left
                    ·intro w'
                     go_simp
                     with_reducible rfl
                    rotate_left
                    ·simp only [Act.put, List.setIfInBounds_toArray, List.set_cons_zero, List.set_cons_succ, i64_w, i32_w]
                     rfl
                    refine pure_ (i := 37) (N := some 87) (v := ?_) (a' := ?_) #[true, true, true, true, true, true, true, true, true, true, true, true, true, true, true, true, true, true, true, true, true, true, true, true, true, true, true, true, true, false, true, true, false, false, true, false, true, true, false, false, false, false, false, false, false, false, false, false, false, false, false, false, false, false, false, false, false, false] rfl rfl (any_of HT_.out (by kernel_rfl)) (fun _ _ _ h => h) (Or.inl ⟨by rfl, ?_⟩) ?_ ?_
                    rotate_left
                    ·intro w'
                     go_simp
                     with_reducible rfl
                    rotate_left
                    ·simp only [Act.put, List.setIfInBounds_toArray, List.set_cons_zero, List.set_cons_succ, i64_w, i32_w]
                     rfl
                    refine take_ (i := 29) (N := some 79) (v := ?_) (a' := ?_) #[true, true, true, true, true, true, true, true, true, true, true, true, true, true, true, true, true, true, true, true, true, true, true, true, true, true, true, true, true, true, true, true, false, false, true, false, true, true, false, false, false, false, false, false, false, false, false, false, false, false, false, false, false, false, false, false, false, false] rfl rfl (take_ofW HT_.out HW_.out (by kernel_rfl)) (fun _ _ _ h => h) (Or.inl ⟨by rfl, ?_⟩) hHeld ?_ ?_
                    rotate_left
                    ·intro w' s0
                     go_simp
                     with_reducible rfl
                    rotate_left
                    ·simp only [Act.put, List.setIfInBounds_toArray, List.set_cons_zero, List.set_cons_succ, i64_w, i32_w]
                     rfl
                    refine take_ (i := 33) (N := some 83) (v := ?_) (a' := ?_) #[true, true, true, true, true, true, true, true, true, true, true, true, true, true, true, true, true, true, true, true, true, true, true, true, true, true, true, true, true, true, true, true, false, true, true, false, true, true, false, false, false, false, false, false, false, false, false, false, false, false, false, false, false, false, false, false, false, false] rfl rfl (take_ofW HT_.out HW_.out (by kernel_rfl)) (fun _ _ _ h => h) (Or.inl ⟨by rfl, ?_⟩) hHeld ?_ ?_
                    rotate_left
                    ·intro w' s0
                     go_simp
                     with_reducible rfl
                    rotate_left
                    ·simp only [Act.put, List.setIfInBounds_toArray, List.set_cons_zero, List.set_cons_succ, i64_w, i32_w]
                     rfl
                    refine take_ (i := 35) (N := some 85) (v := ?_) (a' := ?_) #[true, true, true, true, true, true, true, true, true, true, true, true, true, true, true, true, true, true, true, true, true, true, true, true, true, true, true, true, true, true, true, true, false, true, true, true, true, true, false, false, false, false, false, false, false, false, false, false, false, false, false, false, false, false, false, false, false, false] rfl rfl (take_ofW HT_.out HW_.out (by kernel_rfl)) (fun _ _ _ h => h) (Or.inl ⟨by rfl, ?_⟩) hHeld ?_ ?_
                    rotate_left
                    ·intro w' s0
                     go_simp
                     with_reducible rfl
                    rotate_left
                    ·simp only [Act.put, List.setIfInBounds_toArray, List.set_cons_zero, List.set_cons_succ, i64_w, i32_w]
                     rfl
                    refine one_ (i := 32) (N := some 82) #[true, true, true, true, true, true, true, true, true, true, true, true, true, true, true, true, true, true, true, true, true, true, true, true, true, true, true, true, true, true, true, true, true, true, true, true, true, true, false, false, false, false, false, false, false, false, false, false, false, false, false, false, false, false, false, false, false, false] rfl rfl (one_of HT_.out (by kernel_rfl)) (by decide) (fun K hK => ?_)
                    refine goes_ Tryd.func16 (by kernel_rfl) rfl #[.agg #[.slice Ao9 y189.length co9], .int .i64 t197, .int .i64 (Int.tmod (wrap64 (a1_2)) (l0.length : Int))] (by rfl) rfl rfl (by (try simp only [List.map_toArray, List.map_cons, List.map_nil]); first | done | rfl | (simp only [List.length_drop, List.length_take]; rfl)) ?_
                    with_reducible refine (lattice_Lat_Meet.calls kj3 _ _ y189 t197 (Int.tmod (wrap64 (a1_2)) (l0.length : Int)) t203 _ ?side1 ?side2 A35.out).mono ?_
                    (case side1 => repeat (first | exact (Kd.R_reads' HO_193000.out).2.2 | (with_reducible refine Kd.C_alloc ?_ _) | (with_reducible refine Kd.C_drewN ?_ _) | (with_reducible refine Kd.C_drew ?_)))
                    (case side2 => exact (Kd.R_reads' HO_193000.out).2.1)
                    rintro e w72 ⟨rfl, hb⟩
                    refine ⟨_, rfl, ?_⟩
                    have n0_ := Aside0.mk (Kd.R_below (by (with_reducible repeat (first | apply Kd.R_alloc | apply Kd.R_drewN | apply Kd.R_drew)); exact HO_193000.out) hb)
                    have n1_ := Aside0.mk (blk_below (g := gb185) (o := .cells #[.int .u8 a1_0, .int .u8 a1_1, .int .u8 a1_2] 37 (0, 0)) (by (with_reducible repeat (first | refine blk_drewN ?_ _ | refine blk_drew ?_ | refine blk_alloc ?_ _)); exact BK185.out) hb)
                    have n2_ := Aside0.mk (blk_below (g := gb192) (o := .cells #[.slice Ao9 y189.length co9] 25 (0, 0)) (by (with_reducible repeat (first | refine blk_drewN ?_ _ | refine blk_drew ?_ | refine blk_alloc ?_ _)); exact BK192.out) hb)
                    have n3_ := Aside0.mk (below_step (by repeat (first | (with_reducible first | exact HB.out | apply below_alloc | apply pw_below_drewN | apply below_drew1 | refine below_set ?_ GE185.out | refine below_set ?_ GE192.out) | exact HB.out)) hb)
                    clear HO_193000
                    clear BK185
                    clear BK192
                    clear HB
                    have HO_193000 := n0_
                    have BK185 := n1_
                    have BK192 := n2_
                    have HB := n3_
                    clear n0_ n1_ n2_ n3_
                    (try clear hb)
                    (try clear hb2)
                    (try clear hk)
                    (try clear hi)
                    refine hK.out _ _ ((blk_cell BK192.out 0).trans rfl) (fun hHeld => ?_)
                    clear hK K
                    refine norm_ (a' := ?_) ?_ ?_
                    rotate_left
                    ·show Act.put _ (some 82) _ = _
                     simp only [Act.put, List.setIfInBounds_toArray, List.set_cons_zero, List.set_cons_succ, i64_w, i32_w]
                     rfl
                    refine one_ (i := 38) (N := some 88) #[true, true, true, true, true, true, true, true, true, true, true, true, true, true, true, true, true, true, true, true, true, true, true, true, true, true, true, true, true, true, true, true, true, true, true, true, true, true, true, false, false, false, false, false, false, false, false, false, false, false, false, false, false, false, false, false, false, false] rfl rfl (one_of HT_.out (by kernel_rfl)) (by decide) (fun K hK => ?_)
                    refine goes_ Tryd.func16 (by kernel_rfl) rfl #[.agg #[.slice Ao9 y189.length co9], .int .i64 (Int.tmod (wrap64 (a1_1)) (l0.length : Int)), .int .i64 (Int.tmod (wrap64 (a1_2)) (l0.length : Int))] (by rfl) rfl rfl (by (try simp only [List.map_toArray, List.map_cons, List.map_nil]); first | done | rfl | (simp only [List.length_drop, List.length_take]; rfl)) ?_
                    with_reducible refine (lattice_Lat_Meet.calls kj3 _ _ y189 (Int.tmod (wrap64 (a1_1)) (l0.length : Int)) (Int.tmod (wrap64 (a1_2)) (l0.length : Int)) t204 _ ?side1 ?side2 A36.out).mono ?_
                    (case side1 => repeat (first | exact (Kd.R_reads' HO_193000.out).2.2 | (with_reducible refine Kd.C_alloc ?_ _) | (with_reducible refine Kd.C_drewN ?_ _) | (with_reducible refine Kd.C_drew ?_)))
                    (case side2 => exact (Kd.R_reads' HO_193000.out).2.1)
                    rintro e w73 ⟨rfl, hb⟩
                    refine ⟨_, rfl, ?_⟩
                    have n0_ := Aside0.mk (Kd.R_below (by (with_reducible repeat (first | apply Kd.R_alloc | apply Kd.R_drewN | apply Kd.R_drew)); exact HO_193000.out) hb)
                    have n1_ := Aside0.mk (blk_below (g := gb185) (o := .cells #[.int .u8 a1_0, .int .u8 a1_1, .int .u8 a1_2] 37 (0, 0)) (by (with_reducible repeat (first | refine blk_drewN ?_ _ | refine blk_drew ?_ | refine blk_alloc ?_ _)); exact BK185.out) hb)
                    have n2_ := Aside0.mk (blk_below (g := gb192) (o := .cells #[.slice Ao9 y189.length co9] 25 (0, 0)) (by (with_reducible repeat (first | refine blk_drewN ?_ _ | refine blk_drew ?_ | refine blk_alloc ?_ _)); exact BK192.out) hb)
                    have n3_ := Aside0.mk (below_step (by repeat (first | (with_reducible first | exact HB.out | apply below_alloc | apply pw_below_drewN | apply below_drew1 | refine below_set ?_ GE185.out | refine below_set ?_ GE192.out) | exact HB.out)) hb)
                    clear HO_193000
                    clear BK185
                    clear BK192
                    clear HB
                    have HO_193000 := n0_
                    have BK185 := n1_
                    have BK192 := n2_
                    have HB := n3_
                    clear n0_ n1_ n2_ n3_
                    (try clear hb)
                    (try clear hb2)
                    (try clear hk)
                    (try clear hi)
                    refine hK.out _ _ ((blk_cell BK192.out 0).trans rfl) (fun hHeld => ?_)
                    clear hK K
                    refine norm_ (a' := ?_) ?_ ?_
                    rotate_left
                    ·show Act.put _ (some 88) _ = _
                     simp only [Act.put, List.setIfInBounds_toArray, List.set_cons_zero, List.set_cons_succ, i64_w, i32_w]
                     rfl
                    refine one_ (i := 39) (N := some 89) #[true, true, true, true, true, true, true, true, true, true, true, true, true, true, true, true, true, true, true, true, true, true, true, true, true, true, true, true, true, true, true, true, true, true, true, true, true, true, true, true, false, false, false, false, false, false, false, false, false, false, false, false, false, false, false, false, false, false] rfl rfl (one_of HT_.out (by kernel_rfl)) (by decide) (fun K hK => ?_)
                    refine goes_ Tryd.func16 (by kernel_rfl) rfl #[.agg #[.slice Ao9 y189.length co9], .int .i64 (Int.tmod (wrap64 (a1_0)) (l0.length : Int)), .int .i64 t204] (by rfl) rfl rfl (by (try simp only [List.map_toArray, List.map_cons, List.map_nil]); first | done | rfl | (simp only [List.length_drop, List.length_take]; rfl)) ?_
                    with_reducible refine (lattice_Lat_Meet.calls kj3 _ _ y189 (Int.tmod (wrap64 (a1_0)) (l0.length : Int)) t204 t205 _ ?side1 ?side2 A37.out).mono ?_
                    (case side1 => repeat (first | exact (Kd.R_reads' HO_193000.out).2.2 | (with_reducible refine Kd.C_alloc ?_ _) | (with_reducible refine Kd.C_drewN ?_ _) | (with_reducible refine Kd.C_drew ?_)))
                    (case side2 => exact (Kd.R_reads' HO_193000.out).2.1)
                    rintro e w74 ⟨rfl, hb⟩
                    refine ⟨_, rfl, ?_⟩
                    have n0_ := Aside0.mk (Kd.R_below (by (with_reducible repeat (first | apply Kd.R_alloc | apply Kd.R_drewN | apply Kd.R_drew)); exact HO_193000.out) hb)
                    have n1_ := Aside0.mk (blk_below (g := gb185) (o := .cells #[.int .u8 a1_0, .int .u8 a1_1, .int .u8 a1_2] 37 (0, 0)) (by (with_reducible repeat (first | refine blk_drewN ?_ _ | refine blk_drew ?_ | refine blk_alloc ?_ _)); exact BK185.out) hb)
                    have n2_ := Aside0.mk (blk_below (g := gb192) (o := .cells #[.slice Ao9 y189.length co9] 25 (0, 0)) (by (with_reducible repeat (first | refine blk_drewN ?_ _ | refine blk_drew ?_ | refine blk_alloc ?_ _)); exact BK192.out) hb)
                    have n3_ := Aside0.mk (below_step (by repeat (first | (with_reducible first | exact HB.out | apply below_alloc | apply pw_below_drewN | apply below_drew1 | refine below_set ?_ GE185.out | refine below_set ?_ GE192.out) | exact HB.out)) hb)
                    clear HO_193000
                    clear BK185
                    clear BK192
                    clear HB
                    have HO_193000 := n0_
                    have BK185 := n1_
                    have BK192 := n2_
                    have HB := n3_
                    clear n0_ n1_ n2_ n3_
                    (try clear hb)
                    (try clear hb2)
                    (try clear hk)
                    (try clear hi)
                    refine hK.out _ _ ((blk_cell BK192.out 0).trans rfl) (fun hHeld => ?_)
                    clear hK K
                    refine norm_ (a' := ?_) ?_ ?_
                    rotate_left
                    ·show Act.put _ (some 89) _ = _
                     simp only [Act.put, List.setIfInBounds_toArray, List.set_cons_zero, List.set_cons_succ, i64_w, i32_w]
                     rfl
                    refine pure_ (i := 40) (N := some 90) (v := ?_) (a' := ?_) #[true, true, true, true, true, true, true, true, true, true, true, true, true, true, true, true, true, true, true, true, true, true, true, true, true, true, true, true, true, true, true, true, true, true, true, true, true, true, true, true, true, false, false, false, false, false, false, false, false, false, false, false, false, false, false, false, false, false] rfl rfl (any_of HT_.out (by kernel_rfl)) (fun _ _ _ h => h) (Or.inl ⟨by rfl, ?_⟩) ?_ ?_
                    rotate_left
                    ·intro w'
                     go_simp
                     with_reducible rfl
                    rotate_left
                    ·simp only [Act.put, List.setIfInBounds_toArray, List.set_cons_zero, List.set_cons_succ, i64_w, i32_w]
                     rfl
                    refine pure_ (i := 41) (N := some 91) (v := ?_) (a' := ?_) #[true, true, true, true, true, true, true, true, true, true, true, true, true, true, true, true, true, true, true, true, true, true, true, true, true, true, true, true, true, true, true, true, true, true, true, true, true, true, true, true, true, true, false, false, false, false, false, false, false, false, false, false, false, false, false, false, false, false] rfl rfl (any_of HT_.out (by kernel_rfl)) (fun _ _ _ h => h) (Or.inl ⟨by rfl, ?_⟩) ?_ ?_
                    rotate_left
                    ·intro w'
                     go_simp
                     with_reducible rfl
                    rotate_left
                    ·simp only [Act.put, List.setIfInBounds_toArray, List.set_cons_zero, List.set_cons_succ, i64_w, i32_w]
                     rfl
                    refine pure_ (i := 42) (N := some 92) (v := ?_) (a' := ?_) #[true, true, true, true, true, true, true, true, true, true, true, true, true, true, true, true, true, true, true, true, true, true, true, true, true, true, true, true, true, true, true, true, true, true, true, true, true, true, true, true, true, true, true, false, false, false, false, false, false, false, false, false, false, false, false, false, false, false] rfl rfl (any_of HT_.out (by kernel_rfl)) (fun _ _ _ h => h) (Or.inl ⟨by rfl, ?_⟩) ?_ ?_
                    rotate_left
                    ·intro w'
                     go_simp
                     with_reducible rfl
                    rotate_left
                    ·simp only [Act.put, List.setIfInBounds_toArray, List.set_cons_zero, List.set_cons_succ, i64_w, i32_w]
                     rfl
                    refine pure_ (i := 44) (N := some 94) (v := ?_) (a' := ?_) #[true, true, true, true, true, true, true, true, true, true, true, true, true, true, true, true, true, true, true, true, true, true, true, true, true, true, true, true, true, true, true, true, true, true, true, true, true, true, true, true, true, true, true, false, true, false, false, false, false, false, false, false, false, false, false, false, false, false] rfl rfl (any_of HT_.out (by kernel_rfl)) (fun _ _ _ h => h) (Or.inl ⟨by rfl, ?_⟩) ?_ ?_
                    rotate_left
                    ·intro w'
                     go_simp
                     with_reducible rfl
                    rotate_left
                    ·simp only [Act.put, List.setIfInBounds_toArray, List.set_cons_zero, List.set_cons_succ, i64_w, i32_w]
                     rfl
                    refine pure_ (i := 45) (N := some 95) (v := ?_) (a' := ?_) #[true, true, true, true, true, true, true, true, true, true, true, true, true, true, true, true, true, true, true, true, true, true, true, true, true, true, true, true, true, true, true, true, true, true, true, true, true, true, true, true, true, true, true, false, true, true, false, false, false, false, false, false, false, false, false, false, false, false] rfl rfl (any_of HT_.out (by kernel_rfl)) (fun _ _ _ h => h) (Or.inl ⟨by rfl, ?_⟩) ?_ ?_
                    rotate_left
                    ·intro w'
                     go_simp
                     with_reducible rfl
                    rotate_left
                    ·simp only [Act.put, List.setIfInBounds_toArray, List.set_cons_zero, List.set_cons_succ, i64_w, i32_w]
                     rfl
                    refine pure_ (i := 47) (N := some 97) (v := ?_) (a' := ?_) #[true, true, true, true, true, true, true, true, true, true, true, true, true, true, true, true, true, true, true, true, true, true, true, true, true, true, true, true, true, true, true, true, true, true, true, true, true, true, true, true, true, true, true, false, true, true, false, true, false, false, false, false, false, false, false, false, false, false] rfl rfl (any_of HT_.out (by kernel_rfl)) (fun _ _ _ h => h) (Or.inl ⟨by rfl, ?_⟩) ?_ ?_
                    rotate_left
                    ·intro w'
                     go_simp
                     with_reducible rfl
                    rotate_left
                    ·simp only [Act.put, List.setIfInBounds_toArray, List.set_cons_zero, List.set_cons_succ, i64_w, i32_w]
                     rfl
                    refine take_ (i := 43) (N := some 93) (v := ?_) (a' := ?_) #[true, true, true, true, true, true, true, true, true, true, true, true, true, true, true, true, true, true, true, true, true, true, true, true, true, true, true, true, true, true, true, true, true, true, true, true, true, true, true, true, true, true, true, true, true, true, false, true, false, false, false, false, false, false, false, false, false, false] rfl rfl (take_ofW HT_.out HW_.out (by kernel_rfl)) (fun _ _ _ h => h) (Or.inl ⟨by rfl, ?_⟩) hHeld ?_ ?_
                    rotate_left
                    ·intro w' s0
                     go_simp
                     with_reducible rfl
                    rotate_left
                    ·simp only [Act.put, List.setIfInBounds_toArray, List.set_cons_zero, List.set_cons_succ, i64_w, i32_w]
                     rfl
                    refine one_ (i := 46) (N := some 96) #[true, true, true, true, true, true, true, true, true, true, true, true, true, true, true, true, true, true, true, true, true, true, true, true, true, true, true, true, true, true, true, true, true, true, true, true, true, true, true, true, true, true, true, true, true, true, true, true, false, false, false, false, false, false, false, false, false, false] rfl rfl (one_of HT_.out (by kernel_rfl)) (by decide) (fun K hK => ?_)
                    refine goes_ Tryd.func15 (by kernel_rfl) rfl #[.agg #[.slice Ao9 y189.length co9], .int .i64 (Int.tmod (wrap64 (a1_0)) (l0.length : Int)), .int .i64 (Int.tmod (wrap64 (a1_0)) (l0.length : Int))] (by rfl) rfl rfl (by (try simp only [List.map_toArray, List.map_cons, List.map_nil]); first | done | rfl | (simp only [List.length_drop, List.length_take]; rfl)) ?_
                    with_reducible refine (lattice_Lat_Join.calls kj3 _ _ y189 (Int.tmod (wrap64 (a1_0)) (l0.length : Int)) (Int.tmod (wrap64 (a1_0)) (l0.length : Int)) t206 _ ?side1 ?side2 A39.out).mono ?_
                    (case side1 => repeat (first | exact (Kd.R_reads' HO_193000.out).2.2 | (with_reducible refine Kd.C_alloc ?_ _) | (with_reducible refine Kd.C_drewN ?_ _) | (with_reducible refine Kd.C_drew ?_)))
                    (case side2 => exact (Kd.R_reads' HO_193000.out).2.1)
                    rintro e w75 ⟨rfl, hb⟩
                    refine ⟨_, rfl, ?_⟩
                    have n0_ := Aside0.mk (Kd.R_below (by (with_reducible repeat (first | apply Kd.R_alloc | apply Kd.R_drewN | apply Kd.R_drew)); exact HO_193000.out) hb)
                    have n1_ := Aside0.mk (blk_below (g := gb185) (o := .cells #[.int .u8 a1_0, .int .u8 a1_1, .int .u8 a1_2] 37 (0, 0)) (by (with_reducible repeat (first | refine blk_drewN ?_ _ | refine blk_drew ?_ | refine blk_alloc ?_ _)); exact BK185.out) hb)
                    have n2_ := Aside0.mk (blk_below (g := gb192) (o := .cells #[.slice Ao9 y189.length co9] 25 (0, 0)) (by (with_reducible repeat (first | refine blk_drewN ?_ _ | refine blk_drew ?_ | refine blk_alloc ?_ _)); exact BK192.out) hb)
                    have n3_ := Aside0.mk (below_step (by repeat (first | (with_reducible first | exact HB.out | apply below_alloc | apply pw_below_drewN | apply below_drew1 | refine below_set ?_ GE185.out | refine below_set ?_ GE192.out) | exact HB.out)) hb)
                    clear HO_193000
                    clear BK185
                    clear BK192
                    clear HB
                    have HO_193000 := n0_
                    have BK185 := n1_
                    have BK192 := n2_
                    have HB := n3_
                    clear n0_ n1_ n2_ n3_
                    (try clear hb)
                    (try clear hb2)
                    (try clear hk)
                    (try clear hi)
                    refine hK.out _ _ ((blk_cell BK192.out 0).trans rfl) (fun hHeld => ?_)
                    clear hK K
                    refine norm_ (a' := ?_) ?_ ?_
                    rotate_left
                    ·show Act.put _ (some 96) _ = _
                     simp only [Act.put, List.setIfInBounds_toArray, List.set_cons_zero, List.set_cons_succ, i64_w, i32_w]
                     rfl
                    refine pure_ (i := 48) (N := some 98) (v := ?_) (a' := ?_) #[true, true, true, true, true, true, true, true, true, true, true, true, true, true, true, true, true, true, true, true, true, true, true, true, true, true, true, true, true, true, true, true, true, true, true, true, true, true, true, true, true, true, true, true, true, true, true, true, true, false, false, false, false, false, false, false, false, false] rfl rfl (any_of HT_.out (by kernel_rfl)) (fun _ _ _ h => h) (Or.inl ⟨by rfl, ?_⟩) ?_ ?_
                    rotate_left
                    ·intro w'
                     go_simp
                     with_reducible rfl
                    rotate_left
                    ·simp only [Act.put, List.setIfInBounds_toArray, List.set_cons_zero, List.set_cons_succ, i64_w, i32_w]
                     rfl
                    refine pure_ (i := 49) (N := some 99) (v := ?_) (a' := ?_) #[true, true, true, true, true, true, true, true, true, true, true, true, true, true, true, true, true, true, true, true, true, true, true, true, true, true, true, true, true, true, true, true, true, true, true, true, true, true, true, true, true, true, true, true, true, true, true, true, true, true, false, false, false, false, false, false, false, false] rfl rfl (any_of HT_.out (by kernel_rfl)) (fun _ _ _ h => h) (Or.inl ⟨by rfl, ?_⟩) ?_ ?_
                    rotate_left
                    ·intro w'
                     go_simp
                     with_reducible rfl
                    rotate_left
                    ·simp only [Act.put, List.setIfInBounds_toArray, List.set_cons_zero, List.set_cons_succ, i64_w, i32_w]
                     rfl
                    refine pure_ (i := 50) (N := some 100) (v := ?_) (a' := ?_) #[true, true, true, true, true, true, true, true, true, true, true, true, true, true, true, true, true, true, true, true, true, true, true, true, true, true, true, true, true, true, true, true, true, true, true, true, true, true, true, true, true, true, true, true, true, true, true, true, true, true, true, false, false, false, false, false, false, false] rfl rfl (any_of HT_.out (by kernel_rfl)) (fun _ _ _ h => h) (Or.inl ⟨by rfl, ?_⟩) ?_ ?_
                    rotate_left
                    ·intro w'
                     go_simp
                     with_reducible rfl
                    rotate_left
                    ·simp only [Act.put, List.setIfInBounds_toArray, List.set_cons_zero, List.set_cons_succ, i64_w, i32_w]
                     rfl
                    refine pure_ (i := 52) (N := some 102) (v := ?_) (a' := ?_) #[true, true, true, true, true, true, true, true, true, true, true, true, true, true, true, true, true, true, true, true, true, true, true, true, true, true, true, true, true, true, true, true, true, true, true, true, true, true, true, true, true, true, true, true, true, true, true, true, true, true, true, false, true, false, false, false, false, false] rfl rfl (any_of HT_.out (by kernel_rfl)) (fun _ _ _ h => h) (Or.inl ⟨by rfl, ?_⟩) ?_ ?_
                    rotate_left
                    ·intro w'
                     go_simp
                     with_reducible rfl
                    rotate_left
                    ·simp only [Act.put, List.setIfInBounds_toArray, List.set_cons_zero, List.set_cons_succ, i64_w, i32_w]
                     rfl
                    refine pure_ (i := 53) (N := some 103) (v := ?_) (a' := ?_) #[true, true, true, true, true, true, true, true, true, true, true, true, true, true, true, true, true, true, true, true, true, true, true, true, true, true, true, true, true, true, true, true, true, true, true, true, true, true, true, true, true, true, true, true, true, true, true, true, true, true, true, false, true, true, false, false, false, false] rfl rfl (any_of HT_.out (by kernel_rfl)) (fun _ _ _ h => h) (Or.inl ⟨by rfl, ?_⟩) ?_ ?_
                    rotate_left
                    ·intro w'
                     go_simp
                     with_reducible rfl
                    rotate_left
                    ·simp only [Act.put, List.setIfInBounds_toArray, List.set_cons_zero, List.set_cons_succ, i64_w, i32_w]
                     rfl
                    refine pure_ (i := 55) (N := some 105) (v := ?_) (a' := ?_) #[true, true, true, true, true, true, true, true, true, true, true, true, true, true, true, true, true, true, true, true, true, true, true, true, true, true, true, true, true, true, true, true, true, true, true, true, true, true, true, true, true, true, true, true, true, true, true, true, true, true, true, false, true, true, false, true, false, false] rfl rfl (any_of HT_.out (by kernel_rfl)) (fun _ _ _ h => h) (Or.inl ⟨by rfl, ?_⟩) ?_ ?_
                    rotate_left
                    ·intro w'
                     go_simp
                     with_reducible rfl
                    rotate_left
                    ·simp only [Act.put, List.setIfInBounds_toArray, List.set_cons_zero, List.set_cons_succ, i64_w, i32_w]
                     rfl
                    refine take_ (i := 51) (N := some 101) (v := ?_) (a' := ?_) #[true, true, true, true, true, true, true, true, true, true, true, true, true, true, true, true, true, true, true, true, true, true, true, true, true, true, true, true, true, true, true, true, true, true, true, true, true, true, true, true, true, true, true, true, true, true, true, true, true, true, true, true, true, true, false, true, false, false] rfl rfl (take_ofW HT_.out HW_.out (by kernel_rfl)) (fun _ _ _ h => h) (Or.inl ⟨by rfl, ?_⟩) hHeld ?_ ?_
                    rotate_left
                    ·intro w' s0
                     go_simp
                     with_reducible rfl
                    rotate_left
                    ·simp only [Act.put, List.setIfInBounds_toArray, List.set_cons_zero, List.set_cons_succ, i64_w, i32_w]
                     rfl
                    refine one_ (i := 54) (N := some 104) #[true, true, true, true, true, true, true, true, true, true, true, true, true, true, true, true, true, true, true, true, true, true, true, true, true, true, true, true, true, true, true, true, true, true, true, true, true, true, true, true, true, true, true, true, true, true, true, true, true, true, true, true, true, true, true, true, false, false] rfl rfl (one_of HT_.out (by kernel_rfl)) (by decide) (fun K hK => ?_)
                    refine goes_ Tryd.func16 (by kernel_rfl) rfl #[.agg #[.slice Ao9 y189.length co9], .int .i64 (Int.tmod (wrap64 (a1_0)) (l0.length : Int)), .int .i64 (Int.tmod (wrap64 (a1_0)) (l0.length : Int))] (by rfl) rfl rfl (by (try simp only [List.map_toArray, List.map_cons, List.map_nil]); first | done | rfl | (simp only [List.length_drop, List.length_take]; rfl)) ?_
                    with_reducible refine (lattice_Lat_Meet.calls kj3 _ _ y189 (Int.tmod (wrap64 (a1_0)) (l0.length : Int)) (Int.tmod (wrap64 (a1_0)) (l0.length : Int)) t207 _ ?side1 ?side2 A41.out).mono ?_
                    (case side1 => repeat (first | exact (Kd.R_reads' HO_193000.out).2.2 | (with_reducible refine Kd.C_alloc ?_ _) | (with_reducible refine Kd.C_drewN ?_ _) | (with_reducible refine Kd.C_drew ?_)))
                    (case side2 => exact (Kd.R_reads' HO_193000.out).2.1)
                    rintro e w76 ⟨rfl, hb⟩
                    refine ⟨_, rfl, ?_⟩
                    have n0_ := Aside0.mk (Kd.R_below (by (with_reducible repeat (first | apply Kd.R_alloc | apply Kd.R_drewN | apply Kd.R_drew)); exact HO_193000.out) hb)
                    have n1_ := Aside0.mk (blk_below (g := gb185) (o := .cells #[.int .u8 a1_0, .int .u8 a1_1, .int .u8 a1_2] 37 (0, 0)) (by (with_reducible repeat (first | refine blk_drewN ?_ _ | refine blk_drew ?_ | refine blk_alloc ?_ _)); exact BK185.out) hb)
                    have n2_ := Aside0.mk (blk_below (g := gb192) (o := .cells #[.slice Ao9 y189.length co9] 25 (0, 0)) (by (with_reducible repeat (first | refine blk_drewN ?_ _ | refine blk_drew ?_ | refine blk_alloc ?_ _)); exact BK192.out) hb)
                    have n3_ := Aside0.mk (below_step (by repeat (first | (with_reducible first | exact HB.out | apply below_alloc | apply pw_below_drewN | apply below_drew1 | refine below_set ?_ GE185.out | refine below_set ?_ GE192.out) | exact HB.out)) hb)
                    clear HO_193000
                    clear BK185
                    clear BK192
                    clear HB
                    have HO_193000 := n0_
                    have BK185 := n1_
                    have BK192 := n2_
                    have HB := n3_
                    clear n0_ n1_ n2_ n3_
                    (try clear hb)
                    (try clear hb2)
                    (try clear hk)
                    (try clear hi)
                    refine hK.out _ _ ((blk_cell BK192.out 0).trans rfl) (fun hHeld => ?_)
                    clear hK K
                    refine norm_ (a' := ?_) ?_ ?_
                    rotate_left
                    ·show Act.put _ (some 104) _ = _
                     simp only [Act.put, List.setIfInBounds_toArray, List.set_cons_zero, List.set_cons_succ, i64_w, i32_w]
                     rfl
                    refine pure_ (i := 56) (N := some 106) (v := ?_) (a' := ?_) #[true, true, true, true, true, true, true, true, true, true, true, true, true, true, true, true, true, true, true, true, true, true, true, true, true, true, true, true, true, true, true, true, true, true, true, true, true, true, true, true, true, true, true, true, true, true, true, true, true, true, true, true, true, true, true, true, true, false] rfl rfl (any_of HT_.out (by kernel_rfl)) (fun _ _ _ h => h) (Or.inl ⟨by rfl, ?_⟩) ?_ ?_
                    rotate_left
                    ·intro w'
                     go_simp
                     with_reducible rfl
                    rotate_left
                    ·simp only [Act.put, List.setIfInBounds_toArray, List.set_cons_zero, List.set_cons_succ, i64_w, i32_w]
                     rfl
                    refine pure_ (i := 57) (N := some 107) (v := ?_) (a' := ?_) #[true, true, true, true, true, true, true, true, true, true, true, true, true, true, true, true, true, true, true, true, true, true, true, true, true, true, true, true, true, true, true, true, true, true, true, true, true, true, true, true, true, true, true, true, true, true, true, true, true, true, true, true, true, true, true, true, true, true] rfl rfl (any_of HT_.out (by kernel_rfl)) (fun _ _ _ h => h) (Or.inl ⟨by rfl, ?_⟩) ?_ ?_
                    rotate_left
                    ·intro w'
                     go_simp
                     with_reducible rfl
                    rotate_left
                    ·simp only [Act.put, List.setIfInBounds_toArray, List.set_cons_zero, List.set_cons_succ, i64_w, i32_w]
                     rfl
                    refine done_ (done_of HT_.out (by kernel_rfl)) ?_
                    try go_wp2
                    have n0_ := Aside0.mk (Kd.R_drew HO_193000.out)
                    have n1_ := Aside0.mk (blk_drew BK185.out)
                    have n2_ := Aside0.mk (blk_drew BK192.out)
                    have n3_ := Aside0.mk (below_drew1 HB.out)
                    clear HO_193000
                    clear BK185
                    clear BK192
                    clear HB
                    have HO_193000 := n0_
                    have BK185 := n1_
                    have BK192 := n2_
                    have HB := n3_
                    clear n0_ n1_ n2_ n3_
                    refine start_ (n := 64) (S := fun w' => w'.cell? ⟨gb192, 0, none⟩ = some (.slice Ao9 y189.length co9)) (ds := []) #[false, false, false, false, false, false, false, false, false, false, false, false, false, false, false, false, false, false, false, false, false, false, false, false, false, false, false, false, false, false, false, false, false, false, false, false, false, false, false, false, false, false, false, false, false, false, false, false, false, false, false, false, false, false, false, false, false, false, false, false, false, false, false, false] (by kernel_rfl) rfl rfl ((blk_cell BK192.out 0).trans rfl) (fun hHeld => ?_); refine with_tabW colloquylaw01_LatticeLaws.tab9 colloquylaw01_LatticeLaws.bits9 (fun HT_ HW_ => ?_)
                    generalize w76.drew = w77 at HO_193000 BK185 BK192 HB hHeld ⊢
                    refine pure_ (i := 1) (N := some 109) (v := ?_) (a' := ?_) #[false, true, false, false, false, false, false, false, false, false, false, false, false, false, false, false, false, false, false, false, false, false, false, false, false, false, false, false, false, false, false, false, false, false, false, false, false, false, false, false, false, false, false, false, false, false, false, false, false, false, false, false, false, false, false, false, false, false, false, false, false, false, false, false] rfl rfl (any_of HT_.out (by kernel_rfl)) (fun _ _ _ h => h) (Or.inl ⟨by rfl, ?_⟩) ?_ ?_
                    rotate_left
                    ·intro w'
                     go_simp
                     with_reducible rfl
                    rotate_left
                    ·simp only [Act.put, List.setIfInBounds_toArray, List.set_cons_zero, List.set_cons_succ, i64_w, i32_w]
                     rfl
                    refine pure_ (i := 2) (N := some 110) (v := ?_) (a' := ?_) #[false, true, true, false, false, false, false, false, false, false, false, false, false, false, false, false, false, false, false, false, false, false, false, false, false, false, false, false, false, false, false, false, false, false, false, false, false, false, false, false, false, false, false, false, false, false, false, false, false, false, false, false, false, false, false, false, false, false, false, false, false, false, false, false] rfl rfl (any_of HT_.out (by kernel_rfl)) (fun _ _ _ h => h) (Or.inl ⟨by rfl, ?_⟩) ?_ ?_
                    rotate_left
                    ·intro w'
                     go_simp
                     with_reducible rfl
                    rotate_left
                    ·simp only [Act.put, List.setIfInBounds_toArray, List.set_cons_zero, List.set_cons_succ, i64_w, i32_w]
                     rfl
                    refine pure_ (i := 4) (N := some 112) (v := ?_) (a' := ?_) #[false, true, true, false, true, false, false, false, false, false, false, false, false, false, false, false, false, false, false, false, false, false, false, false, false, false, false, false, false, false, false, false, false, false, false, false, false, false, false, false, false, false, false, false, false, false, false, false, false, false, false, false, false, false, false, false, false, false, false, false, false, false, false, false] rfl rfl (any_of HT_.out (by kernel_rfl)) (fun _ _ _ h => h) (Or.inl ⟨by rfl, ?_⟩) ?_ ?_
                    rotate_left
                    ·intro w'
                     go_simp
                     with_reducible rfl
                    rotate_left
                    ·simp only [Act.put, List.setIfInBounds_toArray, List.set_cons_zero, List.set_cons_succ, i64_w, i32_w]
                     rfl
                    refine take_ (i := 0) (N := some 108) (v := ?_) (a' := ?_) #[true, true, true, false, true, false, false, false, false, false, false, false, false, false, false, false, false, false, false, false, false, false, false, false, false, false, false, false, false, false, false, false, false, false, false, false, false, false, false, false, false, false, false, false, false, false, false, false, false, false, false, false, false, false, false, false, false, false, false, false, false, false, false, false] rfl rfl (take_ofW HT_.out HW_.out (by kernel_rfl)) (fun _ _ _ h => h) (Or.inl ⟨by rfl, ?_⟩) hHeld ?_ ?_
                    rotate_left
                    ·intro w' s0
                     go_simp
                     with_reducible rfl
                    rotate_left
                    ·simp only [Act.put, List.setIfInBounds_toArray, List.set_cons_zero, List.set_cons_succ, i64_w, i32_w]
                     rfl
                    refine one_ (i := 3) (N := some 111) #[true, true, true, true, true, false, false, false, false, false, false, false, false, false, false, false, false, false, false, false, false, false, false, false, false, false, false, false, false, false, false, false, false, false, false, false, false, false, false, false, false, false, false, false, false, false, false, false, false, false, false, false, false, false, false, false, false, false, false, false, false, false, false, false] rfl rfl (one_of HT_.out (by kernel_rfl)) (by decide) (fun K hK => ?_)
                    refine goes_ Tryd.func15 (by kernel_rfl) rfl #[.agg #[.slice Ao9 y189.length co9], .int .i64 (Int.tmod (wrap64 (a1_0)) (l0.length : Int)), .int .i64 t197] (by rfl) rfl rfl (by (try simp only [List.map_toArray, List.map_cons, List.map_nil]); first | done | rfl | (simp only [List.length_drop, List.length_take]; rfl)) ?_
                    with_reducible refine (lattice_Lat_Join.calls kj3 _ _ y189 (Int.tmod (wrap64 (a1_0)) (l0.length : Int)) t197 t208 _ ?side1 ?side2 A43.out).mono ?_
                    (case side1 => repeat (first | exact (Kd.R_reads' HO_193000.out).2.2 | (with_reducible refine Kd.C_alloc ?_ _) | (with_reducible refine Kd.C_drewN ?_ _) | (with_reducible refine Kd.C_drew ?_)))
                    (case side2 => exact (Kd.R_reads' HO_193000.out).2.1)
                    rintro e w78 ⟨rfl, hb⟩
                    refine ⟨_, rfl, ?_⟩
                    have n0_ := Aside0.mk (Kd.R_below (by (with_reducible repeat (first | apply Kd.R_alloc | apply Kd.R_drewN | apply Kd.R_drew)); exact HO_193000.out) hb)
                    have n1_ := Aside0.mk (blk_below (g := gb185) (o := .cells #[.int .u8 a1_0, .int .u8 a1_1, .int .u8 a1_2] 37 (0, 0)) (by (with_reducible repeat (first | refine blk_drewN ?_ _ | refine blk_drew ?_ | refine blk_alloc ?_ _)); exact BK185.out) hb)
                    have n2_ := Aside0.mk (blk_below (g := gb192) (o := .cells #[.slice Ao9 y189.length co9] 25 (0, 0)) (by (with_reducible repeat (first | refine blk_drewN ?_ _ | refine blk_drew ?_ | refine blk_alloc ?_ _)); exact BK192.out) hb)
                    have n3_ := Aside0.mk (below_step (by repeat (first | (with_reducible first | exact HB.out | apply below_alloc | apply pw_below_drewN | apply below_drew1 | refine below_set ?_ GE185.out | refine below_set ?_ GE192.out) | exact HB.out)) hb)
                    clear HO_193000
                    clear BK185
                    clear BK192
                    clear HB
                    have HO_193000 := n0_
                    have BK185 := n1_
                    have BK192 := n2_
                    have HB := n3_
                    clear n0_ n1_ n2_ n3_
                    (try clear hb)
                    (try clear hb2)
                    (try clear hk)
                    (try clear hi)
                    refine hK.out _ _ ((blk_cell BK192.out 0).trans rfl) (fun hHeld => ?_)
                    clear hK K
                    refine norm_ (a' := ?_) ?_ ?_
                    rotate_left
                    ·show Act.put _ (some 111) _ = _
                     simp only [Act.put, List.setIfInBounds_toArray, List.set_cons_zero, List.set_cons_succ, i64_w, i32_w]
                     rfl
                    refine pure_ (i := 5) (N := some 113) (v := ?_) (a' := ?_) #[true, true, true, true, true, true, false, false, false, false, false, false, false, false, false, false, false, false, false, false, false, false, false, false, false, false, false, false, false, false, false, false, false, false, false, false, false, false, false, false, false, false, false, false, false, false, false, false, false, false, false, false, false, false, false, false, false, false, false, false, false, false, false, false] rfl rfl (any_of HT_.out (by kernel_rfl)) (fun _ _ _ h => h) (Or.inl ⟨by rfl, ?_⟩) ?_ ?_
                    rotate_left
                    ·intro w'
                     go_simp
                     with_reducible rfl
                    rotate_left
                    ·simp only [Act.put, List.setIfInBounds_toArray, List.set_cons_zero, List.set_cons_succ, i64_w, i32_w]
                     rfl
                    refine pure_ (i := 6) (N := some 114) (v := ?_) (a' := ?_) #[true, true, true, true, true, true, true, false, false, false, false, false, false, false, false, false, false, false, false, false, false, false, false, false, false, false, false, false, false, false, false, false, false, false, false, false, false, false, false, false, false, false, false, false, false, false, false, false, false, false, false, false, false, false, false, false, false, false, false, false, false, false, false, false] rfl rfl (any_of HT_.out (by kernel_rfl)) (fun _ _ _ h => h) (Or.inl ⟨by rfl, ?_⟩) ?_ ?_
                    rotate_left
                    ·intro w'
                     go_simp
                     with_reducible rfl
                    rotate_left
                    ·simp only [Act.put, List.setIfInBounds_toArray, List.set_cons_zero, List.set_cons_succ, i64_w, i32_w]
                     rfl
                    refine pure_ (i := 8) (N := some 116) (v := ?_) (a' := ?_) #[true, true, true, true, true, true, true, false, true, false, false, false, false, false, false, false, false, false, false, false, false, false, false, false, false, false, false, false, false, false, false, false, false, false, false, false, false, false, false, false, false, false, false, false, false, false, false, false, false, false, false, false, false, false, false, false, false, false, false, false, false, false, false, false] rfl rfl (any_of HT_.out (by kernel_rfl)) (fun _ _ _ h => h) (Or.inl ⟨by rfl, ?_⟩) ?_ ?_
                    rotate_left
                    ·intro w'
                     go_simp
                     with_reducible rfl
                    rotate_left
                    ·simp only [Act.put, List.setIfInBounds_toArray, List.set_cons_zero, List.set_cons_succ, i64_w, i32_w]
                     rfl
                    refine pure_ (i := 9) (N := some 117) (v := ?_) (a' := ?_) #[true, true, true, true, true, true, true, false, true, true, false, false, false, false, false, false, false, false, false, false, false, false, false, false, false, false, false, false, false, false, false, false, false, false, false, false, false, false, false, false, false, false, false, false, false, false, false, false, false, false, false, false, false, false, false, false, false, false, false, false, false, false, false, false] rfl rfl (any_of HT_.out (by kernel_rfl)) (fun _ _ _ h => h) (Or.inl ⟨by rfl, ?_⟩) ?_ ?_
                    rotate_left
                    ·intro w'
                     go_simp
                     with_reducible rfl
                    rotate_left
                    ·simp only [Act.put, List.setIfInBounds_toArray, List.set_cons_zero, List.set_cons_succ, i64_w, i32_w]
                     rfl
                    refine pure_ (i := 11) (N := some 119) (v := ?_) (a' := ?_) #[true, true, true, true, true, true, true, false, true, true, false, true, false, false, false, false, false, false, false, false, false, false, false, false, false, false, false, false, false, false, false, false, false, false, false, false, false, false, false, false, false, false, false, false, false, false, false, false, false, false, false, false, false, false, false, false, false, false, false, false, false, false, false, false] rfl rfl (any_of HT_.out (by kernel_rfl)) (fun _ _ _ h => h) (Or.inl ⟨by rfl, ?_⟩) ?_ ?_
                    rotate_left
                    ·intro w'
                     go_simp
                     with_reducible rfl
                    rotate_left
                    ·simp only [Act.put, List.setIfInBounds_toArray, List.set_cons_zero, List.set_cons_succ, i64_w, i32_w]
                     rfl
                    refine take_ (i := 7) (N := some 115) (v := ?_) (a' := ?_) #[true, true, true, true, true, true, true, true, true, true, false, true, false, false, false, false, false, false, false, false, false, false, false, false, false, false, false, false, false, false, false, false, false, false, false, false, false, false, false, false, false, false, false, false, false, false, false, false, false, false, false, false, false, false, false, false, false, false, false, false, false, false, false, false] rfl rfl (take_ofW HT_.out HW_.out (by kernel_rfl)) (fun _ _ _ h => h) (Or.inl ⟨by rfl, ?_⟩) hHeld ?_ ?_
                    rotate_left
                    ·intro w' s0
                     go_simp
                     with_reducible rfl
                    rotate_left
                    ·simp only [Act.put, List.setIfInBounds_toArray, List.set_cons_zero, List.set_cons_succ, i64_w, i32_w]
                     rfl
                    refine one_ (i := 10) (N := some 118) #[true, true, true, true, true, true, true, true, true, true, true, true, false, false, false, false, false, false, false, false, false, false, false, false, false, false, false, false, false, false, false, false, false, false, false, false, false, false, false, false, false, false, false, false, false, false, false, false, false, false, false, false, false, false, false, false, false, false, false, false, false, false, false, false] rfl rfl (one_of HT_.out (by kernel_rfl)) (by decide) (fun K hK => ?_)
                    refine goes_ Tryd.func16 (by kernel_rfl) rfl #[.agg #[.slice Ao9 y189.length co9], .int .i64 (Int.tmod (wrap64 (a1_0)) (l0.length : Int)), .int .i64 t196] (by rfl) rfl rfl (by (try simp only [List.map_toArray, List.map_cons, List.map_nil]); first | done | rfl | (simp only [List.length_drop, List.length_take]; rfl)) ?_
                    with_reducible refine (lattice_Lat_Meet.calls kj3 _ _ y189 (Int.tmod (wrap64 (a1_0)) (l0.length : Int)) t196 t209 _ ?side1 ?side2 A45.out).mono ?_
                    (case side1 => repeat (first | exact (Kd.R_reads' HO_193000.out).2.2 | (with_reducible refine Kd.C_alloc ?_ _) | (with_reducible refine Kd.C_drewN ?_ _) | (with_reducible refine Kd.C_drew ?_)))
                    (case side2 => exact (Kd.R_reads' HO_193000.out).2.1)
                    rintro e w79 ⟨rfl, hb⟩
                    refine ⟨_, rfl, ?_⟩
                    have n0_ := Aside0.mk (Kd.R_below (by (with_reducible repeat (first | apply Kd.R_alloc | apply Kd.R_drewN | apply Kd.R_drew)); exact HO_193000.out) hb)
                    have n1_ := Aside0.mk (blk_below (g := gb185) (o := .cells #[.int .u8 a1_0, .int .u8 a1_1, .int .u8 a1_2] 37 (0, 0)) (by (with_reducible repeat (first | refine blk_drewN ?_ _ | refine blk_drew ?_ | refine blk_alloc ?_ _)); exact BK185.out) hb)
                    have n2_ := Aside0.mk (blk_below (g := gb192) (o := .cells #[.slice Ao9 y189.length co9] 25 (0, 0)) (by (with_reducible repeat (first | refine blk_drewN ?_ _ | refine blk_drew ?_ | refine blk_alloc ?_ _)); exact BK192.out) hb)
                    have n3_ := Aside0.mk (below_step (by repeat (first | (with_reducible first | exact HB.out | apply below_alloc | apply pw_below_drewN | apply below_drew1 | refine below_set ?_ GE185.out | refine below_set ?_ GE192.out) | exact HB.out)) hb)
                    clear HO_193000
                    clear BK185
                    clear BK192
                    clear HB
                    have HO_193000 := n0_
                    have BK185 := n1_
                    have BK192 := n2_
                    have HB := n3_
                    clear n0_ n1_ n2_ n3_
                    (try clear hb)
                    (try clear hb2)
                    (try clear hk)
                    (try clear hi)
                    refine hK.out _ _ ((blk_cell BK192.out 0).trans rfl) (fun hHeld => ?_)
                    clear hK K
                    refine norm_ (a' := ?_) ?_ ?_
                    rotate_left
                    ·show Act.put _ (some 118) _ = _
                     simp only [Act.put, List.setIfInBounds_toArray, List.set_cons_zero, List.set_cons_succ, i64_w, i32_w]
                     rfl
                    refine pure_ (i := 12) (N := some 120) (v := ?_) (a' := ?_) #[true, true, true, true, true, true, true, true, true, true, true, true, true, false, false, false, false, false, false, false, false, false, false, false, false, false, false, false, false, false, false, false, false, false, false, false, false, false, false, false, false, false, false, false, false, false, false, false, false, false, false, false, false, false, false, false, false, false, false, false, false, false, false, false] rfl rfl (any_of HT_.out (by kernel_rfl)) (fun _ _ _ h => h) (Or.inl ⟨by rfl, ?_⟩) ?_ ?_
                    rotate_left
                    ·intro w'
                     go_simp
                     with_reducible rfl
                    rotate_left
                    ·simp only [Act.put, List.setIfInBounds_toArray, List.set_cons_zero, List.set_cons_succ, i64_w, i32_w]
                     rfl
                    refine pure_ (i := 13) (N := some 121) (v := ?_) (a' := ?_) #[true, true, true, true, true, true, true, true, true, true, true, true, true, true, false, false, false, false, false, false, false, false, false, false, false, false, false, false, false, false, false, false, false, false, false, false, false, false, false, false, false, false, false, false, false, false, false, false, false, false, false, false, false, false, false, false, false, false, false, false, false, false, false, false] rfl rfl (any_of HT_.out (by kernel_rfl)) (fun _ _ _ h => h) (Or.inl ⟨by rfl, ?_⟩) ?_ ?_
                    rotate_left
                    ·intro w'
                     go_simp
                     with_reducible rfl
                    rotate_left
                    ·simp only [Act.put, List.setIfInBounds_toArray, List.set_cons_zero, List.set_cons_succ, i64_w, i32_w]
                     rfl
                    refine pure_ (i := 14) (N := some 122) (v := ?_) (a' := ?_) #[true, true, true, true, true, true, true, true, true, true, true, true, true, true, true, false, false, false, false, false, false, false, false, false, false, false, false, false, false, false, false, false, false, false, false, false, false, false, false, false, false, false, false, false, false, false, false, false, false, false, false, false, false, false, false, false, false, false, false, false, false, false, false, false] rfl rfl (any_of HT_.out (by kernel_rfl)) (fun _ _ _ h => h) (Or.inl ⟨by rfl, ?_⟩) ?_ ?_
                    rotate_left
                    ·intro w'
                     go_simp
                     with_reducible rfl
                    rotate_left
                    ·simp only [Act.put, List.setIfInBounds_toArray, List.set_cons_zero, List.set_cons_succ, i64_w, i32_w]
                     rfl
                    refine pure_ (i := 16) (N := some 124) (v := ?_) (a' := ?_) #[true, true, true, true, true, true, true, true, true, true, true, true, true, true, true, false, true, false, false, false, false, false, false, false, false, false, false, false, false, false, false, false, false, false, false, false, false, false, false, false, false, false, false, false, false, false, false, false, false, false, false, false, false, false, false, false, false, false, false, false, false, false, false, false] rfl rfl (any_of HT_.out (by kernel_rfl)) (fun _ _ _ h => h) (Or.inl ⟨by rfl, ?_⟩) ?_ ?_
                    rotate_left
                    ·intro w'
                     go_simp
                     with_reducible rfl
                    rotate_left
                    ·simp only [Act.put, List.setIfInBounds_toArray, List.set_cons_zero, List.set_cons_succ, i64_w, i32_w]
                     rfl
                    refine pure_ (i := 17) (N := some 125) (v := ?_) (a' := ?_) #[true, true, true, true, true, true, true, true, true, true, true, true, true, true, true, false, true, true, false, false, false, false, false, false, false, false, false, false, false, false, false, false, false, false, false, false, false, false, false, false, false, false, false, false, false, false, false, false, false, false, false, false, false, false, false, false, false, false, false, false, false, false, false, false] rfl rfl (any_of HT_.out (by kernel_rfl)) (fun _ _ _ h => h) (Or.inl ⟨by rfl, ?_⟩) ?_ ?_
                    rotate_left
                    ·intro w'
                     go_simp
                     with_reducible rfl
                    rotate_left
                    ·simp only [Act.put, List.setIfInBounds_toArray, List.set_cons_zero, List.set_cons_succ, i64_w, i32_w]
                     rfl
                    refine pure_ (i := 19) (N := some 127) (v := ?_) (a' := ?_) #[true, true, true, true, true, true, true, true, true, true, true, true, true, true, true, false, true, true, false, true, false, false, false, false, false, false, false, false, false, false, false, false, false, false, false, false, false, false, false, false, false, false, false, false, false, false, false, false, false, false, false, false, false, false, false, false, false, false, false, false, false, false, false, false] rfl rfl (any_of HT_.out (by kernel_rfl)) (fun _ _ _ h => h) (Or.inl ⟨by rfl, ?_⟩) ?_ ?_
                    rotate_left
                    ·intro w'
                     go_simp
                     with_reducible rfl
                    rotate_left
                    ·simp only [Act.put, List.setIfInBounds_toArray, List.set_cons_zero, List.set_cons_succ, i64_w, i32_w]
                     rfl
                    refine pure_ (i := 20) (N := some 128) (v := ?_) (a' := ?_) #[true, true, true, true, true, true, true, true, true, true, true, true, true, true, true, false, true, true, false, true, true, false, false, false, false, false, false, false, false, false, false, false, false, false, false, false, false, false, false, false, false, false, false, false, false, false, false, false, false, false, false, false, false, false, false, false, false, false, false, false, false, false, false, false] rfl rfl (any_of HT_.out (by kernel_rfl)) (fun _ _ _ h => h) (Or.inl ⟨by rfl, ?_⟩) ?_ ?_
                    rotate_left
                    ·intro w'
                     go_simp
                     with_reducible rfl
                    rotate_left
                    ·simp only [Act.put, List.setIfInBounds_toArray, List.set_cons_zero, List.set_cons_succ, i64_w, i32_w]
                     rfl
                    refine pure_ (i := 21) (N := some 129) (v := ?_) (a' := ?_) #[true, true, true, true, true, true, true, true, true, true, true, true, true, true, true, false, true, true, false, true, true, true, false, false, false, false, false, false, false, false, false, false, false, false, false, false, false, false, false, false, false, false, false, false, false, false, false, false, false, false, false, false, false, false, false, false, false, false, false, false, false, false, false, false] rfl rfl (any_of HT_.out (by kernel_rfl)) (fun _ _ _ h => h) (Or.inl ⟨by rfl, ?_⟩) ?_ ?_
                    rotate_left
                    ·intro w'
                     go_simp
                     with_reducible rfl
                    rotate_left
                    ·simp only [Act.put, List.setIfInBounds_toArray, List.set_cons_zero, List.set_cons_succ, i64_w, i32_w]
                     rfl
                    refine take_ (i := 15) (N := some 123) (v := ?_) (a' := ?_) #[true, true, true, true, true, true, true, true, true, true, true, true, true, true, true, true, true, true, false, true, true, true, false, false, false, false, false, false, false, false, false, false, false, false, false, false, false, false, false, false, false, false, false, false, false, false, false, false, false, false, false, false, false, false, false, false, false, false, false, false, false, false, false, false] rfl rfl (take_ofW HT_.out HW_.out (by kernel_rfl)) (fun _ _ _ h => h) (Or.inl ⟨by rfl, ?_⟩) hHeld ?_ ?_
                    rotate_left
                    ·intro w' s0
                     go_simp
                     with_reducible rfl
                    rotate_left
                    ·simp only [Act.put, List.setIfInBounds_toArray, List.set_cons_zero, List.set_cons_succ, i64_w, i32_w]
                     rfl
                    refine one_ (i := 18) (N := some 126) #[true, true, true, true, true, true, true, true, true, true, true, true, true, true, true, true, true, true, true, true, true, true, false, false, false, false, false, false, false, false, false, false, false, false, false, false, false, false, false, false, false, false, false, false, false, false, false, false, false, false, false, false, false, false, false, false, false, false, false, false, false, false, false, false] rfl rfl (one_of HT_.out (by kernel_rfl)) (by decide) (fun K hK => ?_)
                    refine goes_ Tryd.func12 (by kernel_rfl) rfl #[.agg #[.slice Ao9 y189.length co9], .int .i64 (Int.tmod (wrap64 (a1_0)) (l0.length : Int)), .int .i64 (Int.tmod (wrap64 (a1_1)) (l0.length : Int))] (by rfl) rfl rfl (by (try simp only [List.map_toArray, List.map_cons, List.map_nil]); first | done | rfl | (simp only [List.length_drop, List.length_take]; rfl)) ?_
                    with_reducible refine (lattice_Lat_Leq.calls kj3 _ _ y189 (Int.tmod (wrap64 (a1_0)) (l0.length : Int)) (Int.tmod (wrap64 (a1_1)) (l0.length : Int)) t210 _ ?side1 ?side2 A47.out).mono ?_
                    (case side1 => repeat (first | exact (Kd.R_reads' HO_193000.out).2.2 | (with_reducible refine Kd.C_alloc ?_ _) | (with_reducible refine Kd.C_drewN ?_ _) | (with_reducible refine Kd.C_drew ?_)))
                    (case side2 => exact (Kd.R_reads' HO_193000.out).2.1)
                    rintro e w80 ⟨rfl, hb⟩
                    refine ⟨_, rfl, ?_⟩
                    have n0_ := Aside0.mk (Kd.R_below (by (with_reducible repeat (first | apply Kd.R_alloc | apply Kd.R_drewN | apply Kd.R_drew)); exact HO_193000.out) hb)
                    have n1_ := Aside0.mk (blk_below (g := gb185) (o := .cells #[.int .u8 a1_0, .int .u8 a1_1, .int .u8 a1_2] 37 (0, 0)) (by (with_reducible repeat (first | refine blk_drewN ?_ _ | refine blk_drew ?_ | refine blk_alloc ?_ _)); exact BK185.out) hb)
                    have n2_ := Aside0.mk (blk_below (g := gb192) (o := .cells #[.slice Ao9 y189.length co9] 25 (0, 0)) (by (with_reducible repeat (first | refine blk_drewN ?_ _ | refine blk_drew ?_ | refine blk_alloc ?_ _)); exact BK192.out) hb)
                    have n3_ := Aside0.mk (below_step (by repeat (first | (with_reducible first | exact HB.out | apply below_alloc | apply pw_below_drewN | apply below_drew1 | refine below_set ?_ GE185.out | refine below_set ?_ GE192.out) | exact HB.out)) hb)
                    clear HO_193000
                    clear BK185
                    clear BK192
                    clear HB
                    have HO_193000 := n0_
                    have BK185 := n1_
                    have BK192 := n2_
                    have HB := n3_
                    clear n0_ n1_ n2_ n3_
                    (try clear hb)
                    (try clear hb2)
                    (try clear hk)
                    (try clear hi)
                    refine hK.out _ _ ((blk_cell BK192.out 0).trans rfl) (fun hHeld => ?_)
                    clear hK K
                    refine norm_ (a' := ?_) ?_ ?_
                    rotate_left
                    ·show Act.put _ (some 126) _ = _
                     simp only [Act.put, List.setIfInBounds_toArray, List.set_cons_zero, List.set_cons_succ, i64_w, i32_w]
                     rfl
                    refine pure_ (i := 22) (N := some 130) (v := ?_) (a' := ?_) #[true, true, true, true, true, true, true, true, true, true, true, true, true, true, true, true, true, true, true, true, true, true, true, false, false, false, false, false, false, false, false, false, false, false, false, false, false, false, false, false, false, false, false, false, false, false, false, false, false, false, false, false, false, false, false, false, false, false, false, false, false, false, false, false] rfl rfl (any_of HT_.out (by kernel_rfl)) (fun _ _ _ h => h) (Or.inl ⟨by rfl, ?_⟩) ?_ ?_
                    rotate_left
                    ·intro w'
                     go_simp
                     with_reducible rfl
                    rotate_left
                    ·simp only [Act.put, List.setIfInBounds_toArray, List.set_cons_zero, List.set_cons_succ, i64_w, i32_w]
                     rfl
                    refine pure_ (i := 23) (N := some 131) (v := ?_) (a' := ?_) #[true, true, true, true, true, true, true, true, true, true, true, true, true, true, true, true, true, true, true, true, true, true, true, true, false, false, false, false, false, false, false, false, false, false, false, false, false, false, false, false, false, false, false, false, false, false, false, false, false, false, false, false, false, false, false, false, false, false, false, false, false, false, false, false] rfl rfl (any_of HT_.out (by kernel_rfl)) (fun _ _ _ h => h) (Or.inl ⟨by rfl, ?_⟩) ?_ ?_
                    rotate_left
                    ·intro w'
                     go_simp
                     with_reducible rfl
                    rotate_left
                    ·simp only [Act.put, List.setIfInBounds_toArray, List.set_cons_zero, List.set_cons_succ, i64_w, i32_w]
                     rfl
                    refine pure_ (i := 24) (N := some 132) (v := ?_) (a' := ?_) #[true, true, true, true, true, true, true, true, true, true, true, true, true, true, true, true, true, true, true, true, true, true, true, true, true, false, false, false, false, false, false, false, false, false, false, false, false, false, false, false, false, false, false, false, false, false, false, false, false, false, false, false, false, false, false, false, false, false, false, false, false, false, false, false] rfl rfl (any_of HT_.out (by kernel_rfl)) (fun _ _ _ h => h) (Or.inl ⟨by rfl, ?_⟩) ?_ ?_
                    rotate_left
                    ·intro w'
                     go_simp
                     with_reducible rfl
                    rotate_left
                    ·simp only [Act.put, List.setIfInBounds_toArray, List.set_cons_zero, List.set_cons_succ, i64_w, i32_w]
                     rfl
                    refine pure_ (i := 26) (N := some 134) (v := ?_) (a' := ?_) #[true, true, true, true, true, true, true, true, true, true, true, true, true, true, true, true, true, true, true, true, true, true, true, true, true, false, true, false, false, false, false, false, false, false, false, false, false, false, false, false, false, false, false, false, false, false, false, false, false, false, false, false, false, false, false, false, false, false, false, false, false, false, false, false] rfl rfl (any_of HT_.out (by kernel_rfl)) (fun _ _ _ h => h) (Or.inl ⟨by rfl, ?_⟩) ?_ ?_
                    rotate_left
                    ·intro w'
                     go_simp
                     with_reducible rfl
                    rotate_left
                    ·simp only [Act.put, List.setIfInBounds_toArray, List.set_cons_zero, List.set_cons_succ, i64_w, i32_w]
                     rfl
                    refine pure_ (i := 27) (N := some 135) (v := ?_) (a' := ?_) #[true, true, true, true, true, true, true, true, true, true, true, true, true, true, true, true, true, true, true, true, true, true, true, true, true, false, true, true, false, false, false, false, false, false, false, false, false, false, false, false, false, false, false, false, false, false, false, false, false, false, false, false, false, false, false, false, false, false, false, false, false, false, false, false] rfl rfl (any_of HT_.out (by kernel_rfl)) (fun _ _ _ h => h) (Or.inl ⟨by rfl, ?_⟩) ?_ ?_
                    rotate_left
                    ·intro w'
                     go_simp
                     with_reducible rfl
                    rotate_left
                    ·simp only [Act.put, List.setIfInBounds_toArray, List.set_cons_zero, List.set_cons_succ, i64_w, i32_w]
                     rfl
                    refine pure_ (i := 29) (N := some 137) (v := ?_) (a' := ?_) #[true, true, true, true, true, true, true, true, true, true, true, true, true, true, true, true, true, true, true, true, true, true, true, true, true, false, true, true, false, true, false, false, false, false, false, false, false, false, false, false, false, false, false, false, false, false, false, false, false, false, false, false, false, false, false, false, false, false, false, false, false, false, false, false] rfl rfl (any_of HT_.out (by kernel_rfl)) (fun _ _ _ h => h) (Or.inl ⟨by rfl, ?_⟩) ?_ ?_
                    rotate_left
                    ·intro w'
                     go_simp
                     with_reducible rfl
                    rotate_left
                    ·simp only [Act.put, List.setIfInBounds_toArray, List.set_cons_zero, List.set_cons_succ, i64_w, i32_w]
                     rfl
                    refine pure_ (i := 30) (N := some 138) (v := ?_) (a' := ?_) #[true, true, true, true, true, true, true, true, true, true, true, true, true, true, true, true, true, true, true, true, true, true, true, true, true, false, true, true, false, true, true, false, false, false, false, false, false, false, false, false, false, false, false, false, false, false, false, false, false, false, false, false, false, false, false, false, false, false, false, false, false, false, false, false] rfl rfl (any_of HT_.out (by kernel_rfl)) (fun _ _ _ h => h) (Or.inl ⟨by rfl, ?_⟩) ?_ ?_
                    rotate_left
                    ·intro w'
                     go_simp
                     with_reducible rfl
                    rotate_left
                    ·simp only [Act.put, List.setIfInBounds_toArray, List.set_cons_zero, List.set_cons_succ, i64_w, i32_w]
                     rfl
                    refine pure_ (i := 31) (N := some 139) (v := ?_) (a' := ?_) #[true, true, true, true, true, true, true, true, true, true, true, true, true, true, true, true, true, true, true, true, true, true, true, true, true, false, true, true, false, true, true, true, false, false, false, false, false, false, false, false, false, false, false, false, false, false, false, false, false, false, false, false, false, false, false, false, false, false, false, false, false, false, false, false] rfl rfl (any_of HT_.out (by kernel_rfl)) (fun _ _ _ h => h) (Or.inl ⟨by rfl, ?_⟩) ?_ ?_
                    rotate_left
                    ·intro w'
                     go_simp
                     with_reducible rfl
                    rotate_left
                    ·simp only [Act.put, List.setIfInBounds_toArray, List.set_cons_zero, List.set_cons_succ, i64_w, i32_w]
                     rfl
                    refine take_ (i := 25) (N := some 133) (v := ?_) (a' := ?_) #[true, true, true, true, true, true, true, true, true, true, true, true, true, true, true, true, true, true, true, true, true, true, true, true, true, true, true, true, false, true, true, true, false, false, false, false, false, false, false, false, false, false, false, false, false, false, false, false, false, false, false, false, false, false, false, false, false, false, false, false, false, false, false, false] rfl rfl (take_ofW HT_.out HW_.out (by kernel_rfl)) (fun _ _ _ h => h) (Or.inl ⟨by rfl, ?_⟩) hHeld ?_ ?_
                    rotate_left
                    ·intro w' s0
                     go_simp
                     with_reducible rfl
                    rotate_left
                    ·simp only [Act.put, List.setIfInBounds_toArray, List.set_cons_zero, List.set_cons_succ, i64_w, i32_w]
                     rfl
                    refine one_ (i := 28) (N := some 136) #[true, true, true, true, true, true, true, true, true, true, true, true, true, true, true, true, true, true, true, true, true, true, true, true, true, true, true, true, true, true, true, true, false, false, false, false, false, false, false, false, false, false, false, false, false, false, false, false, false, false, false, false, false, false, false, false, false, false, false, false, false, false, false, false] rfl rfl (one_of HT_.out (by kernel_rfl)) (by decide) (fun K hK => ?_)
                    refine goes_ Tryd.func12 (by kernel_rfl) rfl #[.agg #[.slice Ao9 y189.length co9], .int .i64 (Int.tmod (wrap64 (a1_0)) (l0.length : Int)), .int .i64 (Int.tmod (wrap64 (a1_1)) (l0.length : Int))] (by rfl) rfl rfl (by (try simp only [List.map_toArray, List.map_cons, List.map_nil]); first | done | rfl | (simp only [List.length_drop, List.length_take]; rfl)) ?_
                    with_reducible refine (lattice_Lat_Leq.calls kj3 _ _ y189 (Int.tmod (wrap64 (a1_0)) (l0.length : Int)) (Int.tmod (wrap64 (a1_1)) (l0.length : Int)) t211 _ ?side1 ?side2 A49.out).mono ?_
                    (case side1 => repeat (first | exact (Kd.R_reads' HO_193000.out).2.2 | (with_reducible refine Kd.C_alloc ?_ _) | (with_reducible refine Kd.C_drewN ?_ _) | (with_reducible refine Kd.C_drew ?_)))
                    (case side2 => exact (Kd.R_reads' HO_193000.out).2.1)
                    rintro e w81 ⟨rfl, hb⟩
                    refine ⟨_, rfl, ?_⟩
                    have n0_ := Aside0.mk (Kd.R_below (by (with_reducible repeat (first | apply Kd.R_alloc | apply Kd.R_drewN | apply Kd.R_drew)); exact HO_193000.out) hb)
                    have n1_ := Aside0.mk (blk_below (g := gb185) (o := .cells #[.int .u8 a1_0, .int .u8 a1_1, .int .u8 a1_2] 37 (0, 0)) (by (with_reducible repeat (first | refine blk_drewN ?_ _ | refine blk_drew ?_ | refine blk_alloc ?_ _)); exact BK185.out) hb)
                    have n2_ := Aside0.mk (blk_below (g := gb192) (o := .cells #[.slice Ao9 y189.length co9] 25 (0, 0)) (by (with_reducible repeat (first | refine blk_drewN ?_ _ | refine blk_drew ?_ | refine blk_alloc ?_ _)); exact BK192.out) hb)
                    have n3_ := Aside0.mk (below_step (by repeat (first | (with_reducible first | exact HB.out | apply below_alloc | apply pw_below_drewN | apply below_drew1 | refine below_set ?_ GE185.out | refine below_set ?_ GE192.out) | exact HB.out)) hb)
                    clear HO_193000
                    clear BK185
                    clear BK192
                    clear HB
                    have HO_193000 := n0_
                    have BK185 := n1_
                    have BK192 := n2_
                    have HB := n3_
                    clear n0_ n1_ n2_ n3_
                    (try clear hb)
                    (try clear hb2)
                    (try clear hk)
                    (try clear hi)
                    refine hK.out _ _ ((blk_cell BK192.out 0).trans rfl) (fun hHeld => ?_)
                    clear hK K
                    refine norm_ (a' := ?_) ?_ ?_
                    rotate_left
                    ·show Act.put _ (some 136) _ = _
                     simp only [Act.put, List.setIfInBounds_toArray, List.set_cons_zero, List.set_cons_succ, i64_w, i32_w]
                     rfl
                    refine pure_ (i := 32) (N := some 140) (v := ?_) (a' := ?_) #[true, true, true, true, true, true, true, true, true, true, true, true, true, true, true, true, true, true, true, true, true, true, true, true, true, true, true, true, true, true, true, true, true, false, false, false, false, false, false, false, false, false, false, false, false, false, false, false, false, false, false, false, false, false, false, false, false, false, false, false, false, false, false, false] rfl rfl (any_of HT_.out (by kernel_rfl)) (fun _ _ _ h => h) (Or.inl ⟨by rfl, ?_⟩) ?_ ?_
                    rotate_left
                    ·intro w'
                     go_simp
                     with_reducible rfl
                    rotate_left
                    ·simp only [Act.put, List.setIfInBounds_toArray, List.set_cons_zero, List.set_cons_succ, i64_w, i32_w]
                     rfl
                    refine pure_ (i := 33) (N := some 141) (v := ?_) (a' := ?_) #[true, true, true, true, true, true, true, true, true, true, true, true, true, true, true, true, true, true, true, true, true, true, true, true, true, true, true, true, true, true, true, true, true, true, false, false, false, false, false, false, false, false, false, false, false, false, false, false, false, false, false, false, false, false, false, false, false, false, false, false, false, false, false, false] rfl rfl (any_of HT_.out (by kernel_rfl)) (fun _ _ _ h => h) (Or.inl ⟨by rfl, ?_⟩) ?_ ?_
                    rotate_left
                    ·intro w'
                     go_simp
                     with_reducible rfl
                    rotate_left
                    ·simp only [Act.put, List.setIfInBounds_toArray, List.set_cons_zero, List.set_cons_succ, i64_w, i32_w]
                     rfl
                    refine pure_ (i := 34) (N := some 142) (v := ?_) (a' := ?_) #[true, true, true, true, true, true, true, true, true, true, true, true, true, true, true, true, true, true, true, true, true, true, true, true, true, true, true, true, true, true, true, true, true, true, true, false, false, false, false, false, false, false, false, false, false, false, false, false, false, false, false, false, false, false, false, false, false, false, false, false, false, false, false, false] rfl rfl (any_of HT_.out (by kernel_rfl)) (fun _ _ _ h => h) (Or.inl ⟨by rfl, ?_⟩) ?_ ?_
                    rotate_left
                    ·intro w'
                     go_simp
                     with_reducible rfl
                    rotate_left
                    ·simp only [Act.put, List.setIfInBounds_toArray, List.set_cons_zero, List.set_cons_succ, i64_w, i32_w]
                     rfl
                    refine pure_ (i := 38) (N := some 146) (v := ?_) (a' := ?_) #[true, true, true, true, true, true, true, true, true, true, true, true, true, true, true, true, true, true, true, true, true, true, true, true, true, true, true, true, true, true, true, true, true, true, true, false, false, false, true, false, false, false, false, false, false, false, false, false, false, false, false, false, false, false, false, false, false, false, false, false, false, false, false, false] rfl rfl (any_of HT_.out (by kernel_rfl)) (fun _ _ _ h => h) (Or.inl ⟨by rfl, ?_⟩) ?_ ?_
                    rotate_left
                    ·intro w'
                     go_simp
                     with_reducible rfl
                    rotate_left
                    ·simp only [Act.put, List.setIfInBounds_toArray, List.set_cons_zero, List.set_cons_succ, i64_w, i32_w]
                     rfl
                    refine take_ (i := 35) (N := some 143) (v := ?_) (a' := ?_) #[true, true, true, true, true, true, true, true, true, true, true, true, true, true, true, true, true, true, true, true, true, true, true, true, true, true, true, true, true, true, true, true, true, true, true, true, false, false, true, false, false, false, false, false, false, false, false, false, false, false, false, false, false, false, false, false, false, false, false, false, false, false, false, false] rfl rfl (take_ofW HT_.out HW_.out (by kernel_rfl)) (fun _ _ _ h => h) (Or.inl ⟨by rfl, ?_⟩) hHeld ?_ ?_
                    rotate_left
                    ·intro w' s0
                     go_simp
                     with_reducible rfl
                    rotate_left
                    ·simp only [Act.put, List.setIfInBounds_toArray, List.set_cons_zero, List.set_cons_succ, i64_w, i32_w]
                     rfl
                    refine take_ (i := 36) (N := some 144) (v := ?_) (a' := ?_) #[true, true, true, true, true, true, true, true, true, true, true, true, true, true, true, true, true, true, true, true, true, true, true, true, true, true, true, true, true, true, true, true, true, true, true, true, true, false, true, false, false, false, false, false, false, false, false, false, false, false, false, false, false, false, false, false, false, false, false, false, false, false, false, false] rfl rfl (take_ofW HT_.out HW_.out (by kernel_rfl)) (fun _ _ _ h => h) (Or.inl ⟨by rfl, ?_⟩) hHeld ?_ ?_
                    rotate_left
                    ·intro w' s0
                     go_simp
                     with_reducible rfl
                    rotate_left
                    ·simp only [Act.put, List.setIfInBounds_toArray, List.set_cons_zero, List.set_cons_succ, i64_w, i32_w]
                     rfl
                    refine one_ (i := 37) (N := some 145) #[true, true, true, true, true, true, true, true, true, true, true, true, true, true, true, true, true, true, true, true, true, true, true, true, true, true, true, true, true, true, true, true, true, true, true, true, true, true, true, false, false, false, false, false, false, false, false, false, false, false, false, false, false, false, false, false, false, false, false, false, false, false, false, false] rfl rfl (one_of HT_.out (by kernel_rfl)) (by decide) (fun K hK => ?_)
                    refine goes_ Tryd.func13 (by kernel_rfl) rfl #[.agg #[.slice Ao9 y189.length co9]] (by rfl) rfl rfl (by (try simp only [List.map_toArray, List.map_cons, List.map_nil]); first | done | rfl | (simp only [List.length_drop, List.length_take]; rfl)) ?_
                    with_reducible refine (lattice_Lat_Bottom.calls kj3 _ _ y189 t212 _ ?side1 ?side2 A51.out).mono ?_
                    (case side1 => repeat (first | exact (Kd.R_reads' HO_193000.out).2.2 | (with_reducible refine Kd.C_alloc ?_ _) | (with_reducible refine Kd.C_drewN ?_ _) | (with_reducible refine Kd.C_drew ?_)))
                    (case side2 => exact (Kd.R_reads' HO_193000.out).2.1)
                    rintro e w82 ⟨rfl, hb⟩
                    refine ⟨_, rfl, ?_⟩
                    have n0_ := Aside0.mk (Kd.R_below (by (with_reducible repeat (first | apply Kd.R_alloc | apply Kd.R_drewN | apply Kd.R_drew)); exact HO_193000.out) hb)
                    have n1_ := Aside0.mk (blk_below (g := gb185) (o := .cells #[.int .u8 a1_0, .int .u8 a1_1, .int .u8 a1_2] 37 (0, 0)) (by (with_reducible repeat (first | refine blk_drewN ?_ _ | refine blk_drew ?_ | refine blk_alloc ?_ _)); exact BK185.out) hb)
                    have n2_ := Aside0.mk (blk_below (g := gb192) (o := .cells #[.slice Ao9 y189.length co9] 25 (0, 0)) (by (with_reducible repeat (first | refine blk_drewN ?_ _ | refine blk_drew ?_ | refine blk_alloc ?_ _)); exact BK192.out) hb)
                    have n3_ := Aside0.mk (below_step (by repeat (first | (with_reducible first | exact HB.out | apply below_alloc | apply pw_below_drewN | apply below_drew1 | refine below_set ?_ GE185.out | refine below_set ?_ GE192.out) | exact HB.out)) hb)
                    clear HO_193000
                    clear BK185
                    clear BK192
                    clear HB
                    have HO_193000 := n0_
                    have BK185 := n1_
                    have BK192 := n2_
                    have HB := n3_
                    clear n0_ n1_ n2_ n3_
                    (try clear hb)
                    (try clear hb2)
                    (try clear hk)
                    (try clear hi)
                    refine hK.out _ _ ((blk_cell BK192.out 0).trans rfl) (fun hHeld => ?_)
                    clear hK K
                    refine norm_ (a' := ?_) ?_ ?_
                    rotate_left
                    ·show Act.put _ (some 145) _ = _
                     simp only [Act.put, List.setIfInBounds_toArray, List.set_cons_zero, List.set_cons_succ, i64_w, i32_w]
                     rfl
                    refine one_ (i := 39) (N := some 147) #[true, true, true, true, true, true, true, true, true, true, true, true, true, true, true, true, true, true, true, true, true, true, true, true, true, true, true, true, true, true, true, true, true, true, true, true, true, true, true, true, false, false, false, false, false, false, false, false, false, false, false, false, false, false, false, false, false, false, false, false, false, false, false, false] rfl rfl (one_of HT_.out (by kernel_rfl)) (by decide) (fun K hK => ?_)
                    refine goes_ Tryd.func12 (by kernel_rfl) rfl #[.agg #[.slice Ao9 y189.length co9], .int .i64 t212, .int .i64 (Int.tmod (wrap64 (a1_0)) (l0.length : Int))] (by rfl) rfl rfl (by (try simp only [List.map_toArray, List.map_cons, List.map_nil]); first | done | rfl | (simp only [List.length_drop, List.length_take]; rfl)) ?_
                    with_reducible refine (lattice_Lat_Leq.calls kj3 _ _ y189 t212 (Int.tmod (wrap64 (a1_0)) (l0.length : Int)) true _ ?side1 ?side2 A52.out).mono ?_
                    (case side1 => repeat (first | exact (Kd.R_reads' HO_193000.out).2.2 | (with_reducible refine Kd.C_alloc ?_ _) | (with_reducible refine Kd.C_drewN ?_ _) | (with_reducible refine Kd.C_drew ?_)))
                    (case side2 => exact (Kd.R_reads' HO_193000.out).2.1)
                    rintro e w83 ⟨rfl, hb⟩
                    refine ⟨_, rfl, ?_⟩
                    have n0_ := Aside0.mk (Kd.R_below (by (with_reducible repeat (first | apply Kd.R_alloc | apply Kd.R_drewN | apply Kd.R_drew)); exact HO_193000.out) hb)
                    have n1_ := Aside0.mk (blk_below (g := gb185) (o := .cells #[.int .u8 a1_0, .int .u8 a1_1, .int .u8 a1_2] 37 (0, 0)) (by (with_reducible repeat (first | refine blk_drewN ?_ _ | refine blk_drew ?_ | refine blk_alloc ?_ _)); exact BK185.out) hb)
                    have n2_ := Aside0.mk (blk_below (g := gb192) (o := .cells #[.slice Ao9 y189.length co9] 25 (0, 0)) (by (with_reducible repeat (first | refine blk_drewN ?_ _ | refine blk_drew ?_ | refine blk_alloc ?_ _)); exact BK192.out) hb)
                    have n3_ := Aside0.mk (below_step (by repeat (first | (with_reducible first | exact HB.out | apply below_alloc | apply pw_below_drewN | apply below_drew1 | refine below_set ?_ GE185.out | refine below_set ?_ GE192.out) | exact HB.out)) hb)
                    clear HO_193000
                    clear BK185
                    clear BK192
                    clear HB
                    have HO_193000 := n0_
                    have BK185 := n1_
                    have BK192 := n2_
                    have HB := n3_
                    clear n0_ n1_ n2_ n3_
                    (try clear hb)
                    (try clear hb2)
                    (try clear hk)
                    (try clear hi)
                    refine hK.out _ _ ((blk_cell BK192.out 0).trans rfl) (fun hHeld => ?_)
                    clear hK K
                    refine norm_ (a' := ?_) ?_ ?_
                    rotate_left
                    ·show Act.put _ (some 147) _ = _
                     simp only [Act.put, List.setIfInBounds_toArray, List.set_cons_zero, List.set_cons_succ, i64_w, i32_w]
                     rfl
                    refine pure_ (i := 40) (N := some 148) (v := ?_) (a' := ?_) #[true, true, true, true, true, true, true, true, true, true, true, true, true, true, true, true, true, true, true, true, true, true, true, true, true, true, true, true, true, true, true, true, true, true, true, true, true, true, true, true, true, false, false, false, false, false, false, false, false, false, false, false, false, false, false, false, false, false, false, false, false, false, false, false] rfl rfl (any_of HT_.out (by kernel_rfl)) (fun _ _ _ h => h) (Or.inl ⟨by rfl, ?_⟩) ?_ ?_
                    rotate_left
                    ·intro w'
                     go_simp
                     with_reducible rfl
                    rotate_left
                    ·simp only [Act.put, List.setIfInBounds_toArray, List.set_cons_zero, List.set_cons_succ, i64_w, i32_w]
                     rfl
                    refine pure_ (i := 41) (N := some 149) (v := ?_) (a' := ?_) #[true, true, true, true, true, true, true, true, true, true, true, true, true, true, true, true, true, true, true, true, true, true, true, true, true, true, true, true, true, true, true, true, true, true, true, true, true, true, true, true, true, true, false, false, false, false, false, false, false, false, false, false, false, false, false, false, false, false, false, false, false, false, false, false] rfl rfl (any_of HT_.out (by kernel_rfl)) (fun _ _ _ h => h) (Or.inl ⟨by rfl, ?_⟩) ?_ ?_
                    rotate_left
                    ·intro w'
                     go_simp
                     with_reducible rfl
                    rotate_left
                    ·simp only [Act.put, List.setIfInBounds_toArray, List.set_cons_zero, List.set_cons_succ, i64_w, i32_w]
                     rfl
                    refine pure_ (i := 43) (N := some 151) (v := ?_) (a' := ?_) #[true, true, true, true, true, true, true, true, true, true, true, true, true, true, true, true, true, true, true, true, true, true, true, true, true, true, true, true, true, true, true, true, true, true, true, true, true, true, true, true, true, true, false, true, false, false, false, false, false, false, false, false, false, false, false, false, false, false, false, false, false, false, false, false] rfl rfl (any_of HT_.out (by kernel_rfl)) (fun _ _ _ h => h) (Or.inl ⟨by rfl, ?_⟩) ?_ ?_
                    rotate_left
                    ·intro w'
                     go_simp
                     with_reducible rfl
                    rotate_left
                    ·simp only [Act.put, List.setIfInBounds_toArray, List.set_cons_zero, List.set_cons_succ, i64_w, i32_w]
                     rfl
                    refine take_ (i := 42) (N := some 150) (v := ?_) (a' := ?_) #[true, true, true, true, true, true, true, true, true, true, true, true, true, true, true, true, true, true, true, true, true, true, true, true, true, true, true, true, true, true, true, true, true, true, true, true, true, true, true, true, true, true, true, true, false, false, false, false, false, false, false, false, false, false, false, false, false, false, false, false, false, false, false, false] rfl rfl (take_ofW HT_.out HW_.out (by kernel_rfl)) (fun _ _ _ h => h) (Or.inl ⟨by rfl, ?_⟩) hHeld ?_ ?_
                    rotate_left
                    ·intro w' s0
                     go_simp
                     with_reducible rfl
                    rotate_left
                    ·simp only [Act.put, List.setIfInBounds_toArray, List.set_cons_zero, List.set_cons_succ, i64_w, i32_w]
                     rfl
                    refine take_ (i := 44) (N := some 152) (v := ?_) (a' := ?_) #[true, true, true, true, true, true, true, true, true, true, true, true, true, true, true, true, true, true, true, true, true, true, true, true, true, true, true, true, true, true, true, true, true, true, true, true, true, true, true, true, true, true, true, true, true, false, false, false, false, false, false, false, false, false, false, false, false, false, false, false, false, false, false, false] rfl rfl (take_ofW HT_.out HW_.out (by kernel_rfl)) (fun _ _ _ h => h) (Or.inl ⟨by rfl, ?_⟩) hHeld ?_ ?_
                    rotate_left
                    ·intro w' s0
                     go_simp
                     with_reducible rfl
                    rotate_left
                    ·simp only [Act.put, List.setIfInBounds_toArray, List.set_cons_zero, List.set_cons_succ, i64_w, i32_w]
                     rfl
                    refine one_ (i := 45) (N := some 153) #[true, true, true, true, true, true, true, true, true, true, true, true, true, true, true, true, true, true, true, true, true, true, true, true, true, true, true, true, true, true, true, true, true, true, true, true, true, true, true, true, true, true, true, true, true, true, false, false, false, false, false, false, false, false, false, false, false, false, false, false, false, false, false, false] rfl rfl (one_of HT_.out (by kernel_rfl)) (by decide) (fun K hK => ?_)
                    refine goes_ Tryd.func14 (by kernel_rfl) rfl #[.agg #[.slice Ao9 y189.length co9]] (by rfl) rfl rfl (by (try simp only [List.map_toArray, List.map_cons, List.map_nil]); first | done | rfl | (simp only [List.length_drop, List.length_take]; rfl)) ?_
                    with_reducible refine (lattice_Lat_Top.calls kj3 _ _ y189 t214 _ ?side1 ?side2 A54.out).mono ?_
                    (case side1 => repeat (first | exact (Kd.R_reads' HO_193000.out).2.2 | (with_reducible refine Kd.C_alloc ?_ _) | (with_reducible refine Kd.C_drewN ?_ _) | (with_reducible refine Kd.C_drew ?_)))
                    (case side2 => exact (Kd.R_reads' HO_193000.out).2.1)
                    rintro e w84 ⟨rfl, hb⟩
                    refine ⟨_, rfl, ?_⟩
                    have n0_ := Aside0.mk (Kd.R_below (by (with_reducible repeat (first | apply Kd.R_alloc | apply Kd.R_drewN | apply Kd.R_drew)); exact HO_193000.out) hb)
                    have n1_ := Aside0.mk (blk_below (g := gb185) (o := .cells #[.int .u8 a1_0, .int .u8 a1_1, .int .u8 a1_2] 37 (0, 0)) (by (with_reducible repeat (first | refine blk_drewN ?_ _ | refine blk_drew ?_ | refine blk_alloc ?_ _)); exact BK185.out) hb)
                    have n2_ := Aside0.mk (blk_below (g := gb192) (o := .cells #[.slice Ao9 y189.length co9] 25 (0, 0)) (by (with_reducible repeat (first | refine blk_drewN ?_ _ | refine blk_drew ?_ | refine blk_alloc ?_ _)); exact BK192.out) hb)
                    have n3_ := Aside0.mk (below_step (by repeat (first | (with_reducible first | exact HB.out | apply below_alloc | apply pw_below_drewN | apply below_drew1 | refine below_set ?_ GE185.out | refine below_set ?_ GE192.out) | exact HB.out)) hb)
                    clear HO_193000
                    clear BK185
                    clear BK192
                    clear HB
                    have HO_193000 := n0_
                    have BK185 := n1_
                    have BK192 := n2_
                    have HB := n3_
                    clear n0_ n1_ n2_ n3_
                    (try clear hb)
                    (try clear hb2)
                    (try clear hk)
                    (try clear hi)
                    refine hK.out _ _ ((blk_cell BK192.out 0).trans rfl) (fun hHeld => ?_)
                    clear hK K
                    refine norm_ (a' := ?_) ?_ ?_
                    rotate_left
                    ·show Act.put _ (some 153) _ = _
                     simp only [Act.put, List.setIfInBounds_toArray, List.set_cons_zero, List.set_cons_succ, i64_w, i32_w]
                     rfl
                    refine one_ (i := 46) (N := some 154) #[true, true, true, true, true, true, true, true, true, true, true, true, true, true, true, true, true, true, true, true, true, true, true, true, true, true, true, true, true, true, true, true, true, true, true, true, true, true, true, true, true, true, true, true, true, true, true, false, false, false, false, false, false, false, false, false, false, false, false, false, false, false, false, false] rfl rfl (one_of HT_.out (by kernel_rfl)) (by decide) (fun K hK => ?_)
                    refine goes_ Tryd.func12 (by kernel_rfl) rfl #[.agg #[.slice Ao9 y189.length co9], .int .i64 (Int.tmod (wrap64 (a1_0)) (l0.length : Int)), .int .i64 t214] (by rfl) rfl rfl (by (try simp only [List.map_toArray, List.map_cons, List.map_nil]); first | done | rfl | (simp only [List.length_drop, List.length_take]; rfl)) ?_
                    with_reducible refine (lattice_Lat_Leq.calls kj3 _ _ y189 (Int.tmod (wrap64 (a1_0)) (l0.length : Int)) t214 true _ ?side1 ?side2 A55.out).mono ?_
                    (case side1 => repeat (first | exact (Kd.R_reads' HO_193000.out).2.2 | (with_reducible refine Kd.C_alloc ?_ _) | (with_reducible refine Kd.C_drewN ?_ _) | (with_reducible refine Kd.C_drew ?_)))
                    (case side2 => exact (Kd.R_reads' HO_193000.out).2.1)
                    rintro e w85 ⟨rfl, hb⟩
                    refine ⟨_, rfl, ?_⟩
                    have n0_ := Aside0.mk (Kd.R_below (by (with_reducible repeat (first | apply Kd.R_alloc | apply Kd.R_drewN | apply Kd.R_drew)); exact HO_193000.out) hb)
                    have n1_ := Aside0.mk (blk_below (g := gb185) (o := .cells #[.int .u8 a1_0, .int .u8 a1_1, .int .u8 a1_2] 37 (0, 0)) (by (with_reducible repeat (first | refine blk_drewN ?_ _ | refine blk_drew ?_ | refine blk_alloc ?_ _)); exact BK185.out) hb)
                    have n2_ := Aside0.mk (blk_below (g := gb192) (o := .cells #[.slice Ao9 y189.length co9] 25 (0, 0)) (by (with_reducible repeat (first | refine blk_drewN ?_ _ | refine blk_drew ?_ | refine blk_alloc ?_ _)); exact BK192.out) hb)
                    have n3_ := Aside0.mk (below_step (by repeat (first | (with_reducible first | exact HB.out | apply below_alloc | apply pw_below_drewN | apply below_drew1 | refine below_set ?_ GE185.out | refine below_set ?_ GE192.out) | exact HB.out)) hb)
                    clear HO_193000
                    clear BK185
                    clear BK192
                    clear HB
                    have HO_193000 := n0_
                    have BK185 := n1_
                    have BK192 := n2_
                    have HB := n3_
                    clear n0_ n1_ n2_ n3_
                    (try clear hb)
                    (try clear hb2)
                    (try clear hk)
                    (try clear hi)
                    refine hK.out _ _ ((blk_cell BK192.out 0).trans rfl) (fun hHeld => ?_)
                    clear hK K
                    refine norm_ (a' := ?_) ?_ ?_
                    rotate_left
                    ·show Act.put _ (some 154) _ = _
                     simp only [Act.put, List.setIfInBounds_toArray, List.set_cons_zero, List.set_cons_succ, i64_w, i32_w]
                     rfl
                    refine pure_ (i := 47) (N := some 155) (v := ?_) (a' := ?_) #[true, true, true, true, true, true, true, true, true, true, true, true, true, true, true, true, true, true, true, true, true, true, true, true, true, true, true, true, true, true, true, true, true, true, true, true, true, true, true, true, true, true, true, true, true, true, true, true, false, false, false, false, false, false, false, false, false, false, false, false, false, false, false, false] rfl rfl (any_of HT_.out (by kernel_rfl)) (fun _ _ _ h => h) (Or.inl ⟨by rfl, ?_⟩) ?_ ?_
                    rotate_left
                    ·intro w'
                     go_simp
                     with_reducible rfl
                    rotate_left
                    ·simp only [Act.put, List.setIfInBounds_toArray, List.set_cons_zero, List.set_cons_succ, i64_w, i32_w]
                     rfl
                    refine pure_ (i := 48) (N := some 156) (v := ?_) (a' := ?_) #[true, true, true, true, true, true, true, true, true, true, true, true, true, true, true, true, true, true, true, true, true, true, true, true, true, true, true, true, true, true, true, true, true, true, true, true, true, true, true, true, true, true, true, true, true, true, true, true, true, false, false, false, false, false, false, false, false, false, false, false, false, false, false, false] rfl rfl (any_of HT_.out (by kernel_rfl)) (fun _ _ _ h => h) (Or.inl ⟨by rfl, ?_⟩) ?_ ?_
                    rotate_left
                    ·intro w'
                     go_simp
                     with_reducible rfl
                    rotate_left
                    ·simp only [Act.put, List.setIfInBounds_toArray, List.set_cons_zero, List.set_cons_succ, i64_w, i32_w]
                     rfl
                    refine pure_ (i := 50) (N := some 158) (v := ?_) (a' := ?_) #[true, true, true, true, true, true, true, true, true, true, true, true, true, true, true, true, true, true, true, true, true, true, true, true, true, true, true, true, true, true, true, true, true, true, true, true, true, true, true, true, true, true, true, true, true, true, true, true, true, false, true, false, false, false, false, false, false, false, false, false, false, false, false, false] rfl rfl (any_of HT_.out (by kernel_rfl)) (fun _ _ _ h => h) (Or.inl ⟨by rfl, ?_⟩) ?_ ?_
                    rotate_left
                    ·intro w'
                     go_simp
                     with_reducible rfl
                    rotate_left
                    ·simp only [Act.put, List.setIfInBounds_toArray, List.set_cons_zero, List.set_cons_succ, i64_w, i32_w]
                     rfl
                    refine pure_ (i := 51) (N := some 159) (v := ?_) (a' := ?_) #[true, true, true, true, true, true, true, true, true, true, true, true, true, true, true, true, true, true, true, true, true, true, true, true, true, true, true, true, true, true, true, true, true, true, true, true, true, true, true, true, true, true, true, true, true, true, true, true, true, false, true, true, false, false, false, false, false, false, false, false, false, false, false, false] rfl rfl (any_of HT_.out (by kernel_rfl)) (fun _ _ _ h => h) (Or.inl ⟨by rfl, ?_⟩) ?_ ?_
                    rotate_left
                    ·intro w'
                     go_simp
                     with_reducible rfl
                    rotate_left
                    ·simp only [Act.put, List.setIfInBounds_toArray, List.set_cons_zero, List.set_cons_succ, i64_w, i32_w]
                     rfl
                    refine take_ (i := 49) (N := some 157) (v := ?_) (a' := ?_) #[true, true, true, true, true, true, true, true, true, true, true, true, true, true, true, true, true, true, true, true, true, true, true, true, true, true, true, true, true, true, true, true, true, true, true, true, true, true, true, true, true, true, true, true, true, true, true, true, true, true, true, true, false, false, false, false, false, false, false, false, false, false, false, false] rfl rfl (take_ofW HT_.out HW_.out (by kernel_rfl)) (fun _ _ _ h => h) (Or.inl ⟨by rfl, ?_⟩) hHeld ?_ ?_
                    rotate_left
                    ·intro w' s0
                     go_simp
                     with_reducible rfl
                    rotate_left
                    ·simp only [Act.put, List.setIfInBounds_toArray, List.set_cons_zero, List.set_cons_succ, i64_w, i32_w]
                     rfl
                    refine one_ (i := 52) (N := some 160) #[true, true, true, true, true, true, true, true, true, true, true, true, true, true, true, true, true, true, true, true, true, true, true, true, true, true, true, true, true, true, true, true, true, true, true, true, true, true, true, true, true, true, true, true, true, true, true, true, true, true, true, true, true, false, false, false, false, false, false, false, false, false, false, false] rfl rfl (one_of HT_.out (by kernel_rfl)) (by decide) (fun K hK => ?_)
                    refine goes_ Tryd.func12 (by kernel_rfl) rfl #[.agg #[.slice Ao9 y189.length co9], .int .i64 (Int.tmod (wrap64 (a1_0)) (l0.length : Int)), .int .i64 t196] (by rfl) rfl rfl (by (try simp only [List.map_toArray, List.map_cons, List.map_nil]); first | done | rfl | (simp only [List.length_drop, List.length_take]; rfl)) ?_
                    with_reducible refine (lattice_Lat_Leq.calls kj3 _ _ y189 (Int.tmod (wrap64 (a1_0)) (l0.length : Int)) t196 true _ ?side1 ?side2 A57.out).mono ?_
                    (case side1 => repeat (first | exact (Kd.R_reads' HO_193000.out).2.2 | (with_reducible refine Kd.C_alloc ?_ _) | (with_reducible refine Kd.C_drewN ?_ _) | (with_reducible refine Kd.C_drew ?_)))
                    (case side2 => exact (Kd.R_reads' HO_193000.out).2.1)
                    rintro e w86 ⟨rfl, hb⟩
                    refine ⟨_, rfl, ?_⟩
                    have n0_ := Aside0.mk (Kd.R_below (by (with_reducible repeat (first | apply Kd.R_alloc | apply Kd.R_drewN | apply Kd.R_drew)); exact HO_193000.out) hb)
                    have n1_ := Aside0.mk (blk_below (g := gb185) (o := .cells #[.int .u8 a1_0, .int .u8 a1_1, .int .u8 a1_2] 37 (0, 0)) (by (with_reducible repeat (first | refine blk_drewN ?_ _ | refine blk_drew ?_ | refine blk_alloc ?_ _)); exact BK185.out) hb)
                    have n2_ := Aside0.mk (blk_below (g := gb192) (o := .cells #[.slice Ao9 y189.length co9] 25 (0, 0)) (by (with_reducible repeat (first | refine blk_drewN ?_ _ | refine blk_drew ?_ | refine blk_alloc ?_ _)); exact BK192.out) hb)
                    have n3_ := Aside0.mk (below_step (by repeat (first | (with_reducible first | exact HB.out | apply below_alloc | apply pw_below_drewN | apply below_drew1 | refine below_set ?_ GE185.out | refine below_set ?_ GE192.out) | exact HB.out)) hb)
                    clear HO_193000
                    clear BK185
                    clear BK192
                    clear HB
                    have HO_193000 := n0_
                    have BK185 := n1_
                    have BK192 := n2_
                    have HB := n3_
                    clear n0_ n1_ n2_ n3_
                    (try clear hb)
                    (try clear hb2)
                    (try clear hk)
                    (try clear hi)
                    refine hK.out _ _ ((blk_cell BK192.out 0).trans rfl) (fun hHeld => ?_)
                    clear hK K
                    refine norm_ (a' := ?_) ?_ ?_
                    rotate_left
                    ·show Act.put _ (some 160) _ = _
                     simp only [Act.put, List.setIfInBounds_toArray, List.set_cons_zero, List.set_cons_succ, i64_w, i32_w]
                     rfl
                    refine pure_ (i := 53) (N := some 161) (v := ?_) (a' := ?_) #[true, true, true, true, true, true, true, true, true, true, true, true, true, true, true, true, true, true, true, true, true, true, true, true, true, true, true, true, true, true, true, true, true, true, true, true, true, true, true, true, true, true, true, true, true, true, true, true, true, true, true, true, true, true, false, false, false, false, false, false, false, false, false, false] rfl rfl (any_of HT_.out (by kernel_rfl)) (fun _ _ _ h => h) (Or.inl ⟨by rfl, ?_⟩) ?_ ?_
                    rotate_left
                    ·intro w'
                     go_simp
                     with_reducible rfl
                    rotate_left
                    ·simp only [Act.put, List.setIfInBounds_toArray, List.set_cons_zero, List.set_cons_succ, i64_w, i32_w]
                     rfl
                    refine pure_ (i := 54) (N := some 162) (v := ?_) (a' := ?_) #[true, true, true, true, true, true, true, true, true, true, true, true, true, true, true, true, true, true, true, true, true, true, true, true, true, true, true, true, true, true, true, true, true, true, true, true, true, true, true, true, true, true, true, true, true, true, true, true, true, true, true, true, true, true, true, false, false, false, false, false, false, false, false, false] rfl rfl (any_of HT_.out (by kernel_rfl)) (fun _ _ _ h => h) (Or.inl ⟨by rfl, ?_⟩) ?_ ?_
                    rotate_left
                    ·intro w'
                     go_simp
                     with_reducible rfl
                    rotate_left
                    ·simp only [Act.put, List.setIfInBounds_toArray, List.set_cons_zero, List.set_cons_succ, i64_w, i32_w]
                     rfl
                    refine pure_ (i := 56) (N := some 164) (v := ?_) (a' := ?_) #[true, true, true, true, true, true, true, true, true, true, true, true, true, true, true, true, true, true, true, true, true, true, true, true, true, true, true, true, true, true, true, true, true, true, true, true, true, true, true, true, true, true, true, true, true, true, true, true, true, true, true, true, true, true, true, false, true, false, false, false, false, false, false, false] rfl rfl (any_of HT_.out (by kernel_rfl)) (fun _ _ _ h => h) (Or.inl ⟨by rfl, ?_⟩) ?_ ?_
                    rotate_left
                    ·intro w'
                     go_simp
                     with_reducible rfl
                    rotate_left
                    ·simp only [Act.put, List.setIfInBounds_toArray, List.set_cons_zero, List.set_cons_succ, i64_w, i32_w]
                     rfl
                    refine pure_ (i := 57) (N := some 165) (v := ?_) (a' := ?_) #[true, true, true, true, true, true, true, true, true, true, true, true, true, true, true, true, true, true, true, true, true, true, true, true, true, true, true, true, true, true, true, true, true, true, true, true, true, true, true, true, true, true, true, true, true, true, true, true, true, true, true, true, true, true, true, false, true, true, false, false, false, false, false, false] rfl rfl (any_of HT_.out (by kernel_rfl)) (fun _ _ _ h => h) (Or.inl ⟨by rfl, ?_⟩) ?_ ?_
                    rotate_left
                    ·intro w'
                     go_simp
                     with_reducible rfl
                    rotate_left
                    ·simp only [Act.put, List.setIfInBounds_toArray, List.set_cons_zero, List.set_cons_succ, i64_w, i32_w]
                     rfl
                    refine take_ (i := 55) (N := some 163) (v := ?_) (a' := ?_) #[true, true, true, true, true, true, true, true, true, true, true, true, true, true, true, true, true, true, true, true, true, true, true, true, true, true, true, true, true, true, true, true, true, true, true, true, true, true, true, true, true, true, true, true, true, true, true, true, true, true, true, true, true, true, true, true, true, true, false, false, false, false, false, false] rfl rfl (take_ofW HT_.out HW_.out (by kernel_rfl)) (fun _ _ _ h => h) (Or.inl ⟨by rfl, ?_⟩) hHeld ?_ ?_
                    rotate_left
                    ·intro w' s0
                     go_simp
                     with_reducible rfl
                    rotate_left
                    ·simp only [Act.put, List.setIfInBounds_toArray, List.set_cons_zero, List.set_cons_succ, i64_w, i32_w]
                     rfl
                    refine one_ (i := 58) (N := some 166) #[true, true, true, true, true, true, true, true, true, true, true, true, true, true, true, true, true, true, true, true, true, true, true, true, true, true, true, true, true, true, true, true, true, true, true, true, true, true, true, true, true, true, true, true, true, true, true, true, true, true, true, true, true, true, true, true, true, true, true, false, false, false, false, false] rfl rfl (one_of HT_.out (by kernel_rfl)) (by decide) (fun K hK => ?_)
                    refine goes_ Tryd.func12 (by kernel_rfl) rfl #[.agg #[.slice Ao9 y189.length co9], .int .i64 t197, .int .i64 (Int.tmod (wrap64 (a1_1)) (l0.length : Int))] (by rfl) rfl rfl (by (try simp only [List.map_toArray, List.map_cons, List.map_nil]); first | done | rfl | (simp only [List.length_drop, List.length_take]; rfl)) ?_
                    with_reducible refine (lattice_Lat_Leq.calls kj3 _ _ y189 t197 (Int.tmod (wrap64 (a1_1)) (l0.length : Int)) true _ ?side1 ?side2 A59.out).mono ?_
                    (case side1 => repeat (first | exact (Kd.R_reads' HO_193000.out).2.2 | (with_reducible refine Kd.C_alloc ?_ _) | (with_reducible refine Kd.C_drewN ?_ _) | (with_reducible refine Kd.C_drew ?_)))
                    (case side2 => exact (Kd.R_reads' HO_193000.out).2.1)
                    rintro e w87 ⟨rfl, hb⟩
                    refine ⟨_, rfl, ?_⟩
                    have n0_ := Aside0.mk (Kd.R_below (by (with_reducible repeat (first | apply Kd.R_alloc | apply Kd.R_drewN | apply Kd.R_drew)); exact HO_193000.out) hb)
                    have n1_ := Aside0.mk (blk_below (g := gb185) (o := .cells #[.int .u8 a1_0, .int .u8 a1_1, .int .u8 a1_2] 37 (0, 0)) (by (with_reducible repeat (first | refine blk_drewN ?_ _ | refine blk_drew ?_ | refine blk_alloc ?_ _)); exact BK185.out) hb)
                    have n2_ := Aside0.mk (blk_below (g := gb192) (o := .cells #[.slice Ao9 y189.length co9] 25 (0, 0)) (by (with_reducible repeat (first | refine blk_drewN ?_ _ | refine blk_drew ?_ | refine blk_alloc ?_ _)); exact BK192.out) hb)
                    have n3_ := Aside0.mk (below_step (by repeat (first | (with_reducible first | exact HB.out | apply below_alloc | apply pw_below_drewN | apply below_drew1 | refine below_set ?_ GE185.out | refine below_set ?_ GE192.out) | exact HB.out)) hb)
                    clear HO_193000
                    clear BK185
                    clear BK192
                    clear HB
                    have HO_193000 := n0_
                    have BK185 := n1_
                    have BK192 := n2_
                    have HB := n3_
                    clear n0_ n1_ n2_ n3_
                    (try clear hb)
                    (try clear hb2)
                    (try clear hk)
                    (try clear hi)
                    refine hK.out _ _ ((blk_cell BK192.out 0).trans rfl) (fun hHeld => ?_)
                    clear hK K
                    refine norm_ (a' := ?_) ?_ ?_
                    rotate_left
                    ·show Act.put _ (some 166) _ = _
                     simp only [Act.put, List.setIfInBounds_toArray, List.set_cons_zero, List.set_cons_succ, i64_w, i32_w]
                     rfl
                    refine pure_ (i := 59) (N := some 167) (v := ?_) (a' := ?_) #[true, true, true, true, true, true, true, true, true, true, true, true, true, true, true, true, true, true, true, true, true, true, true, true, true, true, true, true, true, true, true, true, true, true, true, true, true, true, true, true, true, true, true, true, true, true, true, true, true, true, true, true, true, true, true, true, true, true, true, true, false, false, false, false] rfl rfl (any_of HT_.out (by kernel_rfl)) (fun _ _ _ h => h) (Or.inl ⟨by rfl, ?_⟩) ?_ ?_
                    rotate_left
                    ·intro w'
                     go_simp
                     with_reducible rfl
                    rotate_left
                    ·simp only [Act.put, List.setIfInBounds_toArray, List.set_cons_zero, List.set_cons_succ, i64_w, i32_w]
                     rfl
                    refine pure_ (i := 60) (N := some 168) (v := ?_) (a' := ?_) #[true, true, true, true, true, true, true, true, true, true, true, true, true, true, true, true, true, true, true, true, true, true, true, true, true, true, true, true, true, true, true, true, true, true, true, true, true, true, true, true, true, true, true, true, true, true, true, true, true, true, true, true, true, true, true, true, true, true, true, true, true, false, false, false] rfl rfl (any_of HT_.out (by kernel_rfl)) (fun _ _ _ h => h) (Or.inl ⟨by rfl, ?_⟩) ?_ ?_
                    rotate_left
                    ·intro w'
                     go_simp
                     with_reducible rfl
                    rotate_left
                    ·simp only [Act.put, List.setIfInBounds_toArray, List.set_cons_zero, List.set_cons_succ, i64_w, i32_w]
                     rfl
                    refine one_ (i := 61) (N := some 169) #[true, true, true, true, true, true, true, true, true, true, true, true, true, true, true, true, true, true, true, true, true, true, true, true, true, true, true, true, true, true, true, true, true, true, true, true, true, true, true, true, true, true, true, true, true, true, true, true, true, true, true, true, true, true, true, true, true, true, true, true, true, true, false, false] rfl rfl (one_of HT_.out (by kernel_rfl)) (by decide) (fun K hK => ?_)
                    refine goes_ Tryd.func10 (by kernel_rfl) rfl #[] (by rfl) rfl rfl (by (try simp only [List.map_toArray, List.map_cons, List.map_nil]); first | done | rfl | (simp only [List.length_drop, List.length_take]; rfl)) ?_
                    with_reducible refine (colloquylaw01_sure.calls kj3  t218 _ ?side1 A61.out).mono ?_
                    (case side1 => exact HG.out.below (by repeat (first | (with_reducible first | exact HB.out | apply below_alloc | apply pw_below_drewN | apply below_drew1 | refine below_set ?_ GE185.out | refine below_set ?_ GE192.out) | exact HB.out)))
                    rintro e w88 ⟨rfl, hb⟩
                    refine ⟨_, rfl, ?_⟩
                    have n0_ := Aside0.mk (Kd.R_below (by (with_reducible repeat (first | apply Kd.R_alloc | apply Kd.R_drewN | apply Kd.R_drew)); exact HO_193000.out) hb)
                    have n1_ := Aside0.mk (blk_below (g := gb185) (o := .cells #[.int .u8 a1_0, .int .u8 a1_1, .int .u8 a1_2] 37 (0, 0)) (by (with_reducible repeat (first | refine blk_drewN ?_ _ | refine blk_drew ?_ | refine blk_alloc ?_ _)); exact BK185.out) hb)
                    have n2_ := Aside0.mk (blk_below (g := gb192) (o := .cells #[.slice Ao9 y189.length co9] 25 (0, 0)) (by (with_reducible repeat (first | refine blk_drewN ?_ _ | refine blk_drew ?_ | refine blk_alloc ?_ _)); exact BK192.out) hb)
                    have n3_ := Aside0.mk (below_step (by repeat (first | (with_reducible first | exact HB.out | apply below_alloc | apply pw_below_drewN | apply below_drew1 | refine below_set ?_ GE185.out | refine below_set ?_ GE192.out) | exact HB.out)) hb)
                    clear HO_193000
                    clear BK185
                    clear BK192
                    clear HB
                    have HO_193000 := n0_
                    have BK185 := n1_
                    have BK192 := n2_
                    have HB := n3_
                    clear n0_ n1_ n2_ n3_
                    (try clear hb)
                    (try clear hb2)
                    (try clear hk)
                    (try clear hi)
                    refine hK.out _ _ ((blk_cell BK192.out 0).trans rfl) (fun hHeld => ?_)
                    clear hK K
                    refine norm_ (a' := ?_) ?_ ?_
                    rotate_left
                    ·show Act.put _ (some 169) _ = _
                     simp only [Act.put, List.setIfInBounds_toArray, List.set_cons_zero, List.set_cons_succ, i64_w, i32_w]
                     rfl
                    refine pure_ (i := 62) (N := some 170) (v := ?_) (a' := ?_) #[true, true, true, true, true, true, true, true, true, true, true, true, true, true, true, true, true, true, true, true, true, true, true, true, true, true, true, true, true, true, true, true, true, true, true, true, true, true, true, true, true, true, true, true, true, true, true, true, true, true, true, true, true, true, true, true, true, true, true, true, true, true, true, false] rfl rfl (any_of HT_.out (by kernel_rfl)) (fun _ _ _ h => h) (Or.inl ⟨by rfl, ?_⟩) ?_ ?_
                    rotate_left
                    ·intro w'
                     go_simp
                     with_reducible rfl
                    rotate_left
                    ·simp only [Act.put, List.setIfInBounds_toArray, List.set_cons_zero, List.set_cons_succ, i64_w, i32_w]
                     rfl
                    refine pure_ (i := 63) (N := some 4) (v := ?_) (a' := ?_) #[true, true, true, true, true, true, true, true, true, true, true, true, true, true, true, true, true, true, true, true, true, true, true, true, true, true, true, true, true, true, true, true, true, true, true, true, true, true, true, true, true, true, true, true, true, true, true, true, true, true, true, true, true, true, true, true, true, true, true, true, true, true, true, true] rfl rfl (any_of HT_.out (by kernel_rfl)) (fun _ _ _ h => h) (Or.inl ⟨by rfl, ?_⟩) ?_ ?_
                    rotate_left
                    ·intro w'
                     go_simp
                     with_reducible rfl
                    rotate_left
                    ·simp only [Act.put, List.setIfInBounds_toArray, List.set_cons_zero, List.set_cons_succ, i64_w, i32_w]
                     rfl
                    refine done_ (done_of HT_.out (by kernel_rfl)) ?_
                    try go_wp2
                    go_ret
                    exact ⟨by first | rfl | (simp [errW_none, errW_some] <;> rfl) | (simp [*, errW_none, errW_some] <;> rfl), by repeat (first | (with_reducible first | exact HB.out | apply below_alloc | apply pw_below_drewN | apply below_drew1 | refine below_set ?_ GE185.out | refine below_set ?_ GE192.out) | exact HB.out)⟩
                   ·replace c60 := Bool.eq_false_iff.mpr c60
                    subst c60
                    have H1 : (none) = some r := by rw [if_neg (show ¬ (false = true) by decide)] at H; exact H
                    clear H
                    have H := H1
                    clear H1
                    exact absurd H (by simp)
                  ·replace c58 := Bool.eq_false_iff.mpr c58
                   subst c58
                   have H1 : (none) = some r := by rw [if_neg (show ¬ (false = true) by decide)] at H; exact H
                   clear H
                   have H := H1
                   clear H1
                   exact absurd H (by simp)
                 ·replace c56 := Bool.eq_false_iff.mpr c56
                  subst c56
                  have H1 : (none) = some r := by rw [if_neg (show ¬ (false = true) by decide)] at H; exact H
                  clear H
                  have H := H1
                  clear H1
                  exact absurd H (by simp)
                ·replace c53 := Bool.eq_false_iff.mpr c53
                 subst c53
                 have H1 : (none) = some r := by rw [if_neg (show ¬ (false = true) by decide)] at H; exact H
                 clear H
                 have H := H1
                 clear H1
                 exact absurd H (by simp)
               ·rw [if_neg c50] at H
                have c50b0 : (t211 == (t197 == (Int.tmod (wrap64 (a1_0)) (l0.length : Int)))) = false := by simpa using c50
                (try (have c50b1 : decide (t211 = (t197 == (Int.tmod (wrap64 (a1_0)) (l0.length : Int)))) = false := by simpa using c50))
                (try (have c50b2 : (t211 == (t197 == (Int.tmod (wrap64 (a1_0)) (l0.length : Int)))) = false := by simpa using c50))
                (try (have c50b3 : ¬ (t211 = (t197 == (Int.tmod (wrap64 (a1_0)) (l0.length : Int)))) := by simpa using c50))
                clear c50
                exact absurd H (by simp)
              ·rw [if_neg c48] at H
               have c48b0 : (t210 == (t196 == (Int.tmod (wrap64 (a1_1)) (l0.length : Int)))) = false := by simpa using c48
               (try (have c48b1 : decide (t210 = (t196 == (Int.tmod (wrap64 (a1_1)) (l0.length : Int)))) = false := by simpa using c48))
               (try (have c48b2 : (t210 == (t196 == (Int.tmod (wrap64 (a1_1)) (l0.length : Int)))) = false := by simpa using c48))
               (try (have c48b3 : ¬ (t210 = (t196 == (Int.tmod (wrap64 (a1_1)) (l0.length : Int)))) := by simpa using c48))
               clear c48
               exact absurd H (by simp)
             ·rw [if_neg c46] at H
              have c46b0 : (t209 == (Int.tmod (wrap64 (a1_0)) (l0.length : Int))) = false := beq_eq_false_iff_ne.mpr c46
              have c46b1 : (t209 != (Int.tmod (wrap64 (a1_0)) (l0.length : Int))) = true := bne_iff_ne.mpr c46
              exact absurd H (by simp)
            ·rw [if_neg c44] at H
             have c44b0 : (t208 == (Int.tmod (wrap64 (a1_0)) (l0.length : Int))) = false := beq_eq_false_iff_ne.mpr c44
             have c44b1 : (t208 != (Int.tmod (wrap64 (a1_0)) (l0.length : Int))) = true := bne_iff_ne.mpr c44
             exact absurd H (by simp)
           ·rw [if_neg c42] at H
            exact absurd H (by simp)
          ·rw [if_neg c40] at H
           have c40b0 : (t206 == (Int.tmod (wrap64 (a1_0)) (l0.length : Int))) = false := beq_eq_false_iff_ne.mpr c40
           have c40b1 : (t206 != (Int.tmod (wrap64 (a1_0)) (l0.length : Int))) = true := bne_iff_ne.mpr c40
           exact absurd H (by simp)
         ·rw [if_neg c38] at H
          have c38b0 : (t203 == t205) = false := beq_eq_false_iff_ne.mpr c38
          have c38b1 : (t203 != t205) = true := bne_iff_ne.mpr c38
          exact absurd H (by simp)
        ·rw [if_neg c34] at H
         have c34b0 : (t200 == t202) = false := beq_eq_false_iff_ne.mpr c34
         have c34b1 : (t200 != t202) = true := bne_iff_ne.mpr c34
         exact absurd H (by simp)
       ·rw [if_neg c30] at H
        have c30b0 : (t197 == t199) = false := beq_eq_false_iff_ne.mpr c30
        have c30b1 : (t197 != t199) = true := bne_iff_ne.mpr c30
        exact absurd H (by simp)
      ·rw [if_neg c28] at H
       have c28b0 : (t196 == t198) = false := beq_eq_false_iff_ne.mpr c28
       have c28b1 : (t196 != t198) = true := bne_iff_ne.mpr c28
       exact absurd H (by simp)
 ·rw [if_neg c3] at H
  exact absurd H (by simp)

/-- THE ONE PURE STATEMENT of colloquylaw01_LatticeLaws: yours. -/
def colloquylaw01_LatticeLaws.Pure : Prop := ∀ (l0 : List Int) (a1_0 : Int) (a1_1 : Int) (a1_2 : Int), l0.length ≤ maxLen → l0.length * 1 ≤ 140737488351232 → (∀ x ∈ l0, (Lit.int .u8 x).wf = true) → (Lit.int .u8 a1_0).wf = true → (Lit.int .u8 a1_1).wf = true → (Lit.int .u8 a1_2).wf = true → ∃ k, colloquylaw01_LatticeLaws.f k l0 a1_0 a1_1 a1_2 = some true
theorem colloquylaw01_LatticeLaws.walk (P : colloquylaw01_LatticeLaws.Pure) (a0 : Option Addr) (len0 cap0 : Nat) (z0 : List Int) (a1_0 : Int) (a1_1 : Int) (a1_2 : Int) (w : World) (hg : Go.Proofs.YtdggcbmghmfmkaaDoor.AsNum.GP w) (w0 : (a0 = none ∧ len0 = 0 ∧ cap0 = 0 ∧ z0 = []) ∨ ∃ x, a0 = some x ∧ len0 ≤ cap0 ∧ cap0 ≤ maxLen ∧ z0.length = cap0 ∧ (∀ i, i < z0.length → w.cell? (x.add i) = some (.int .u8 (z0.getD i 0))) ∧ ∀ n ∈ z0, (Lit.int .u8 n).wf = true) (y0 : len0 * 1 ≤ 140737488351232) (w1_0 : (Lit.int .u8 a1_0).wf = true) (w1_1 : (Lit.int .u8 a1_1).wf = true) (w1_2 : (Lit.int .u8 a1_2).wf = true) :
  Calls Tryd.prog 4 #[.slice a0 len0 cap0, .agg #[.int .u8 a1_0, .int .u8 a1_1, .int .u8 a1_2]] w fun e w' => e = .returned (.bool true) ∧ Below w.heap.size w w' := by
 obtain ⟨l0, rfl, hr0, hm0, hw0, hc0⟩ := ReadsInt.ofRowC w0
 obtain ⟨k, h⟩ := P l0 a1_0 a1_1 a1_2 hm0 y0 hw0 w1_0 w1_1 w1_2
 refine (colloquylaw01_LatticeLaws.calls k _ _ l0 a1_0 a1_1 a1_2 true w (Kd.C_of_reads (d := (0 : Int)) (h1 := fun _ => rfl) hr0) hc0 hg h).mono ?_
 rintro e w' ⟨rfl, hd⟩
 exact ⟨rfl, hd⟩

end Go.Proofs.YtdggcbmghmfmkaaDoor.PLatticeLaws
