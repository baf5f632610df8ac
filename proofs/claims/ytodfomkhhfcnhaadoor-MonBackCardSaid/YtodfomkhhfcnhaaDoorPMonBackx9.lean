/- The functions that the law reaches, as plain functions of lists and numbers, and that a call of the Go code comes to just their answers; laid by this repo's own program over the seat's translation. Conditions: each contract's own premises. -/
import Derived.Test.YtodfomkhhfcnhaaDoorPMonBackx0
import Derived.Test.YtodfomkhhfcnhaaDoorPMonBackx1
import Derived.Test.YtodfomkhhfcnhaaDoorPMonBackx4
import Derived.Test.YtodfomkhhfcnhaaDoorPMonBackx6
import Derived.Test.YtodfomkhhfcnhaaDoorPMonBackx7
import Derived.Test.YtodfomkhhfcnhaaDoorPMonBackx8
namespace Go.Proofs.YtodfomkhhfcnhaaDoor.PMonBack
open Go.RowKit Go.Proofs.YtodfomkhhfcnhaaDoorW.PrintWords Go.Proofs.YtodfomkhhfcnhaaDoorW.PrintLast Go.Proofs.YtodfomkhhfcnhaaDoorW.PrintMore
attribute [local go_sem] max2_int min2_int max_two min_two max_three min_three max_four min_four   -- for this text's walks alone
set_option linter.unusedVariables false
set_option linter.unusedSimpArgs false

attribute [local go_sem high] eqA58
/-! ### colloquylaw20_MonBack: function 4 -/
mutual
def colloquylaw20_MonBack.j0 : Nat → List Int → List (S28) → Bool → List Int → Int → List (S58) → Option (Bool)
 | 0, _, _, _, _, _, _ => none
 | k + 1, x0, x2, x41, x274000, x279000, x279001 => if x41 = true then ((colloquylaw20_sure.f k).bind fun t281 => (some t281)) else (if 0 < (x2.length : Int) then ((mon_Mon_Pc.f x279000 x279001).bind fun t284 => ((lattice_Lat_Leq.f k x274000 t284 ((rd_T28 x2 0).f2)).bind fun t285 => (if t285 = true then (if ((rd_T28 x2 0).f1) < 0 then ((colloquylaw20_sure.f k).bind fun t286 => (some t286)) else (if ((rd_T28 x2 0).f1) ≥ (x0.length : Int) then ((colloquylaw20_sure.f k).bind fun t287 => (some t287)) else ((lattice_Lat_Leq.f k x274000 ((rd_T28 x2 0).f1) ((rd_T28 x2 0).f2)).bind fun t288 => (if t288 = true then ((colloquylaw20_sure.f k).bind fun t289 => (some t289)) else ((mon_Else.f k x274000 x279000 x279001 ((rd_T28 x2 0).f0) ((rd_T28 x2 0).f1) 0).bind fun bt290 => (colloquylaw20_MonBack.l0 k x0 x2 ((rd_T28 x2 0).f2) 1 x274000 x279000 x279001 ((rd_T28 x2 0).f0) ((rd_T28 x2 0).f1) ((rd_T28 x2 0).f2) ((rd_T28 x2 0).f3) bt290.1 bt290.2)))))) else ((colloquylaw20_sure.f k).bind fun t321 => (some t321))))) else (none))
def colloquylaw20_MonBack.l0 : Nat → List Int → List (S28) → Int → Int → List Int → Int → List (S58) → Int → Int → Int → List Int → Int → List (S58) → Option (Bool)
 | 0, _, _, _, _, _, _, _, _, _, _, _, _, _ => none
 | k + 1, x0, x2, x10, x12, x274000, x279000, x279001, x284000, x284001, x284002, x284003, x295000, x295001 => if x12 < (x2.length : Int) then (colloquylaw20_MonBack.j2 k x0 x2 x10 x12 (decide (x12 < 40)) x274000 x279000 x279001 x284000 x284001 x284002 x284003 x295000 x295001) else (colloquylaw20_MonBack.j2 k x0 x2 x10 x12 false x274000 x279000 x279001 x284000 x284001 x284002 x284003 x295000 x295001)
def colloquylaw20_MonBack.j2 : Nat → List Int → List (S28) → Int → Int → Bool → List Int → Int → List (S58) → Int → Int → Int → List Int → Int → List (S58) → Option (Bool)
 | 0, _, _, _, _, _, _, _, _, _, _, _, _, _, _ => none
 | k + 1, x0, x2, x10, x12, x88, x274000, x279000, x279001, x284000, x284001, x284002, x284003, x295000, x295001 => if x88 = true then ((mon_Mon_Pc.f x295000 x295001).bind fun t296 => ((lattice_Lat_Leq.f k x274000 t296 x10).bind fun t297 => (if t297 = true then (none) else (colloquylaw20_MonBack.l1 k x0 x2 x10 x12 0 x274000 x279000 x279001 x284000 x284001 x284002 x284003 x295000 x295001)))) else ((colloquylaw20_sure.f k).bind fun t295 => (some t295))
def colloquylaw20_MonBack.l1 : Nat → List Int → List (S28) → Int → Int → Int → List Int → Int → List (S58) → Int → Int → Int → List Int → Int → List (S58) → Option (Bool)
 | 0, _, _, _, _, _, _, _, _, _, _, _, _, _, _ => none
 | k + 1, x0, x2, x10, x12, x13, x274000, x279000, x279001, x284000, x284001, x284002, x284003, x295000, x295001 => if x13 < (x279001.length : Int) then (if x13 ≥ (x295001.length : Int) then (none) else (if 0 ≤ x13 then (if x13 < (x295001.length : Int) then (if (!(((rd_T58 x295001 x13).f0) == ((rd_T58 x279001 x13).f0)) || (!(((rd_T58 x295001 x13).f1) == ((rd_T58 x279001 x13).f1)) || (!(((rd_T58 x295001 x13).f2) == ((rd_T58 x279001 x13).f2))))) = true then (none) else (colloquylaw20_MonBack.l1 k x0 x2 x10 x12 (wrap64 (x13 + 1)) x274000 x279000 x279001 x284000 x284001 x284002 x284003 x295000 x295001)) else (none)) else (none))) else (if 0 ≤ x12 then (if x12 < (x2.length : Int) then (if ((rd_T28 x2 x12).f2) < 0 then ((mon_Join.f k x295000 x295001 ((rd_T28 x2 x12).f0)).bind fun bt302 => ((mon_Mon_Pc.f bt302.1 bt302.2).bind fun t306 => ((lattice_Lat_Leq.f k x274000 t306 x10).bind fun t307 => (if t307 = true then ((mon_Join.f k x279000 x279001 x284000).bind fun bt308 => (if ((rd_T28 x2 x12).f0) = x284000 then (if bt302.1 = bt308.1 then (if (bt302.2.length : Int) = (bt308.2.length : Int) then (if (bt308.2.length : Int) = 0 then ((colloquylaw20_sure.f k).bind fun t313 => (some t313)) else (if 0 ≤ (wrap64 ((bt308.2.length : Int) - 1)) then (if (wrap64 ((bt308.2.length : Int) - 1)) < (bt302.2.length : Int) then (if (wrap64 ((bt308.2.length : Int) - 1)) < (bt308.2.length : Int) then (if (((rd_T58 bt302.2 (wrap64 ((bt308.2.length : Int) - 1))).f0) == ((rd_T58 bt308.2 (wrap64 ((bt308.2.length : Int) - 1))).f0) && (((rd_T58 bt302.2 (wrap64 ((bt308.2.length : Int) - 1))).f1) == ((rd_T58 bt308.2 (wrap64 ((bt308.2.length : Int) - 1))).f1) && (((rd_T58 bt302.2 (wrap64 ((bt308.2.length : Int) - 1))).f2) == ((rd_T58 bt308.2 (wrap64 ((bt308.2.length : Int) - 1))).f2)))) = true then ((colloquylaw20_sure.f k).bind fun t316 => (some t316)) else (none)) else (none)) else (none)) else (none))) else (none)) else (none)) else (none))) else (colloquylaw20_MonBack.l0 k x0 x2 x10 (wrap64 (x12 + 1)) x274000 x279000 x279001 x284000 x284001 x284002 x284003 bt302.1 bt302.2))))) else (if ((rd_T28 x2 x12).f1) ≥ 0 then (if ((rd_T28 x2 x12).f1) < (x0.length : Int) then ((mon_Else.f k x274000 x295000 x295001 ((rd_T28 x2 x12).f0) ((rd_T28 x2 x12).f1) ((rd_T28 x2 x12).f2)).bind fun bt317 => (colloquylaw20_MonBack.l0 k x0 x2 x10 (wrap64 (x12 + 1)) x274000 x279000 x279001 x284000 x284001 x284002 x284003 bt317.1 bt317.2)) else (colloquylaw20_MonBack.l0 k x0 x2 x10 (wrap64 (x12 + 1)) x274000 x279000 x279001 x284000 x284001 x284002 x284003 x295000 x295001)) else (colloquylaw20_MonBack.l0 k x0 x2 x10 (wrap64 (x12 + 1)) x274000 x279000 x279001 x284000 x284001 x284002 x284003 x295000 x295001))) else (none)) else (none))
end
def colloquylaw20_MonBack.f (k : Nat) (l0 : List Int) (a1_0 : Int) (l1_1 : List (S62)) (l2 : List (S28)) : Option (Bool) := (some (([] : List Int) : List Int)).bind fun y267 => (if y267.length + l0.length < 140737488355328 then ((some (y267 ++ l0 : List Int)).bind fun y270 => ((colloquylaw20_giveMon.f k a1_0 l1_1).bind fun bt274 => (if (l0.length : Int) > 20 then (colloquylaw20_MonBack.j0 k l0 l2 true y270 bt274.1 bt274.2) else (if (l1_1.length : Int) > 40 then (colloquylaw20_MonBack.j0 k l0 l2 true y270 bt274.1 bt274.2) else (if (l2.length : Int) = 0 then (colloquylaw20_MonBack.j0 k l0 l2 true y270 bt274.1 bt274.2) else ((mon_Check.f k y270 bt274.1 bt274.2).bind fun t279 => (if t279.isNone = true then (colloquylaw20_MonBack.j0 k l0 l2 false y270 bt274.1 bt274.2) else (colloquylaw20_MonBack.j0 k l0 l2 true y270 bt274.1 bt274.2)))))))) else (none))
theorem colloquylaw20_MonBack.mono_l : ∀ k, (∀ y0 y1 y2 y3 y4 y5, LeO (colloquylaw20_MonBack.j0 k y0 y1 y2 y3 y4 y5) (colloquylaw20_MonBack.j0 (k + 1) y0 y1 y2 y3 y4 y5)) ∧ (∀ y0 y1 y2 y3 y4 y5 y6 y7 y8 y9 y10 y11 y12, LeO (colloquylaw20_MonBack.l0 k y0 y1 y2 y3 y4 y5 y6 y7 y8 y9 y10 y11 y12) (colloquylaw20_MonBack.l0 (k + 1) y0 y1 y2 y3 y4 y5 y6 y7 y8 y9 y10 y11 y12)) ∧ (∀ y0 y1 y2 y3 y4 y5 y6 y7 y8 y9 y10 y11 y12 y13, LeO (colloquylaw20_MonBack.j2 k y0 y1 y2 y3 y4 y5 y6 y7 y8 y9 y10 y11 y12 y13) (colloquylaw20_MonBack.j2 (k + 1) y0 y1 y2 y3 y4 y5 y6 y7 y8 y9 y10 y11 y12 y13)) ∧ (∀ y0 y1 y2 y3 y4 y5 y6 y7 y8 y9 y10 y11 y12 y13, LeO (colloquylaw20_MonBack.l1 k y0 y1 y2 y3 y4 y5 y6 y7 y8 y9 y10 y11 y12 y13) (colloquylaw20_MonBack.l1 (k + 1) y0 y1 y2 y3 y4 y5 y6 y7 y8 y9 y10 y11 y12 y13))
 | 0 => ⟨fun _ _ _ _ _ _ r h => by simp [colloquylaw20_MonBack.j0] at h, fun _ _ _ _ _ _ _ _ _ _ _ _ _ r h => by simp [colloquylaw20_MonBack.l0] at h, fun _ _ _ _ _ _ _ _ _ _ _ _ _ _ r h => by simp [colloquylaw20_MonBack.j2] at h, fun _ _ _ _ _ _ _ _ _ _ _ _ _ _ r h => by simp [colloquylaw20_MonBack.l1] at h⟩
 | k + 1 => by
  obtain ⟨ih0, ih1, ih2, ih3⟩ := colloquylaw20_MonBack.mono_l k
  refine ⟨?_, ?_, ?_, ?_⟩
  ·intro y0 y1 y2 y3 y4 y5
   unfold colloquylaw20_MonBack.j0
   repeat' first
   | (with_reducible exact ih0 _ _ _ _ _ _)
   | (with_reducible exact ih1 _ _ _ _ _ _ _ _ _ _ _ _ _)
   | (with_reducible exact ih2 _ _ _ _ _ _ _ _ _ _ _ _ _ _)
   | (with_reducible exact ih3 _ _ _ _ _ _ _ _ _ _ _ _ _ _)
   | (with_reducible exact colloquylaw20_giveMon.mono _ _ _)
   | (with_reducible exact colloquylaw20_sure.mono _)
   | (with_reducible exact lattice_Lat_Leq.mono _ _ _ _)
   | (with_reducible exact mon_Check.mono _ _ _ _)
   | (with_reducible exact mon_Else.mono _ _ _ _ _ _ _)
   | (with_reducible exact mon_Join.mono _ _ _ _)
   | (with_reducible exact LeO.refl _)
   | (with_reducible exact LeO.none _)
   | (with_reducible refine LeO.ite ?_ ?_)
   | (with_reducible refine LeO.bind ?_ (fun _ => ?_))
   | exact ih0 _ _ _ _ _ _
   | exact ih1 _ _ _ _ _ _ _ _ _ _ _ _ _
   | exact ih2 _ _ _ _ _ _ _ _ _ _ _ _ _ _
   | exact ih3 _ _ _ _ _ _ _ _ _ _ _ _ _ _
   | exact colloquylaw20_giveMon.mono _ _ _
   | exact colloquylaw20_sure.mono _
   | exact lattice_Lat_Leq.mono _ _ _ _
   | exact mon_Check.mono _ _ _ _
   | exact mon_Else.mono _ _ _ _ _ _ _
   | exact mon_Join.mono _ _ _ _
   | exact LeO.none _
   | refine LeO.ite ?_ ?_
   | refine LeO.bind ?_ (fun _ => ?_)
  ·intro y0 y1 y2 y3 y4 y5 y6 y7 y8 y9 y10 y11 y12
   unfold colloquylaw20_MonBack.l0
   repeat' first
   | (with_reducible exact ih0 _ _ _ _ _ _)
   | (with_reducible exact ih1 _ _ _ _ _ _ _ _ _ _ _ _ _)
   | (with_reducible exact ih2 _ _ _ _ _ _ _ _ _ _ _ _ _ _)
   | (with_reducible exact ih3 _ _ _ _ _ _ _ _ _ _ _ _ _ _)
   | (with_reducible exact colloquylaw20_giveMon.mono _ _ _)
   | (with_reducible exact colloquylaw20_sure.mono _)
   | (with_reducible exact lattice_Lat_Leq.mono _ _ _ _)
   | (with_reducible exact mon_Check.mono _ _ _ _)
   | (with_reducible exact mon_Else.mono _ _ _ _ _ _ _)
   | (with_reducible exact mon_Join.mono _ _ _ _)
   | (with_reducible exact LeO.refl _)
   | (with_reducible exact LeO.none _)
   | (with_reducible refine LeO.ite ?_ ?_)
   | (with_reducible refine LeO.bind ?_ (fun _ => ?_))
   | exact ih0 _ _ _ _ _ _
   | exact ih1 _ _ _ _ _ _ _ _ _ _ _ _ _
   | exact ih2 _ _ _ _ _ _ _ _ _ _ _ _ _ _
   | exact ih3 _ _ _ _ _ _ _ _ _ _ _ _ _ _
   | exact colloquylaw20_giveMon.mono _ _ _
   | exact colloquylaw20_sure.mono _
   | exact lattice_Lat_Leq.mono _ _ _ _
   | exact mon_Check.mono _ _ _ _
   | exact mon_Else.mono _ _ _ _ _ _ _
   | exact mon_Join.mono _ _ _ _
   | exact LeO.none _
   | refine LeO.ite ?_ ?_
   | refine LeO.bind ?_ (fun _ => ?_)
  ·intro y0 y1 y2 y3 y4 y5 y6 y7 y8 y9 y10 y11 y12 y13
   unfold colloquylaw20_MonBack.j2
   repeat' first
   | (with_reducible exact ih0 _ _ _ _ _ _)
   | (with_reducible exact ih1 _ _ _ _ _ _ _ _ _ _ _ _ _)
   | (with_reducible exact ih2 _ _ _ _ _ _ _ _ _ _ _ _ _ _)
   | (with_reducible exact ih3 _ _ _ _ _ _ _ _ _ _ _ _ _ _)
   | (with_reducible exact colloquylaw20_giveMon.mono _ _ _)
   | (with_reducible exact colloquylaw20_sure.mono _)
   | (with_reducible exact lattice_Lat_Leq.mono _ _ _ _)
   | (with_reducible exact mon_Check.mono _ _ _ _)
   | (with_reducible exact mon_Else.mono _ _ _ _ _ _ _)
   | (with_reducible exact mon_Join.mono _ _ _ _)
   | (with_reducible exact LeO.refl _)
   | (with_reducible exact LeO.none _)
   | (with_reducible refine LeO.ite ?_ ?_)
   | (with_reducible refine LeO.bind ?_ (fun _ => ?_))
   | exact ih0 _ _ _ _ _ _
   | exact ih1 _ _ _ _ _ _ _ _ _ _ _ _ _
   | exact ih2 _ _ _ _ _ _ _ _ _ _ _ _ _ _
   | exact ih3 _ _ _ _ _ _ _ _ _ _ _ _ _ _
   | exact colloquylaw20_giveMon.mono _ _ _
   | exact colloquylaw20_sure.mono _
   | exact lattice_Lat_Leq.mono _ _ _ _
   | exact mon_Check.mono _ _ _ _
   | exact mon_Else.mono _ _ _ _ _ _ _
   | exact mon_Join.mono _ _ _ _
   | exact LeO.none _
   | refine LeO.ite ?_ ?_
   | refine LeO.bind ?_ (fun _ => ?_)
  intro y0 y1 y2 y3 y4 y5 y6 y7 y8 y9 y10 y11 y12 y13
  unfold colloquylaw20_MonBack.l1
  repeat' first
  | (with_reducible exact ih0 _ _ _ _ _ _)
  | (with_reducible exact ih1 _ _ _ _ _ _ _ _ _ _ _ _ _)
  | (with_reducible exact ih2 _ _ _ _ _ _ _ _ _ _ _ _ _ _)
  | (with_reducible exact ih3 _ _ _ _ _ _ _ _ _ _ _ _ _ _)
  | (with_reducible exact colloquylaw20_giveMon.mono _ _ _)
  | (with_reducible exact colloquylaw20_sure.mono _)
  | (with_reducible exact lattice_Lat_Leq.mono _ _ _ _)
  | (with_reducible exact mon_Check.mono _ _ _ _)
  | (with_reducible exact mon_Else.mono _ _ _ _ _ _ _)
  | (with_reducible exact mon_Join.mono _ _ _ _)
  | (with_reducible exact LeO.refl _)
  | (with_reducible exact LeO.none _)
  | (with_reducible refine LeO.ite ?_ ?_)
  | (with_reducible refine LeO.bind ?_ (fun _ => ?_))
  | exact ih0 _ _ _ _ _ _
  | exact ih1 _ _ _ _ _ _ _ _ _ _ _ _ _
  | exact ih2 _ _ _ _ _ _ _ _ _ _ _ _ _ _
  | exact ih3 _ _ _ _ _ _ _ _ _ _ _ _ _ _
  | exact colloquylaw20_giveMon.mono _ _ _
  | exact colloquylaw20_sure.mono _
  | exact lattice_Lat_Leq.mono _ _ _ _
  | exact mon_Check.mono _ _ _ _
  | exact mon_Else.mono _ _ _ _ _ _ _
  | exact mon_Join.mono _ _ _ _
  | exact LeO.none _
  | refine LeO.ite ?_ ?_
  | refine LeO.bind ?_ (fun _ => ?_)
theorem colloquylaw20_MonBack.mono : ∀ a0 a1 a2 a3 k, LeO (colloquylaw20_MonBack.f k a0 a1 a2 a3) (colloquylaw20_MonBack.f (k + 1) a0 a1 a2 a3) := by
 intro a0 a1 a2 a3 k
 obtain ⟨ih0, ih1, ih2, ih3⟩ := colloquylaw20_MonBack.mono_l k
 unfold colloquylaw20_MonBack.f
 repeat' first
   | (with_reducible exact ih0 _ _ _ _ _ _)
   | (with_reducible exact ih1 _ _ _ _ _ _ _ _ _ _ _ _ _)
   | (with_reducible exact ih2 _ _ _ _ _ _ _ _ _ _ _ _ _ _)
   | (with_reducible exact ih3 _ _ _ _ _ _ _ _ _ _ _ _ _ _)
   | (with_reducible exact colloquylaw20_giveMon.mono _ _ _)
   | (with_reducible exact colloquylaw20_sure.mono _)
   | (with_reducible exact lattice_Lat_Leq.mono _ _ _ _)
   | (with_reducible exact mon_Check.mono _ _ _ _)
   | (with_reducible exact mon_Else.mono _ _ _ _ _ _ _)
   | (with_reducible exact mon_Join.mono _ _ _ _)
   | (with_reducible exact LeO.refl _)
   | (with_reducible exact LeO.none _)
   | (with_reducible refine LeO.ite ?_ ?_)
   | (with_reducible refine LeO.bind ?_ (fun _ => ?_))
   | exact ih0 _ _ _ _ _ _
   | exact ih1 _ _ _ _ _ _ _ _ _ _ _ _ _
   | exact ih2 _ _ _ _ _ _ _ _ _ _ _ _ _ _
   | exact ih3 _ _ _ _ _ _ _ _ _ _ _ _ _ _
   | exact colloquylaw20_giveMon.mono _ _ _
   | exact colloquylaw20_sure.mono _
   | exact lattice_Lat_Leq.mono _ _ _ _
   | exact mon_Check.mono _ _ _ _
   | exact mon_Else.mono _ _ _ _ _ _ _
   | exact mon_Join.mono _ _ _ _
   | exact LeO.none _
   | refine LeO.ite ?_ ?_
   | refine LeO.bind ?_ (fun _ => ?_)
def colloquylaw20_MonBack.T7 : Bool × List (List Nat × List Nat) := (true, [([], []), ([], []), ([1], [1]), ([], []), ([0, 2, 3, 2], [0, 2, 3]), ([4], [4]), ([5, 4], [5]), ([6], [6]), ([7, 6], [6, 7]), ([8, 6], [6, 8]), ([6, 9], [6, 9]), ([10, 6], [10]), ([11], [11]), ([12, 11], [11, 12]), ([11], [11]), ([14, 11], [11, 14]), ([13, 15, 11], [11, 13, 15]), ([11, 16], [11, 16]), ([17, 11], [17]), ([18], [18]), ([18], [18]), ([20, 18], [18, 20]), ([18], [18]), ([19, 21, 22, 18, 18], [18, 19, 21, 22]), ([18, 23], [18, 23])])
def colloquylaw20_MonBack.B7 : List Nat := [0, 0, 2, 0, 15, 31, 63, 127, 255, 511, 1023, 2047, 4095, 8191, 4095, 20479, 65535, 131071, 262143, 524287, 524287, 1572863, 524287, 8388607, 16777215]
theorem colloquylaw20_MonBack.tab7 : rtab .any (opsOf Tryd.f4 7) = colloquylaw20_MonBack.T7 := by kernel_rfl
theorem colloquylaw20_MonBack.bits7 : waitsOk colloquylaw20_MonBack.T7.2 colloquylaw20_MonBack.B7 = true := by kernel_rfl
def colloquylaw20_MonBack.T18 : Bool × List (List Nat × List Nat) := (true, [([], []), ([], []), ([1], [1]), ([2], [2]), ([0, 3], [0, 3]), ([4], [4]), ([5], [5]), ([6, 5], [5, 6]), ([5], [5]), ([7, 8, 5], [5, 7, 8]), ([9, 5], [5, 9]), ([5], [5]), ([11, 5], [5, 11]), ([5], [5]), ([12, 13, 5], [5, 12, 13]), ([14, 5], [5, 14]), ([10, 15, 5], [5, 10, 15]), ([5, 16], [5, 16])])
def colloquylaw20_MonBack.B18 : List Nat := [0, 0, 2, 6, 15, 31, 63, 127, 63, 511, 1023, 63, 2111, 63, 14399, 30783, 65535, 131071]
theorem colloquylaw20_MonBack.tab18 : rtab .any (opsOf Tryd.f4 18) = colloquylaw20_MonBack.T18 := by kernel_rfl
theorem colloquylaw20_MonBack.bits18 : waitsOk colloquylaw20_MonBack.T18.2 colloquylaw20_MonBack.B18 = true := by kernel_rfl
def colloquylaw20_MonBack.T27 : Bool × List (List Nat × List Nat) := (true, [([], []), ([0], [0]), ([1], [1]), ([2], [2]), ([3], [3]), ([4], [4]), ([5, 4], [4, 5]), ([4], [4]), ([7, 4], [4, 7]), ([8, 4], [4, 8]), ([9, 4], [4, 9]), ([6, 10, 4], [4, 6, 10]), ([11, 4], [4, 11]), ([4], [4]), ([13, 4], [4, 13]), ([4], [4]), ([15, 4], [4, 15]), ([16, 4], [4, 16]), ([17, 4], [4, 17]), ([14, 18, 4], [4, 14, 18]), ([19, 4], [4, 19]), ([12, 20, 4], [4, 12, 20]), ([4, 21], [4, 21]), ([22, 4], [22]), ([23, 23], [23]), ([23, 24], [23, 24]), ([25, 24, 0, 1, 2, 3, 4, 5, 6, 7, 8, 9, 10, 11, 12, 13, 14, 15, 16, 17, 18, 19, 20, 21, 22, 23, 24, 25], [25])])
def colloquylaw20_MonBack.B27 : List Nat := [0, 1, 3, 7, 15, 31, 63, 31, 159, 415, 927, 2047, 4095, 31, 8223, 31, 32799, 98335, 229407, 516127, 1040415, 2097151, 4194303, 8388607, 16777215, 33554431, 67108863]
theorem colloquylaw20_MonBack.tab27 : rtab .any (opsOf Tryd.f4 27) = colloquylaw20_MonBack.T27 := by kernel_rfl
theorem colloquylaw20_MonBack.bits27 : waitsOk colloquylaw20_MonBack.T27.2 colloquylaw20_MonBack.B27 = true := by kernel_rfl
set_option maxHeartbeats 80000000 in
set_option maxRecDepth 100000 in
theorem colloquylaw20_MonBack.calls (k : Nat) (A0 : Option Addr) (c0 : Nat) (l0 : List Int) (a1_0 : Int) (A1_1 : Option Addr) (c1_1 : Nat) (l1_1 : List (S62)) (A2 : Option Addr) (c2 : Nat) (l2 : List (S28)) (r : Bool) (w : World) (hr0 : Kd.C (Kd.int .u8) w A0 l0.length l0) (hc0 : l0.length ≤ c0) (hr1_1 : Kd.C k62 w A1_1 l1_1.length l1_1) (hc1_1 : l1_1.length ≤ c1_1) (hr2 : Kd.C k28 w A2 l2.length l2) (hc2 : l2.length ≤ c2) (hg : Go.Proofs.YtodfomkhhfcnhaaDoor.AsNum.GP w) (h : colloquylaw20_MonBack.f k l0 a1_0 l1_1 l2 = some r) :
  Calls Tryd.prog 4 #[.slice A0 l0.length c0, .agg #[.int .i64 a1_0, .slice A1_1 l1_1.length c1_1], .slice A2 l2.length c2] w fun e w' => e = .returned (.bool r) ∧ Below w.heap.size w w' := by
 have hu25 := Tryd.underlying25
 have hu31 := Tryd.underlying31
 have hu34 := Tryd.underlying34
 have hu28 := Tryd.underlying28
 have hu58 := Tryd.underlying58
 have hu38 := Tryd.underlying38
 have hu63 := Tryd.underlying63
 have HG := Aside0.mk hg
 clear hg
 have HR0 := Aside0.mk hr0
 have HC0 := Aside0.mk hc0
 clear hr0 hc0
 have HR1_1 := Aside0.mk hr1_1
 have HC1_1 := Aside0.mk hc1_1
 clear hr1_1 hc1_1
 have HR2 := Aside0.mk hr2
 have HC2 := Aside0.mk hc2
 clear hr2 hc2
 have HB := Aside0.mk (Below.refl w.heap.size w)
 have H : ((some (([] : List Int) : List Int)).bind fun y267 => (if y267.length + l0.length < 140737488355328 then ((some (y267 ++ l0 : List Int)).bind fun y270 => ((colloquylaw20_giveMon.f k a1_0 l1_1).bind fun bt274 => (if (l0.length : Int) > 20 then (colloquylaw20_MonBack.j0 k l0 l2 true y270 bt274.1 bt274.2) else (if (l1_1.length : Int) > 40 then (colloquylaw20_MonBack.j0 k l0 l2 true y270 bt274.1 bt274.2) else (if (l2.length : Int) = 0 then (colloquylaw20_MonBack.j0 k l0 l2 true y270 bt274.1 bt274.2) else ((mon_Check.f k y270 bt274.1 bt274.2).bind fun t279 => (if t279.isNone = true then (colloquylaw20_MonBack.j0 k l0 l2 false y270 bt274.1 bt274.2) else (colloquylaw20_MonBack.j0 k l0 l2 true y270 bt274.1 bt274.2)))))))) else (none))) = some r := h
 clear h
 obtain ⟨y267, hy267⟩ : ∃ y_ : List Int, y_ = (([] : List Int)) := ⟨_, rfl⟩
 replace H : (if y267.length + l0.length < 140737488355328 then ((some (y267 ++ l0 : List Int)).bind fun y270 => ((colloquylaw20_giveMon.f k a1_0 l1_1).bind fun bt274 => (if (l0.length : Int) > 20 then (colloquylaw20_MonBack.j0 k l0 l2 true y270 bt274.1 bt274.2) else (if (l1_1.length : Int) > 40 then (colloquylaw20_MonBack.j0 k l0 l2 true y270 bt274.1 bt274.2) else (if (l2.length : Int) = 0 then (colloquylaw20_MonBack.j0 k l0 l2 true y270 bt274.1 bt274.2) else ((mon_Check.f k y270 bt274.1 bt274.2).bind fun t279 => (if t279.isNone = true then (colloquylaw20_MonBack.j0 k l0 l2 false y270 bt274.1 bt274.2) else (colloquylaw20_MonBack.j0 k l0 l2 true y270 bt274.1 bt274.2)))))))) else (none)) = some r := by first | (rw [hy267]; with_reducible exact H) | (have H2_ := (Option.bind_some _ _).symm.trans H; rw [hy267]; with_reducible exact H2_) | (have H2_ := (Option.bind_some _ _).symm.trans H; with_reducible exact H2_) | with_reducible exact H | (rw [hy267]; exact H) | exact H
 have Ny267 := Aside0.mk hy267
 clear hy267
 by_cases c4 : y267.length + l0.length < 140737488355328
 ·as_aux_lemma =>
  rw [if_pos c4] at H
  have LMc4 := Aside0.mk c4
  clear c4
  obtain ⟨y270, hy270⟩ : ∃ y_ : List Int, y_ = (y267 ++ l0) := ⟨_, rfl⟩
  replace H : ((colloquylaw20_giveMon.f k a1_0 l1_1).bind fun bt274 => (if (l0.length : Int) > 20 then (colloquylaw20_MonBack.j0 k l0 l2 true y270 bt274.1 bt274.2) else (if (l1_1.length : Int) > 40 then (colloquylaw20_MonBack.j0 k l0 l2 true y270 bt274.1 bt274.2) else (if (l2.length : Int) = 0 then (colloquylaw20_MonBack.j0 k l0 l2 true y270 bt274.1 bt274.2) else ((mon_Check.f k y270 bt274.1 bt274.2).bind fun t279 => (if t279.isNone = true then (colloquylaw20_MonBack.j0 k l0 l2 false y270 bt274.1 bt274.2) else (colloquylaw20_MonBack.j0 k l0 l2 true y270 bt274.1 bt274.2))))))) = some r := by first | (rw [hy270]; with_reducible exact H) | (have H2_ := (Option.bind_some _ _).symm.trans H; rw [hy270]; with_reducible exact H2_) | (have H2_ := (Option.bind_some _ _).symm.trans H; with_reducible exact H2_) | with_reducible exact H | (rw [hy270]; exact H) | exact H
  have Ny270 := Aside0.mk hy270
  clear hy270
  replace H := Option.bind_eq_some_iff.mp H
  obtain ⟨⟨t274, t275⟩, A50, H⟩ := H
  replace H : (if (l0.length : Int) > 20 then (colloquylaw20_MonBack.j0 k l0 l2 true y270 t274 t275) else (if (l1_1.length : Int) > 40 then (colloquylaw20_MonBack.j0 k l0 l2 true y270 t274 t275) else (if (l2.length : Int) = 0 then (colloquylaw20_MonBack.j0 k l0 l2 true y270 t274 t275) else ((mon_Check.f k y270 t274 t275).bind fun t279 => (if t279.isNone = true then (colloquylaw20_MonBack.j0 k l0 l2 false y270 t274 t275) else (colloquylaw20_MonBack.j0 k l0 l2 true y270 t274 t275)))))) = some r := H
  have A5 := Aside0.mk A50
  clear A50
  have HC6 := Aside0.mk H
  clear H
  go_enter Tryd.func4, Tryd.ntmps4
  try simp only [List.append_eq, List.cons_append, List.nil_append]
  go_upto_region 3 with (first | ((with_reducible refine gate_dst (N := 4) rfl ?_); (try (refine gate_guard (by rfl) ?_; dsimp only)); refine box_event ?hg (N := 4) ?hd (cs := #[.int .i64 a1_0, .slice A1_1 l1_1.length c1_1]) (t := 25) ?hr ?_; (case hd => rfl); (case hg => rfl); (case hr => first | (go_simp; done) | (go_simp; rfl)); intro gb266 hg w7 hbox hb; have BK266 := Aside0.mk (hbox); have GW266 := Aside0.mk ((by rw [hg]; exact (below_size (uB0 HB)) : w.heap.size ≤ gb266)); have GE266 := Aside0.mk ((by rw [hg]; exact (below_size (uB0 HB)) : w.heap.size ≤ gb266)); replace HB := Aside0.mk (below_step (uB0 HB) hb); clear hb hbox hg) | ((with_reducible refine gate_dst (N := 16) rfl ?_); (try (refine gate_guard (by rfl) ?_; dsimp only)); refine Kd.R_lit (Kd.int .u8) _ 5 ?hg (N := 16) ?hd (xs := ([] : List Int)) (inner := []) (ok := fun _ => True) (okp := fun _ => True) ?hr ?hp (fun _ hk => hk) trivial (Below.refl _ _) (Nat.le_refl _) (by simp) ?_; (case hd => rfl); (case hg => rfl); (case hr => first | (go_simp; done) | (go_simp; rfl)); (case hp => exact (Reps.none _ _)); intro v268 w8 ho9 hb hg_ hnew_; clear hg_ hnew_; (first | rw [← Ny267.out] at ho9 | (simp only [Int.reduceToNat] at ho9; rw [← Ny267.out] at ho9)); have HO269 := Aside0.mk (Kd.R_lower ho9 (below_size (uB1 HB GE266))); replace BK266 := uD BK266 hb; replace HB := Aside0.mk (below_step (uB1 HB GE266) hb); clear hb ho9) | ((with_reducible refine gate_builtin (b := .append) (xs := #[.tmp 16, .tmp 17]) rfl ?_); (try (refine gate_guard (by rfl) ?_; dsimp only)); at_builtin; refine Kd.R_append_rows (Kd.int .u8) (w0 := w) w.heap.size rfl (.tmp 16) (.tmp 17) 22 5 (.int .u8 0) 1 rfl Tryd.underlying22 info5 rfl (by decide) (by omega) v268 y267 l0 _ _ _ (fun _ => True) (fun _ => False) rfl rfl ?aO ?aR (fun _ _ h => h) (fun _ h => h.elim) ?aF ?aB ?aS ?aL ?_; (case aR => exact uS (Kd.C_below HR0.out HB.out)); (case aB => exact (uB1 HB GE266)); (case aF => exact (fun _ _ => trivial)); (case aO => exact (uR HO269)); (case aS => exact (below_size (uB1 HB GE266))); (case aL => have := LMc4.out; omega); intro v271 w10 ho hb hg hat; rw [← Ny270.out] at ho; replace BK266 := Aside0.mk (blk_grown (g := gb266) (o := .cells #[.int .i64 a1_0, .slice A1_1 l1_1.length c1_1] 25 (0, 0)) (uK BK266) hg (Kd.R_ne HO269.out BK266.out (by decide))); replace HB := Aside0.mk (hb); have HO272 := Aside0.mk (ho); clear HO269; clear ho hb hg hat; obtain ⟨Ao11, co11, eo11⟩ := Kd.R_slice HO272.out; subst eo11) | ((with_reducible refine gate_dst (N := 7) rfl ?_); (try (refine gate_guard (by rfl) ?_; dsimp only)); refine box_event ?hg (N := 7) ?hd (cs := #[.slice none 0 0]) (t := 31) ?hr ?_; (case hd => rfl); (case hg => rfl); (case hr => first | (go_simp; done) | (go_simp; rfl)); intro gb273 hg w12 hbox hb; replace HO272 := uRd HO272 hb; have BK273 := Aside0.mk (hbox); have GW273 := Aside0.mk ((by rw [hg]; exact (below_size (uB1 HB GE266)) : w.heap.size ≤ gb273)); have GE273 := Aside0.mk ((by rw [hg]; exact (below_size (uB1 HB GE266)) : w.heap.size ≤ gb273)); replace HB := Aside0.mk (below_step (uB1 HB GE266) hb); have NB266_273 := uN1 BK266 hg; have NB273_266 := uN2 BK266 hg; replace BK266 := uD BK266 hb; clear hb hbox hg; have hnb13 := NB273_266.out; have hnc13 := NB266_273.out; have hcz14_0 : w12.cell? ⟨gb273, 0, none⟩ = some (.slice none 0 0) := uF BK273 0; have hfz14_0 := blk_frozen BK273.out 0; have hcz15_0 : w12.cell? ⟨gb266, 0, none⟩ = some (.int .i64 a1_0) := uF BK266 0; have hcz15_1 : w12.cell? ⟨gb266, 1, none⟩ = some (.slice A1_1 l1_1.length c1_1) := uF BK266 1; have hfz15_0 := blk_frozen BK266.out 0; have hfz15_1 := blk_frozen BK266.out 1) | ((with_reducible refine gate_callee (f := 8) rfl ?_); refine goesL_ (some 21) rfl rfl Tryd.func8 (by kernel_rfl) rfl #[.agg #[.int .i64 a1_0, .slice A1_1 l1_1.length c1_1]] rfl uC ?_; (with_reducible refine (colloquylaw20_giveMon.calls k a1_0 _ _ l1_1 t274 t275 _ ?side1 ?side2 A5.out).mono ?_); (case side1 => exact Kd.C_below HR1_1.out (uB2 HB GE266 GE273)); (case side2 => exact HC1_1.out); rintro e w16 ⟨v276, rfl, ho0, hb⟩; refine ⟨_, rfl, ?_⟩; replace HO272 := Aside0.mk (Kd.R_below (uT HO272 BK273) hb); have HO277 := Aside0.mk (Kd.R_lower ho0 (below_size (uB2 HB GE266 GE273))); replace BK266 := uX BK266 NB266_273 hb; replace BK273 := Aside0.mk (blk_below (g := gb273) (o := .cells #[.slice Ao11 y270.length co11] 31 (0, 0)) (by (with_reducible repeat (first | refine blk_drewN ?_ _ | refine blk_drew ?_ | refine blk_alloc ?_ _)); refine blk_put (cs := #[.slice none 0 0]) ?_ 0 _ rfl; (with_reducible repeat (first | refine blk_drewN ?_ _ | refine blk_drew ?_ | refine blk_alloc ?_ _)); exact BK273.out) hb); replace HB := Aside0.mk (below_step (uB2 HB GE266 GE273) hb); (try clear hb); (try clear hb2); (try clear hk); (try clear hi); (try clear ho0)) | ((with_reducible refine gate_dst (N := 8) rfl ?_); (try (refine gate_guard (by rfl) ?_; dsimp only)); refine box_event ?hg (N := 8) ?hd (cs := #[.int .i64 0, .slice none 0 0]) (t := 34) ?hr ?_; (case hd => rfl); (case hg => rfl); (case hr => first | (go_simp; done) | (go_simp; rfl)); intro gb278 hg w17 hbox hb; replace HO272 := uRd HO272 hb; replace HO277 := uRd HO277 hb; have BK278 := Aside0.mk (hbox); have GW278 := Aside0.mk ((by rw [hg]; exact (below_size (uB2 HB GE266 GE273)) : w.heap.size ≤ gb278)); have GE278 := Aside0.mk ((by rw [hg]; exact (below_size (uB2 HB GE266 GE273)) : w.heap.size ≤ gb278)); replace HB := Aside0.mk (below_step (uB2 HB GE266 GE273) hb); have NB266_278 := uN1 BK266 hg; have NB278_266 := uN2 BK266 hg; replace BK266 := uD BK266 hb; have NB273_278 := uN1 BK273 hg; have NB278_273 := uN2 BK273 hg; replace BK273 := uD BK273 hb; clear hb hbox hg; have hnb18 := NB278_266.out; have hnc18 := NB266_278.out; have hnb19 := NB278_273.out; have hnc19 := NB273_278.out; have hcz20_0 : w17.cell? ⟨gb278, 0, none⟩ = some (.int .i64 0) := uF BK278 0; have hcz20_1 : w17.cell? ⟨gb278, 1, none⟩ = some (.slice none 0 0) := uF BK278 1; have hfz20_0 := blk_frozen BK278.out 0; have hfz20_1 := blk_frozen BK278.out 1; obtain ⟨Ao21, co21, eo21⟩ := Kd.R_slice HO277.out; subst eo21))
  (try simp only [Act.put, List.setIfInBounds_toArray, List.set_cons_zero, List.set_cons_succ])
  go_cut [41] (fun v41 wc => ∃ (kq : Nat) (x41_5 : Bool), v41 = .bool x41_5 ∧ Aside0 (colloquylaw20_MonBack.j0 kq l0 l2 x41_5 y270 t274 t275 = some r) ∧ Aside0 (kq ≤ k) ∧ Aside0 (Kd.R (Kd.int .u8) 5 wc w.heap.size (fun _ => True) (.slice Ao11 y270.length co11) y270) ∧ Aside0 (Kd.R k58 58 wc w.heap.size (fun _ => True) (.slice Ao21 t275.length co21) t275) ∧ Aside0 (wc.heap[gb266]? = some (.cells #[.int .i64 a1_0, (.slice A1_1 l1_1.length c1_1)] 25 (0, 0))) ∧ Aside0 (wc.heap[gb273]? = some (.cells #[(.slice Ao11 y270.length co11)] 31 (0, 0))) ∧ Aside0 (wc.heap[gb278]? = some (.cells #[.int .i64 t274, (.slice Ao21 t275.length co21)] 34 (0, 0))) ∧ Aside0 (Below w.heap.size w wc))
  case first =>
   have H := HC6.out
   clear HC6
   by_cases c22 : (l0.length : Int) > 20
   ·rw [if_pos c22] at H
    have c22b0 : decide (20 < (l0.length : Int)) = true := decide_eq_true c22
    have c22b1 : decide (20 < l0.length) = true := decide_eq_true (by omega)
    clear c22
    (first | rw [c22b0] | (simp only [i64_w, i32_w]; rw [c22b0]) | skip)
    have H' := Aside0.mk H
    clear H
    go_wp2
    go_meet
    case rel => exact ⟨_, (true), (by first | rfl | (simp; done) | (simp [*]; done)), H', ⟨by first | omega | exact Nat.le_refl _⟩, ⟨uT2 HO272 BK278 (fun _ hk => trivial)⟩, ⟨uT2 HO277 BK278 (fun _ hk => trivial)⟩, ⟨uZ BK266 NB266_278⟩, ⟨uZ BK273 NB273_278⟩, ⟨by (with_reducible repeat (first | refine blk_drewN ?_ _ | refine blk_drew ?_ | refine blk_alloc ?_ _)); refine blk_put (cs := #[.int .i64 t274, .slice none 0 0]) ?_ 1 _ rfl; (with_reducible repeat (first | refine blk_drewN ?_ _ | refine blk_drew ?_ | refine blk_alloc ?_ _)); refine blk_put (cs := #[.int .i64 0, .slice none 0 0]) ?_ 0 _ rfl; (with_reducible repeat (first | refine blk_drewN ?_ _ | refine blk_drew ?_ | refine blk_alloc ?_ _)); exact BK278.out⟩, ⟨uB3 HB GE266 GE273 GE278⟩⟩
   as_aux_lemma =>
   rw [if_neg c22] at H
   have c22b0 : decide (20 < (l0.length : Int)) = false := decide_eq_false c22
   have c22b1 : decide (20 < l0.length) = false := decide_eq_false (by omega)
   clear c22
   (first | rw [c22b0] | (simp only [i64_w, i32_w]; rw [c22b0]) | skip)
   by_cases c23 : (l1_1.length : Int) > 40
   ·as_aux_lemma =>
    rw [if_pos c23] at H
    have c23b0 : decide (40 < (l1_1.length : Int)) = true := decide_eq_true c23
    have c23b1 : decide (40 < l1_1.length) = true := decide_eq_true (by omega)
    clear c23
    have H' := Aside0.mk H
    clear H
    have hnb24 := NB266_273.out
    have hnc24 := NB273_266.out
    have hnb25 := NB266_278.out
    have hnc25 := NB278_266.out
    have hcz26_0 : w17.cell? ⟨gb266, 0, none⟩ = some (.int .i64 a1_0) := uF BK266 0
    have hcz26_1 : w17.cell? ⟨gb266, 1, none⟩ = some (.slice A1_1 l1_1.length c1_1) := uF BK266 1
    have hfz26_0 := blk_frozen BK266.out 0
    have hfz26_1 := blk_frozen BK266.out 1
    go_wp2
    go_meet
    case rel => exact ⟨_, (true), (by first | rfl | (simp; done) | (simp [*]; done)), H', ⟨by first | omega | exact Nat.le_refl _⟩, ⟨uT2 HO272 BK278 (fun _ hk => trivial)⟩, ⟨uT2 HO277 BK278 (fun _ hk => trivial)⟩, ⟨uZ BK266 NB266_278⟩, ⟨uZ BK273 NB273_278⟩, ⟨by (with_reducible repeat (first | refine blk_drewN ?_ _ | refine blk_drew ?_ | refine blk_alloc ?_ _)); refine blk_put (cs := #[.int .i64 t274, .slice none 0 0]) ?_ 1 _ rfl; (with_reducible repeat (first | refine blk_drewN ?_ _ | refine blk_drew ?_ | refine blk_alloc ?_ _)); refine blk_put (cs := #[.int .i64 0, .slice none 0 0]) ?_ 0 _ rfl; (with_reducible repeat (first | refine blk_drewN ?_ _ | refine blk_drew ?_ | refine blk_alloc ?_ _)); exact BK278.out⟩, ⟨uB3 HB GE266 GE273 GE278⟩⟩
   as_aux_lemma =>
   rw [if_neg c23] at H
   have c23b0 : decide (40 < (l1_1.length : Int)) = false := decide_eq_false c23
   have c23b1 : decide (40 < l1_1.length) = false := decide_eq_false (by omega)
   clear c23
   by_cases c27 : (l2.length : Int) = 0
   ·as_aux_lemma =>
    rw [if_pos c27] at H
    have c27b0 : ((l2.length : Int) == 0) = true := beq_iff_eq.mpr c27
    have c27b1 : ((l2.length : Int) != 0) = false := bne_eq_false_iff_eq.mpr c27
    clear c27
    have H' := Aside0.mk H
    clear H
    have hnb28 := NB266_273.out
    have hnc28 := NB273_266.out
    have hnb29 := NB266_278.out
    have hnc29 := NB278_266.out
    have hcz30_0 : w17.cell? ⟨gb266, 0, none⟩ = some (.int .i64 a1_0) := uF BK266 0
    have hcz30_1 : w17.cell? ⟨gb266, 1, none⟩ = some (.slice A1_1 l1_1.length c1_1) := uF BK266 1
    have hfz30_0 := blk_frozen BK266.out 0
    have hfz30_1 := blk_frozen BK266.out 1
    go_wp2
    go_meet
    case rel => exact ⟨_, (true), (by first | rfl | (simp; done) | (simp [*]; done)), H', ⟨by first | omega | exact Nat.le_refl _⟩, ⟨uT2 HO272 BK278 (fun _ hk => trivial)⟩, ⟨uT2 HO277 BK278 (fun _ hk => trivial)⟩, ⟨uZ BK266 NB266_278⟩, ⟨uZ BK273 NB273_278⟩, ⟨by (with_reducible repeat (first | refine blk_drewN ?_ _ | refine blk_drew ?_ | refine blk_alloc ?_ _)); refine blk_put (cs := #[.int .i64 t274, .slice none 0 0]) ?_ 1 _ rfl; (with_reducible repeat (first | refine blk_drewN ?_ _ | refine blk_drew ?_ | refine blk_alloc ?_ _)); refine blk_put (cs := #[.int .i64 0, .slice none 0 0]) ?_ 0 _ rfl; (with_reducible repeat (first | refine blk_drewN ?_ _ | refine blk_drew ?_ | refine blk_alloc ?_ _)); exact BK278.out⟩, ⟨uB3 HB GE266 GE273 GE278⟩⟩
   as_aux_lemma =>
   rw [if_neg c27] at H
   have c27b0 : ((l2.length : Int) == 0) = false := beq_eq_false_iff_ne.mpr c27
   have c27b1 : ((l2.length : Int) != 0) = true := bne_iff_ne.mpr c27
   have c27b2 : ¬ (l2 = []) := fun h_ => c27 (by rw [h_]; rfl)
   replace H := Option.bind_eq_some_iff.mp H
   obtain ⟨t279, A310, H⟩ := H
   replace H : (if t279.isNone = true then (colloquylaw20_MonBack.j0 k l0 l2 false y270 t274 t275) else (colloquylaw20_MonBack.j0 k l0 l2 true y270 t274 t275)) = some r := H
   have A31 := Aside0.mk A310
   clear A310
   rcases t279 with _ | q280
   ·as_aux_lemma =>
    have H1 : (colloquylaw20_MonBack.j0 k l0 l2 false y270 t274 t275) = some r := by rw [if_pos (show (none : Option Int).isNone = true by rfl)] at H; exact H
    clear H
    have H := H1
    clear H1
    try simp only [errW_none, errW_some]
    have H' := Aside0.mk H
    clear H
    have hnb32 := NB266_273.out
    have hnc32 := NB273_266.out
    have hnb33 := NB266_278.out
    have hnc33 := NB278_266.out
    have hcz34_0 : w17.cell? ⟨gb266, 0, none⟩ = some (.int .i64 a1_0) := uF BK266 0
    have hcz34_1 : w17.cell? ⟨gb266, 1, none⟩ = some (.slice A1_1 l1_1.length c1_1) := uF BK266 1
    have hfz34_0 := blk_frozen BK266.out 0
    have hfz34_1 := blk_frozen BK266.out 1
    have hnb35 := NB273_278.out
    have hnc35 := NB278_273.out
    have hcz36_0 : w17.cell? ⟨gb273, 0, none⟩ = some (.slice Ao11 y270.length co11) := uF BK273 0
    have hfz36_0 := blk_frozen BK273.out 0
    have hcz37_0 : w17.cell? ⟨gb278, 0, none⟩ = some (.int .i64 0) := uF BK278 0
    have hcz37_1 : w17.cell? ⟨gb278, 1, none⟩ = some (.slice none 0 0) := uF BK278 1
    have hfz37_0 := blk_frozen BK278.out 0
    have hfz37_1 := blk_frozen BK278.out 1
    go_wp2_with (first | (go_at_call 10; (with_reducible refine (mon_Check.calls k _ _ y270 t274 _ _ t275 none _ ?side1 ?side2 ?side3 ?side4 A31.out).mono ?_); (case side1 => refine (Kd.R_reads' (e := 5) (base := w.heap.size) (ok := fun k_ => True) (n := y270.length) (c := co11) ?_).2.2; exact (uT HO272 BK278)); (case side2 => exact (Kd.R_reads' HO272.out).2.1); (case side3 => refine (Kd.R_reads' (e := 58) (base := w.heap.size) (ok := fun k_ => True) (n := t275.length) (c := co21) ?_).2.2; exact (uT HO277 BK278)); (case side4 => exact (Kd.R_reads' HO277.out).2.1); rintro e w38 ⟨rfl, hb⟩; replace HO272 := Aside0.mk (Kd.R_below (uT HO272 BK278) hb); replace HO277 := Aside0.mk (Kd.R_below (uT HO277 BK278) hb); replace BK266 := uX BK266 NB266_278 hb; replace BK273 := uX BK273 NB273_278 hb; replace BK278 := Aside0.mk (blk_below (g := gb278) (o := .cells #[.int .i64 t274, .slice Ao21 t275.length co21] 34 (0, 0)) (by (with_reducible repeat (first | refine blk_drewN ?_ _ | refine blk_drew ?_ | refine blk_alloc ?_ _)); refine blk_put (cs := #[.int .i64 t274, .slice none 0 0]) ?_ 1 _ rfl; (with_reducible repeat (first | refine blk_drewN ?_ _ | refine blk_drew ?_ | refine blk_alloc ?_ _)); refine blk_put (cs := #[.int .i64 0, .slice none 0 0]) ?_ 0 _ rfl; (with_reducible repeat (first | refine blk_drewN ?_ _ | refine blk_drew ?_ | refine blk_alloc ?_ _)); exact BK278.out) hb); replace HB := Aside0.mk (below_step (uB3 HB GE266 GE273 GE278) hb); (try clear hb); (try clear hb2); (try clear hk); (try clear hi); (try simp only [errW_none, errW_some])))
    go_meet
    case rel => exact ⟨_, (false), (by first | rfl | (simp; done) | (simp [*]; done)), H', ⟨by first | omega | exact Nat.le_refl _⟩, ⟨uR HO272⟩, ⟨uR HO277⟩, ⟨uK BK266⟩, ⟨uK BK273⟩, ⟨uK BK278⟩, ⟨uB3 HB GE266 GE273 GE278⟩⟩
   have H1 : (colloquylaw20_MonBack.j0 k l0 l2 true y270 t274 t275) = some r := by rw [if_neg (show ¬ (some q280).isNone = true by simp)] at H; exact H
   clear H
   have H := H1
   clear H1
   try simp only [errW_none, errW_some]
   have H' := Aside0.mk H
   clear H
   have hnb39 := NB266_273.out
   have hnc39 := NB273_266.out
   have hnb40 := NB266_278.out
   have hnc40 := NB278_266.out
   have hcz41_0 : w17.cell? ⟨gb266, 0, none⟩ = some (.int .i64 a1_0) := uF BK266 0
   have hcz41_1 : w17.cell? ⟨gb266, 1, none⟩ = some (.slice A1_1 l1_1.length c1_1) := uF BK266 1
   have hfz41_0 := blk_frozen BK266.out 0
   have hfz41_1 := blk_frozen BK266.out 1
   have hnb42 := NB273_278.out
   have hnc42 := NB278_273.out
   have hcz43_0 : w17.cell? ⟨gb273, 0, none⟩ = some (.slice Ao11 y270.length co11) := uF BK273 0
   have hfz43_0 := blk_frozen BK273.out 0
   have hcz44_0 : w17.cell? ⟨gb278, 0, none⟩ = some (.int .i64 0) := uF BK278 0
   have hcz44_1 : w17.cell? ⟨gb278, 1, none⟩ = some (.slice none 0 0) := uF BK278 1
   have hfz44_0 := blk_frozen BK278.out 0
   have hfz44_1 := blk_frozen BK278.out 1
   go_wp2_with (first | (go_at_call 10; (with_reducible refine (mon_Check.calls k _ _ y270 t274 _ _ t275 (some q280) _ ?side1 ?side2 ?side3 ?side4 A31.out).mono ?_); (case side1 => refine (Kd.R_reads' (e := 5) (base := w.heap.size) (ok := fun k_ => True) (n := y270.length) (c := co11) ?_).2.2; exact (uT HO272 BK278)); (case side2 => exact (Kd.R_reads' HO272.out).2.1); (case side3 => refine (Kd.R_reads' (e := 58) (base := w.heap.size) (ok := fun k_ => True) (n := t275.length) (c := co21) ?_).2.2; exact (uT HO277 BK278)); (case side4 => exact (Kd.R_reads' HO277.out).2.1); rintro e w45 ⟨rfl, hb⟩; replace HO272 := Aside0.mk (Kd.R_below (uT HO272 BK278) hb); replace HO277 := Aside0.mk (Kd.R_below (uT HO277 BK278) hb); replace BK266 := uX BK266 NB266_278 hb; replace BK273 := uX BK273 NB273_278 hb; replace BK278 := Aside0.mk (blk_below (g := gb278) (o := .cells #[.int .i64 t274, .slice Ao21 t275.length co21] 34 (0, 0)) (by (with_reducible repeat (first | refine blk_drewN ?_ _ | refine blk_drew ?_ | refine blk_alloc ?_ _)); refine blk_put (cs := #[.int .i64 t274, .slice none 0 0]) ?_ 1 _ rfl; (with_reducible repeat (first | refine blk_drewN ?_ _ | refine blk_drew ?_ | refine blk_alloc ?_ _)); refine blk_put (cs := #[.int .i64 0, .slice none 0 0]) ?_ 0 _ rfl; (with_reducible repeat (first | refine blk_drewN ?_ _ | refine blk_drew ?_ | refine blk_alloc ?_ _)); exact BK278.out) hb); replace HB := Aside0.mk (below_step (uB3 HB GE266 GE273 GE278) hb); (try clear hb); (try clear hb2); (try clear hk); (try clear hi); (try simp only [errW_none, errW_some])))
   go_meet
   case rel => exact ⟨_, (true), (by first | rfl | (simp; done) | (simp [*]; done)), H', ⟨by first | omega | exact Nat.le_refl _⟩, ⟨uR HO272⟩, ⟨uR HO277⟩, ⟨uK BK266⟩, ⟨uK BK273⟩, ⟨uK BK278⟩, ⟨uB3 HB GE266 GE273 GE278⟩⟩
  case rest =>
  clear HC6
  try clear c1
  try clear c2
  try clear p2
  try clear q2
  try clear c3
  try clear c4
  try clear c8
  try clear c13
  try clear c18
  try clear c19
  try clear c22
  try clear c22b0
  try clear c22b1
  try clear c23
  try clear c23b0
  try clear c23b1
  try clear c24
  try clear c25
  try clear c27
  try clear c27b0
  try clear c27b1
  try clear c27b2
  try clear c28
  try clear q28
  try clear c29
  try clear c32
  try clear c33
  try clear c35
  try clear c39
  try clear c40
  try clear c42
  try clear hcz14_0
  try clear hcz15_0
  try clear hcz15_1
  try clear hcz20_0
  try clear hcz20_1
  try clear hcz26_0
  try clear hcz26_1
  try clear hcz30_0
  try clear hcz30_1
  try clear hcz34_0
  try clear hcz34_1
  try clear hcz36_0
  try clear hcz37_0
  try clear hcz37_1
  try clear hcz41_0
  try clear hcz41_1
  try clear hcz43_0
  try clear hcz44_0
  try clear hcz44_1
  try clear hfz14_0
  try clear hfz15_0
  try clear hfz15_1
  try clear hfz20_0
  try clear hfz20_1
  try clear hfz26_0
  try clear hfz26_1
  try clear hfz30_0
  try clear hfz30_1
  try clear hfz34_0
  try clear hfz34_1
  try clear hfz36_0
  try clear hfz37_0
  try clear hfz37_1
  try clear hfz41_0
  try clear hfz41_1
  try clear hfz43_0
  try clear hfz44_0
  try clear hfz44_1
  try clear q280
  obtain ⟨kq, x41_5, rfl, HA, HJ5, HO_274000, HO_279001, BK266, BK273, BK278, HB⟩ := hcut
  cases kq with
  | zero => exact absurd HA.out (by simp [colloquylaw20_MonBack.j0])
  | succ kj5 =>
  have H := HA.out
  clear HA
  simp only [colloquylaw20_MonBack.j0] at H
  by_cases c46 : x41_5 = true
  ·as_aux_lemma =>
   subst c46
   have H1 : ((colloquylaw20_sure.f kj5).bind fun t281 => (some t281)) = some r := by rw [if_pos rfl] at H; exact H
   clear H
   have H := H1
   clear H1
   replace H := Option.bind_eq_some_iff.mp H
   obtain ⟨t281, A470, H⟩ := H
   replace H : (some t281) = some r := H
   have A47 := Aside0.mk A470
   clear A470
   obtain rfl := Option.some.inj H
   go_wp2_with (first | ((with_reducible refine gate_callee (f := 7) rfl ?_); refine goesL_ (some 42) rfl rfl Tryd.func7 (by kernel_rfl) rfl #[] rfl uC ?_; (with_reducible refine (colloquylaw20_sure.calls kj5  t281 _ ?side1 A47.out).mono ?_); (case side1 => exact HG.out.below (uB3 HB GE266 GE273 GE278)); rintro e w48 ⟨rfl, hb⟩; refine ⟨_, rfl, ?_⟩; replace BK266 := uD BK266 hb; replace BK273 := uD BK273 hb; replace BK278 := uD BK278 hb; replace HB := Aside0.mk (below_step (uB3 HB GE266 GE273 GE278) hb); (try clear hb); (try clear hb2); (try clear hk); (try clear hi)))
   go_ret
   exact ⟨by first | rfl | (simp [errW_none, errW_some] <;> rfl) | (simp [*, errW_none, errW_some] <;> rfl), uB3 HB GE266 GE273 GE278⟩
  replace c46 := Bool.eq_false_iff.mpr c46
  subst c46
  have H1 : (if 0 < (l2.length : Int) then ((mon_Mon_Pc.f t274 t275).bind fun t284 => ((lattice_Lat_Leq.f kj5 y270 t284 ((rd_T28 l2 0).f2)).bind fun t285 => (if t285 = true then (if ((rd_T28 l2 0).f1) < 0 then ((colloquylaw20_sure.f kj5).bind fun t286 => (some t286)) else (if ((rd_T28 l2 0).f1) ≥ (l0.length : Int) then ((colloquylaw20_sure.f kj5).bind fun t287 => (some t287)) else ((lattice_Lat_Leq.f kj5 y270 ((rd_T28 l2 0).f1) ((rd_T28 l2 0).f2)).bind fun t288 => (if t288 = true then ((colloquylaw20_sure.f kj5).bind fun t289 => (some t289)) else ((mon_Else.f kj5 y270 t274 t275 ((rd_T28 l2 0).f0) ((rd_T28 l2 0).f1) 0).bind fun bt290 => (colloquylaw20_MonBack.l0 kj5 l0 l2 ((rd_T28 l2 0).f2) 1 y270 t274 t275 ((rd_T28 l2 0).f0) ((rd_T28 l2 0).f1) ((rd_T28 l2 0).f2) ((rd_T28 l2 0).f3) bt290.1 bt290.2)))))) else ((colloquylaw20_sure.f kj5).bind fun t321 => (some t321))))) else (none)) = some r := by rw [if_neg (show ¬ (false = true) by decide)] at H; exact H
  clear H
  have H := H1
  clear H1
  by_cases c49 : 0 < (l2.length : Int)
  ·as_aux_lemma =>
   rw [if_pos c49] at H
   have c49b0 : decide (0 < (l2.length : Int)) = true := decide_eq_true c49
   have c49b1 : decide (0 < l2.length) = true := decide_eq_true (by omega)
   clear c49
   replace H := Option.bind_eq_some_iff.mp H
   obtain ⟨t284, A500, H⟩ := H
   replace H : ((lattice_Lat_Leq.f kj5 y270 t284 ((rd_T28 l2 0).f2)).bind fun t285 => (if t285 = true then (if ((rd_T28 l2 0).f1) < 0 then ((colloquylaw20_sure.f kj5).bind fun t286 => (some t286)) else (if ((rd_T28 l2 0).f1) ≥ (l0.length : Int) then ((colloquylaw20_sure.f kj5).bind fun t287 => (some t287)) else ((lattice_Lat_Leq.f kj5 y270 ((rd_T28 l2 0).f1) ((rd_T28 l2 0).f2)).bind fun t288 => (if t288 = true then ((colloquylaw20_sure.f kj5).bind fun t289 => (some t289)) else ((mon_Else.f kj5 y270 t274 t275 ((rd_T28 l2 0).f0) ((rd_T28 l2 0).f1) 0).bind fun bt290 => (colloquylaw20_MonBack.l0 kj5 l0 l2 ((rd_T28 l2 0).f2) 1 y270 t274 t275 ((rd_T28 l2 0).f0) ((rd_T28 l2 0).f1) ((rd_T28 l2 0).f2) ((rd_T28 l2 0).f3) bt290.1 bt290.2)))))) else ((colloquylaw20_sure.f kj5).bind fun t321 => (some t321)))) = some r := H
   have A50 := Aside0.mk A500
   clear A500
   replace H := Option.bind_eq_some_iff.mp H
   obtain ⟨t285, A510, H⟩ := H
   replace H : (if t285 = true then (if ((rd_T28 l2 0).f1) < 0 then ((colloquylaw20_sure.f kj5).bind fun t286 => (some t286)) else (if ((rd_T28 l2 0).f1) ≥ (l0.length : Int) then ((colloquylaw20_sure.f kj5).bind fun t287 => (some t287)) else ((lattice_Lat_Leq.f kj5 y270 ((rd_T28 l2 0).f1) ((rd_T28 l2 0).f2)).bind fun t288 => (if t288 = true then ((colloquylaw20_sure.f kj5).bind fun t289 => (some t289)) else ((mon_Else.f kj5 y270 t274 t275 ((rd_T28 l2 0).f0) ((rd_T28 l2 0).f1) 0).bind fun bt290 => (colloquylaw20_MonBack.l0 kj5 l0 l2 ((rd_T28 l2 0).f2) 1 y270 t274 t275 ((rd_T28 l2 0).f0) ((rd_T28 l2 0).f1) ((rd_T28 l2 0).f2) ((rd_T28 l2 0).f3) bt290.1 bt290.2)))))) else ((colloquylaw20_sure.f kj5).bind fun t321 => (some t321))) = some r := H
   have A51 := Aside0.mk A510
   clear A510
   by_cases c52 : t285 = true
   ·as_aux_lemma =>
    subst c52
    have H1 : (if ((rd_T28 l2 0).f1) < 0 then ((colloquylaw20_sure.f kj5).bind fun t286 => (some t286)) else (if ((rd_T28 l2 0).f1) ≥ (l0.length : Int) then ((colloquylaw20_sure.f kj5).bind fun t287 => (some t287)) else ((lattice_Lat_Leq.f kj5 y270 ((rd_T28 l2 0).f1) ((rd_T28 l2 0).f2)).bind fun t288 => (if t288 = true then ((colloquylaw20_sure.f kj5).bind fun t289 => (some t289)) else ((mon_Else.f kj5 y270 t274 t275 ((rd_T28 l2 0).f0) ((rd_T28 l2 0).f1) 0).bind fun bt290 => (colloquylaw20_MonBack.l0 kj5 l0 l2 ((rd_T28 l2 0).f2) 1 y270 t274 t275 ((rd_T28 l2 0).f0) ((rd_T28 l2 0).f1) ((rd_T28 l2 0).f2) ((rd_T28 l2 0).f3) bt290.1 bt290.2)))))) = some r := by rw [if_pos rfl] at H; exact H
    clear H
    have H := H1
    clear H1
    by_cases c53 : ((rd_T28 l2 0).f1) < 0
    ·as_aux_lemma =>
     rw [if_pos c53] at H
     have c53b0 : decide (((rd_T28 l2 0).f1) < 0) = true := decide_eq_true c53
     clear c53
     replace H := Option.bind_eq_some_iff.mp H
     obtain ⟨t286, A540, H⟩ := H
     replace H : (some t286) = some r := H
     have A54 := Aside0.mk A540
     clear A540
     obtain rfl := Option.some.inj H
     have p282 : 0 ≤ (0 : Int) := (by omega)
     have q282 : 0 < (l2.length : Int) := of_decide_eq_true (by first | (with_reducible assumption) | assumption)
     obtain ⟨ad282, A282_3, c282_3, e282, hx282_0, hx282_1, hx282_2, hx282_3, hl282_3, hi282_3⟩ := at_T28 HR2.out 0 p282 q282
     cases e282
     have qi282 : (0 < l2.length) = True := eq_true (by omega)
     (try rw [show ((0 : Int)).toNat = 0 from rfl] at hx282_0)
     (try rw [show 0 * 4 = 0 from rfl] at hx282_0)
     (try rw [Addr.add_zero'] at hx282_0)
     (try rw [show ((0 : Int)).toNat = 0 from rfl] at hx282_1)
     (try rw [show 0 * 4 = 0 from rfl] at hx282_1)
     (try rw [Addr.add_zero'] at hx282_1)
     (try rw [show ((0 : Int)).toNat = 0 from rfl] at hx282_2)
     (try rw [show 0 * 4 = 0 from rfl] at hx282_2)
     (try rw [Addr.add_zero'] at hx282_2)
     (try rw [show ((0 : Int)).toNat = 0 from rfl] at hx282_3)
     (try rw [show 0 * 4 = 0 from rfl] at hx282_3)
     (try rw [Addr.add_zero'] at hx282_3)
     replace hx282_0 := (HB.out.cell (World.block_lt_of_cell? w _ hx282_0)).trans hx282_0
     replace hx282_1 := (HB.out.cell (World.block_lt_of_cell? w _ hx282_1)).trans hx282_1
     replace hx282_2 := (HB.out.cell (World.block_lt_of_cell? w _ hx282_2)).trans hx282_2
     replace hx282_3 := (HB.out.cell (World.block_lt_of_cell? w _ hx282_3)).trans hx282_3
     have HR282_3 := Aside0.mk hi282_3
     have HC282_3 := Aside0.mk hl282_3
     clear hi282_3 hl282_3
     replace p282 := eq_true p282
     replace q282 := eq_true q282
     try go_wp2_with (first | ((with_reducible refine gate_dst (N := 9) rfl ?_); (try (refine gate_guard (by rfl) ?_; dsimp only)); refine box_event ?hg (N := 9) ?hd (cs := #[.int .i64 0, .int .i64 0, .int .i64 0, .slice none 0 0]) (t := 28) ?hr ?_; (case hd => rfl); (case hg => rfl); (case hr => first | (go_simp; done) | (go_simp; rfl)); intro gb283 hg w55 hbox hb; replace HO_274000 := uRd HO_274000 hb; replace HO_279001 := uRd HO_279001 hb; have BK283 := Aside0.mk (hbox); have GW283 := Aside0.mk ((by rw [hg]; exact (below_size (uB3 HB GE266 GE273 GE278)) : w.heap.size ≤ gb283)); have GE283 := Aside0.mk ((by rw [hg]; exact (below_size (uB3 HB GE266 GE273 GE278)) : w.heap.size ≤ gb283)); replace HB := Aside0.mk (below_step (uB3 HB GE266 GE273 GE278) hb); have NB266_283 := uN1 BK266 hg; have NB283_266 := uN2 BK266 hg; replace BK266 := uD BK266 hb; have NB273_283 := uN1 BK273 hg; have NB283_273 := uN2 BK273 hg; replace BK273 := uD BK273 hb; have NB278_283 := uN1 BK278 hg; have NB283_278 := uN2 BK278 hg; replace BK278 := uD BK278 hb; clear hb hbox hg; have hnb56 := NB283_266.out; have hnc56 := NB266_283.out; have hnb57 := NB283_273.out; have hnc57 := NB273_283.out; have hnb58 := NB283_278.out; have hnc58 := NB278_283.out; have hcz59_0 : w55.cell? ⟨gb283, 0, none⟩ = some (.int .i64 0) := uF BK283 0; have hcz59_1 : w55.cell? ⟨gb283, 1, none⟩ = some (.int .i64 0) := uF BK283 1; have hcz59_2 : w55.cell? ⟨gb283, 2, none⟩ = some (.int .i64 0) := uF BK283 2; have hcz59_3 : w55.cell? ⟨gb283, 3, none⟩ = some (.slice none 0 0) := uF BK283 3; have hfz59_0 := blk_frozen BK283.out 0; have hfz59_1 := blk_frozen BK283.out 1; have hfz59_2 := blk_frozen BK283.out 2; have hfz59_3 := blk_frozen BK283.out 3))
     obtain ⟨w60, hW_⟩ : ∃ w_, w_ = ((((w55.setCell ⟨gb283, 0, none⟩ (.int .i64 ((rd_T28 l2 0).f0))).setCell ⟨gb283, 1, none⟩ (.int .i64 ((rd_T28 l2 0).f1))).setCell ⟨gb283, 2, none⟩ (.int .i64 ((rd_T28 l2 0).f2))).setCell ⟨gb283, 3, none⟩ (.slice A282_3 ((rd_T28 l2 0).f3).length c282_3)) := ⟨_, rfl⟩
     replace HO_274000 : Aside0 (Kd.R (Kd.int .u8) 5 w60 w.heap.size (fun _ => True) (.slice Ao11 y270.length co11) y270) := ⟨by rw [hW_]; exact uT2 HO_274000 BK283 (fun _ hk => trivial)⟩
     replace HO_279001 : Aside0 (Kd.R k58 58 w60 w.heap.size (fun _ => True) (.slice Ao21 t275.length co21) t275) := ⟨by rw [hW_]; exact uT2 HO_279001 BK283 (fun _ hk => trivial)⟩
     replace BK266 := uY BK266 NB266_283 hW_
     replace BK273 := uY BK273 NB273_283 hW_
     replace BK278 := uY BK278 NB278_283 hW_
     replace BK283 : Aside0 (w60.heap[gb283]? = some (.cells #[.int .i64 ((rd_T28 l2 0).f0), .int .i64 ((rd_T28 l2 0).f1), .int .i64 ((rd_T28 l2 0).f2), .slice A282_3 ((rd_T28 l2 0).f3).length c282_3] 28 (0, 0))) := ⟨by rw [hW_]; (with_reducible repeat (first | refine blk_drewN ?_ _ | refine blk_drew ?_ | refine blk_alloc ?_ _)); refine blk_put (cs := #[.int .i64 ((rd_T28 l2 0).f0), .int .i64 ((rd_T28 l2 0).f1), .int .i64 ((rd_T28 l2 0).f2), .slice none 0 0]) ?_ 3 _ rfl; (with_reducible repeat (first | refine blk_drewN ?_ _ | refine blk_drew ?_ | refine blk_alloc ?_ _)); refine blk_put (cs := #[.int .i64 ((rd_T28 l2 0).f0), .int .i64 ((rd_T28 l2 0).f1), .int .i64 0, .slice none 0 0]) ?_ 2 _ rfl; (with_reducible repeat (first | refine blk_drewN ?_ _ | refine blk_drew ?_ | refine blk_alloc ?_ _)); refine blk_put (cs := #[.int .i64 ((rd_T28 l2 0).f0), .int .i64 0, .int .i64 0, .slice none 0 0]) ?_ 1 _ rfl; (with_reducible repeat (first | refine blk_drewN ?_ _ | refine blk_drew ?_ | refine blk_alloc ?_ _)); refine blk_put (cs := #[.int .i64 0, .int .i64 0, .int .i64 0, .slice none 0 0]) ?_ 0 _ rfl; (with_reducible repeat (first | refine blk_drewN ?_ _ | refine blk_drew ?_ | refine blk_alloc ?_ _)); exact BK283.out⟩
     replace HB : Aside0 (Below w.heap.size w w60) := ⟨by rw [hW_]; exact uB4 HB GE266 GE273 GE278 GE283⟩
     rw [← hW_]
     clear hW_
     replace HO_274000 := Aside0.mk (Kd.R_drew HO_274000.out)
     replace HO_279001 := Aside0.mk (Kd.R_drew HO_279001.out)
     replace BK266 := Aside0.mk (blk_drew BK266.out)
     replace BK273 := Aside0.mk (blk_drew BK273.out)
     replace BK278 := Aside0.mk (blk_drew BK278.out)
     replace BK283 := Aside0.mk (blk_drew BK283.out)
     replace HB := Aside0.mk (below_drew1 HB.out)
     refine start_ (n := 25) (S := fun w' => w'.cell? ⟨gb273, 0, none⟩ = some (.slice Ao11 y270.length co11) ∧ w'.cell? ⟨gb278, 0, none⟩ = some (.int .i64 t274) ∧ w'.cell? ⟨gb278, 1, none⟩ = some (.slice Ao21 t275.length co21) ∧ w'.cell? ⟨gb283, 0, none⟩ = some (.int .i64 ((rd_T28 l2 0).f0)) ∧ w'.cell? ⟨gb283, 1, none⟩ = some (.int .i64 ((rd_T28 l2 0).f1)) ∧ w'.cell? ⟨gb283, 2, none⟩ = some (.int .i64 ((rd_T28 l2 0).f2)) ∧ w'.cell? ⟨gb283, 3, none⟩ = some (.slice A282_3 ((rd_T28 l2 0).f3).length c282_3)) (ds := []) u_f25 (by kernel_rfl) rfl rfl ⟨uF BK273 0, uF BK278 0, uF BK278 1, uF BK283 0, uF BK283 1, uF BK283 2, uF BK283 3⟩ (fun hHeld => ?_); refine with_tabW colloquylaw20_MonBack.tab7 colloquylaw20_MonBack.bits7 (fun HT_ HW_ => ?_)
     generalize w60.drew = w61 at HO_274000 HO_279001 BK266 BK273 BK278 BK283 HB hHeld ⊢
     refine uPu 3 51 u_f3t1f21 (v := ?_) (a' := ?_) rfl rfl HT_ ?_ ?_ ?_
     rotate_left
     ·intro w'
      go_simp
      with_reducible rfl
     rotate_left
     ·exact uP
     refine uTk 0 48 u_t1f2t1f21 (v := ?_) (a' := ?_) rfl rfl HT_ HW_ hHeld ?_ ?_ ?_
     rotate_left
     ·rintro w' ⟨s0, s1, s2, s3, s4, s5, s6⟩
      go_simp
      with_reducible rfl
     rotate_left
     ·exact uP
     refine uTk 1 49 u_t2f1t1f21 (v := ?_) (a' := ?_) rfl rfl HT_ HW_ hHeld ?_ ?_ ?_
     rotate_left
     ·rintro w' ⟨s0, s1, s2, s3, s4, s5, s6⟩
      go_simp
      with_reducible rfl
     rotate_left
     ·exact uP
     refine one_ (i := 2) (N := some 50) u_t4f21 rfl rfl (one_of HT_.out (by kernel_rfl)) (by decide) (fun K hK => ?_)
     refine goes_ Tryd.func12 (by kernel_rfl) rfl #[.agg #[.int .i64 t274, .slice Ao21 t275.length co21]] (by rfl) rfl rfl uC ?_
     with_reducible refine (mon_Mon_Pc.calls t274 _ _ t275 t284 _ ?side1 ?side2 A50.out).mono ?_
     (case side1 => exact uS (Kd.R_reads' HO_279001.out).2.2)
     (case side2 => exact (Kd.R_reads' HO_279001.out).2.1)
     rintro e w62 ⟨rfl, hb⟩
     refine ⟨_, rfl, ?_⟩
     replace HO_274000 := uRd HO_274000 hb
     replace HO_279001 := uRd HO_279001 hb
     replace BK266 := uD BK266 hb
     replace BK273 := uD BK273 hb
     replace BK278 := uD BK278 hb
     replace BK283 := uD BK283 hb
     replace HB := Aside0.mk (below_step (uB4 HB GE266 GE273 GE278 GE283) hb)
     (try clear hb)
     (try clear hb2)
     (try clear hk)
     (try clear hi)
     refine hK.out _ _ ⟨uF BK273 0, uF BK278 0, uF BK278 1, uF BK283 0, uF BK283 1, uF BK283 2, uF BK283 3⟩ (fun hHeld => ?_)
     clear hK K
     refine norm_ (a' := ?_) ?_ ?_
     rotate_left
     ·show Act.put _ (some 50) _ = _
      exact uP
     refine one_ (i := 4) (N := some 52) u_t5f20 rfl rfl (one_of HT_.out (by kernel_rfl)) (by decide) (fun K hK => ?_)
     refine goes_ Tryd.func25 (by kernel_rfl) rfl #[.agg #[.slice Ao11 y270.length co11], .int .i64 t284, .int .i64 ((rd_T28 l2 0).f2)] (by rfl) rfl rfl uC ?_
     with_reducible refine (lattice_Lat_Leq.calls kj5 _ _ y270 t284 ((rd_T28 l2 0).f2) true _ ?side1 ?side2 A51.out).mono ?_
     (case side1 => exact uS (Kd.R_reads' HO_274000.out).2.2)
     (case side2 => exact (Kd.R_reads' HO_274000.out).2.1)
     rintro e w63 ⟨rfl, hb⟩
     refine ⟨_, rfl, ?_⟩
     replace HO_274000 := uRd HO_274000 hb
     replace HO_279001 := uRd HO_279001 hb
     replace BK266 := uD BK266 hb
     replace BK273 := uD BK273 hb
     replace BK278 := uD BK278 hb
     replace BK283 := uD BK283 hb
     replace HB := Aside0.mk (below_step (uB4 HB GE266 GE273 GE278 GE283) hb)
     (try clear hb)
     (try clear hb2)
     (try clear hk)
     (try clear hi)
     refine hK.out _ _ ⟨uF BK273 0, uF BK278 0, uF BK278 1, uF BK283 0, uF BK283 1, uF BK283 2, uF BK283 3⟩ (fun hHeld => ?_)
     clear hK K
     refine norm_ (a' := ?_) ?_ ?_
     rotate_left
     ·show Act.put _ (some 52) _ = _
      exact uP
     refine uPu 5 53 u_t6f19 (v := ?_) (a' := ?_) rfl rfl HT_ ?_ ?_ ?_
     rotate_left
     ·intro w'
      go_simp
      with_reducible rfl
     rotate_left
     ·exact uP
     refine uPu 6 54 u_t7f18 (v := ?_) (a' := ?_) rfl rfl HT_ ?_ ?_ ?_
     rotate_left
     ·intro w'
      go_simp
      with_reducible rfl
     rotate_left
     ·exact uP
     refine uPu 7 55 u_t8f17 (v := ?_) (a' := ?_) rfl rfl HT_ ?_ ?_ ?_
     rotate_left
     ·intro w'
      go_simp
      with_reducible rfl
     rotate_left
     ·exact uP
     refine uTk 8 56 u_t9f16 (v := ?_) (a' := ?_) rfl rfl HT_ HW_ hHeld ?_ ?_ ?_
     rotate_left
     ·rintro w' ⟨s0, s1, s2, s3, s4, s5, s6⟩
      go_simp
      with_reducible rfl
     rotate_left
     ·exact uP
     refine uPu 9 57 u_t10f15 (v := ?_) (a' := ?_) rfl rfl HT_ ?_ ?_ ?_
     rotate_left
     ·intro w'
      go_simp
      with_reducible rfl
     rotate_left
     ·exact uP
     refine uPu 10 58 u_t11f14 (v := ?_) (a' := ?_) rfl rfl HT_ ?_ ?_ ?_
     rotate_left
     ·intro w'
      go_simp
      with_reducible rfl
     rotate_left
     ·exact uP
     refine uPu 11 59 u_t12f13 (v := ?_) (a' := ?_) rfl rfl HT_ ?_ ?_ ?_
     rotate_left
     ·intro w'
      go_simp
      with_reducible rfl
     rotate_left
     ·exact uP
     refine uPn 12 60 u_t13f12 (a' := ?_) rfl rfl HT_ ?_ ?_
     rotate_left
     ·exact uP
     refine uPn 13 61 u_t14f11 (a' := ?_) rfl rfl HT_ ?_ ?_
     rotate_left
     ·exact uP
     refine uPn 14 62 u_t15f10 (a' := ?_) rfl rfl HT_ ?_ ?_
     rotate_left
     ·exact uP
     refine uPn 15 63 u_t16f9 (a' := ?_) rfl rfl HT_ ?_ ?_
     rotate_left
     ·exact uP
     refine uPn 16 64 u_t17f8 (a' := ?_) rfl rfl HT_ ?_ ?_
     rotate_left
     ·exact uP
     refine uPu 17 65 u_t18f7 (v := ?_) (a' := ?_) rfl rfl HT_ ?_ ?_ ?_
     rotate_left
     ·intro w'
      go_simp
      with_reducible rfl
     rotate_left
     ·exact uP
     refine uPu 18 66 u_t19f6 (v := ?_) (a' := ?_) rfl rfl HT_ ?_ ?_ ?_
     rotate_left
     ·intro w'
      go_simp
      with_reducible rfl
     rotate_left
     ·exact uP
     refine uPn 19 67 u_t20f5 (a' := ?_) rfl rfl HT_ ?_ ?_
     rotate_left
     ·exact uP
     refine uPn 20 68 u_t21f4 (a' := ?_) rfl rfl HT_ ?_ ?_
     rotate_left
     ·exact uP
     refine uPn 21 69 u_t22f3 (a' := ?_) rfl rfl HT_ ?_ ?_
     rotate_left
     ·exact uP
     refine uPn 22 70 u_t23f2 (a' := ?_) rfl rfl HT_ ?_ ?_
     rotate_left
     ·exact uP
     refine uPn 23 71 u_t24f1 (a' := ?_) rfl rfl HT_ ?_ ?_
     rotate_left
     ·exact uP
     refine uPu 24 72 u_t25 (v := ?_) (a' := ?_) rfl rfl HT_ ?_ ?_ ?_
     rotate_left
     ·intro w'
      go_simp
      with_reducible rfl
     rotate_left
     ·exact uP
     refine done_ (done_of HT_.out (by kernel_rfl)) ?_
     try go_wp2_with (first | ((with_reducible refine gate_callee (f := 7) rfl ?_); refine goesL_ (some 73) rfl rfl Tryd.func7 (by kernel_rfl) rfl #[] rfl uC ?_; (with_reducible refine (colloquylaw20_sure.calls kj5  t286 _ ?side1 A54.out).mono ?_); (case side1 => exact HG.out.below (uB4 HB GE266 GE273 GE278 GE283)); rintro e w64 ⟨rfl, hb⟩; refine ⟨_, rfl, ?_⟩; replace BK266 := uD BK266 hb; replace BK273 := uD BK273 hb; replace BK278 := uD BK278 hb; replace BK283 := uD BK283 hb; replace HB := Aside0.mk (below_step (uB4 HB GE266 GE273 GE278 GE283) hb); (try clear hb); (try clear hb2); (try clear hk); (try clear hi)))
     go_ret
     exact ⟨by first | rfl | (simp [errW_none, errW_some] <;> rfl) | (simp [*, errW_none, errW_some] <;> rfl), uB4 HB GE266 GE273 GE278 GE283⟩
    as_aux_lemma =>
    rw [if_neg c53] at H
    have c53b0 : decide (((rd_T28 l2 0).f1) < 0) = false := decide_eq_false c53
    clear c53
    by_cases c65 : ((rd_T28 l2 0).f1) ≥ (l0.length : Int)
    ·as_aux_lemma =>
     rw [if_pos c65] at H
     have c65b0 : decide ((l0.length : Int) ≤ ((rd_T28 l2 0).f1)) = true := decide_eq_true c65
     clear c65
     replace H := Option.bind_eq_some_iff.mp H
     obtain ⟨t287, A660, H⟩ := H
     replace H : (some t287) = some r := H
     have A66 := Aside0.mk A660
     clear A660
     obtain rfl := Option.some.inj H
     have p282 : 0 ≤ (0 : Int) := (by omega)
     have q282 : 0 < (l2.length : Int) := of_decide_eq_true (by first | (with_reducible assumption) | assumption)
     obtain ⟨ad282, A282_3, c282_3, e282, hx282_0, hx282_1, hx282_2, hx282_3, hl282_3, hi282_3⟩ := at_T28 HR2.out 0 p282 q282
     cases e282
     have qi282 : (0 < l2.length) = True := eq_true (by omega)
     (try rw [show ((0 : Int)).toNat = 0 from rfl] at hx282_0)
     (try rw [show 0 * 4 = 0 from rfl] at hx282_0)
     (try rw [Addr.add_zero'] at hx282_0)
     (try rw [show ((0 : Int)).toNat = 0 from rfl] at hx282_1)
     (try rw [show 0 * 4 = 0 from rfl] at hx282_1)
     (try rw [Addr.add_zero'] at hx282_1)
     (try rw [show ((0 : Int)).toNat = 0 from rfl] at hx282_2)
     (try rw [show 0 * 4 = 0 from rfl] at hx282_2)
     (try rw [Addr.add_zero'] at hx282_2)
     (try rw [show ((0 : Int)).toNat = 0 from rfl] at hx282_3)
     (try rw [show 0 * 4 = 0 from rfl] at hx282_3)
     (try rw [Addr.add_zero'] at hx282_3)
     replace hx282_0 := (HB.out.cell (World.block_lt_of_cell? w _ hx282_0)).trans hx282_0
     replace hx282_1 := (HB.out.cell (World.block_lt_of_cell? w _ hx282_1)).trans hx282_1
     replace hx282_2 := (HB.out.cell (World.block_lt_of_cell? w _ hx282_2)).trans hx282_2
     replace hx282_3 := (HB.out.cell (World.block_lt_of_cell? w _ hx282_3)).trans hx282_3
     have HR282_3 := Aside0.mk hi282_3
     have HC282_3 := Aside0.mk hl282_3
     clear hi282_3 hl282_3
     replace p282 := eq_true p282
     replace q282 := eq_true q282
     try go_wp2_with (first | ((with_reducible refine gate_dst (N := 9) rfl ?_); (try (refine gate_guard (by rfl) ?_; dsimp only)); refine box_event ?hg (N := 9) ?hd (cs := #[.int .i64 0, .int .i64 0, .int .i64 0, .slice none 0 0]) (t := 28) ?hr ?_; (case hd => rfl); (case hg => rfl); (case hr => first | (go_simp; done) | (go_simp; rfl)); intro gb283 hg w67 hbox hb; replace HO_274000 := uRd HO_274000 hb; replace HO_279001 := uRd HO_279001 hb; have BK283 := Aside0.mk (hbox); have GW283 := Aside0.mk ((by rw [hg]; exact (below_size (uB3 HB GE266 GE273 GE278)) : w.heap.size ≤ gb283)); have GE283 := Aside0.mk ((by rw [hg]; exact (below_size (uB3 HB GE266 GE273 GE278)) : w.heap.size ≤ gb283)); replace HB := Aside0.mk (below_step (uB3 HB GE266 GE273 GE278) hb); have NB266_283 := uN1 BK266 hg; have NB283_266 := uN2 BK266 hg; replace BK266 := uD BK266 hb; have NB273_283 := uN1 BK273 hg; have NB283_273 := uN2 BK273 hg; replace BK273 := uD BK273 hb; have NB278_283 := uN1 BK278 hg; have NB283_278 := uN2 BK278 hg; replace BK278 := uD BK278 hb; clear hb hbox hg; have hnb68 := NB283_266.out; have hnc68 := NB266_283.out; have hnb69 := NB283_273.out; have hnc69 := NB273_283.out; have hnb70 := NB283_278.out; have hnc70 := NB278_283.out; have hcz71_0 : w67.cell? ⟨gb283, 0, none⟩ = some (.int .i64 0) := uF BK283 0; have hcz71_1 : w67.cell? ⟨gb283, 1, none⟩ = some (.int .i64 0) := uF BK283 1; have hcz71_2 : w67.cell? ⟨gb283, 2, none⟩ = some (.int .i64 0) := uF BK283 2; have hcz71_3 : w67.cell? ⟨gb283, 3, none⟩ = some (.slice none 0 0) := uF BK283 3; have hfz71_0 := blk_frozen BK283.out 0; have hfz71_1 := blk_frozen BK283.out 1; have hfz71_2 := blk_frozen BK283.out 2; have hfz71_3 := blk_frozen BK283.out 3))
     obtain ⟨w72, hW_⟩ : ∃ w_, w_ = ((((w67.setCell ⟨gb283, 0, none⟩ (.int .i64 ((rd_T28 l2 0).f0))).setCell ⟨gb283, 1, none⟩ (.int .i64 ((rd_T28 l2 0).f1))).setCell ⟨gb283, 2, none⟩ (.int .i64 ((rd_T28 l2 0).f2))).setCell ⟨gb283, 3, none⟩ (.slice A282_3 ((rd_T28 l2 0).f3).length c282_3)) := ⟨_, rfl⟩
     replace HO_274000 : Aside0 (Kd.R (Kd.int .u8) 5 w72 w.heap.size (fun _ => True) (.slice Ao11 y270.length co11) y270) := ⟨by rw [hW_]; exact uT2 HO_274000 BK283 (fun _ hk => trivial)⟩
     replace HO_279001 : Aside0 (Kd.R k58 58 w72 w.heap.size (fun _ => True) (.slice Ao21 t275.length co21) t275) := ⟨by rw [hW_]; exact uT2 HO_279001 BK283 (fun _ hk => trivial)⟩
     replace BK266 := uY BK266 NB266_283 hW_
     replace BK273 := uY BK273 NB273_283 hW_
     replace BK278 := uY BK278 NB278_283 hW_
     replace BK283 : Aside0 (w72.heap[gb283]? = some (.cells #[.int .i64 ((rd_T28 l2 0).f0), .int .i64 ((rd_T28 l2 0).f1), .int .i64 ((rd_T28 l2 0).f2), .slice A282_3 ((rd_T28 l2 0).f3).length c282_3] 28 (0, 0))) := ⟨by rw [hW_]; (with_reducible repeat (first | refine blk_drewN ?_ _ | refine blk_drew ?_ | refine blk_alloc ?_ _)); refine blk_put (cs := #[.int .i64 ((rd_T28 l2 0).f0), .int .i64 ((rd_T28 l2 0).f1), .int .i64 ((rd_T28 l2 0).f2), .slice none 0 0]) ?_ 3 _ rfl; (with_reducible repeat (first | refine blk_drewN ?_ _ | refine blk_drew ?_ | refine blk_alloc ?_ _)); refine blk_put (cs := #[.int .i64 ((rd_T28 l2 0).f0), .int .i64 ((rd_T28 l2 0).f1), .int .i64 0, .slice none 0 0]) ?_ 2 _ rfl; (with_reducible repeat (first | refine blk_drewN ?_ _ | refine blk_drew ?_ | refine blk_alloc ?_ _)); refine blk_put (cs := #[.int .i64 ((rd_T28 l2 0).f0), .int .i64 0, .int .i64 0, .slice none 0 0]) ?_ 1 _ rfl; (with_reducible repeat (first | refine blk_drewN ?_ _ | refine blk_drew ?_ | refine blk_alloc ?_ _)); refine blk_put (cs := #[.int .i64 0, .int .i64 0, .int .i64 0, .slice none 0 0]) ?_ 0 _ rfl; (with_reducible repeat (first | refine blk_drewN ?_ _ | refine blk_drew ?_ | refine blk_alloc ?_ _)); exact BK283.out⟩
     replace HB : Aside0 (Below w.heap.size w w72) := ⟨by rw [hW_]; exact uB4 HB GE266 GE273 GE278 GE283⟩
     rw [← hW_]
     clear hW_
     replace HO_274000 := Aside0.mk (Kd.R_drew HO_274000.out)
     replace HO_279001 := Aside0.mk (Kd.R_drew HO_279001.out)
     replace BK266 := Aside0.mk (blk_drew BK266.out)
     replace BK273 := Aside0.mk (blk_drew BK273.out)
     replace BK278 := Aside0.mk (blk_drew BK278.out)
     replace BK283 := Aside0.mk (blk_drew BK283.out)
     replace HB := Aside0.mk (below_drew1 HB.out)
     refine start_ (n := 25) (S := fun w' => w'.cell? ⟨gb273, 0, none⟩ = some (.slice Ao11 y270.length co11) ∧ w'.cell? ⟨gb278, 0, none⟩ = some (.int .i64 t274) ∧ w'.cell? ⟨gb278, 1, none⟩ = some (.slice Ao21 t275.length co21) ∧ w'.cell? ⟨gb283, 0, none⟩ = some (.int .i64 ((rd_T28 l2 0).f0)) ∧ w'.cell? ⟨gb283, 1, none⟩ = some (.int .i64 ((rd_T28 l2 0).f1)) ∧ w'.cell? ⟨gb283, 2, none⟩ = some (.int .i64 ((rd_T28 l2 0).f2)) ∧ w'.cell? ⟨gb283, 3, none⟩ = some (.slice A282_3 ((rd_T28 l2 0).f3).length c282_3)) (ds := []) u_f25 (by kernel_rfl) rfl rfl ⟨uF BK273 0, uF BK278 0, uF BK278 1, uF BK283 0, uF BK283 1, uF BK283 2, uF BK283 3⟩ (fun hHeld => ?_); refine with_tabW colloquylaw20_MonBack.tab7 colloquylaw20_MonBack.bits7 (fun HT_ HW_ => ?_)
     generalize w72.drew = w73 at HO_274000 HO_279001 BK266 BK273 BK278 BK283 HB hHeld ⊢
     refine uPu 3 51 u_f3t1f21 (v := ?_) (a' := ?_) rfl rfl HT_ ?_ ?_ ?_
     rotate_left
     ·intro w'
      go_simp
      with_reducible rfl
     rotate_left
     ·exact uP
     refine uTk 0 48 u_t1f2t1f21 (v := ?_) (a' := ?_) rfl rfl HT_ HW_ hHeld ?_ ?_ ?_
     rotate_left
     ·rintro w' ⟨s0, s1, s2, s3, s4, s5, s6⟩
      go_simp
      with_reducible rfl
     rotate_left
     ·exact uP
     refine uTk 1 49 u_t2f1t1f21 (v := ?_) (a' := ?_) rfl rfl HT_ HW_ hHeld ?_ ?_ ?_
     rotate_left
     ·rintro w' ⟨s0, s1, s2, s3, s4, s5, s6⟩
      go_simp
      with_reducible rfl
     rotate_left
     ·exact uP
     refine one_ (i := 2) (N := some 50) u_t4f21 rfl rfl (one_of HT_.out (by kernel_rfl)) (by decide) (fun K hK => ?_)
     refine goes_ Tryd.func12 (by kernel_rfl) rfl #[.agg #[.int .i64 t274, .slice Ao21 t275.length co21]] (by rfl) rfl rfl uC ?_
     with_reducible refine (mon_Mon_Pc.calls t274 _ _ t275 t284 _ ?side1 ?side2 A50.out).mono ?_
     (case side1 => exact uS (Kd.R_reads' HO_279001.out).2.2)
     (case side2 => exact (Kd.R_reads' HO_279001.out).2.1)
     rintro e w74 ⟨rfl, hb⟩
     refine ⟨_, rfl, ?_⟩
     replace HO_274000 := uRd HO_274000 hb
     replace HO_279001 := uRd HO_279001 hb
     replace BK266 := uD BK266 hb
     replace BK273 := uD BK273 hb
     replace BK278 := uD BK278 hb
     replace BK283 := uD BK283 hb
     replace HB := Aside0.mk (below_step (uB4 HB GE266 GE273 GE278 GE283) hb)
     (try clear hb)
     (try clear hb2)
     (try clear hk)
     (try clear hi)
     refine hK.out _ _ ⟨uF BK273 0, uF BK278 0, uF BK278 1, uF BK283 0, uF BK283 1, uF BK283 2, uF BK283 3⟩ (fun hHeld => ?_)
     clear hK K
     refine norm_ (a' := ?_) ?_ ?_
     rotate_left
     ·show Act.put _ (some 50) _ = _
      exact uP
     refine one_ (i := 4) (N := some 52) u_t5f20 rfl rfl (one_of HT_.out (by kernel_rfl)) (by decide) (fun K hK => ?_)
     refine goes_ Tryd.func25 (by kernel_rfl) rfl #[.agg #[.slice Ao11 y270.length co11], .int .i64 t284, .int .i64 ((rd_T28 l2 0).f2)] (by rfl) rfl rfl uC ?_
     with_reducible refine (lattice_Lat_Leq.calls kj5 _ _ y270 t284 ((rd_T28 l2 0).f2) true _ ?side1 ?side2 A51.out).mono ?_
     (case side1 => exact uS (Kd.R_reads' HO_274000.out).2.2)
     (case side2 => exact (Kd.R_reads' HO_274000.out).2.1)
     rintro e w75 ⟨rfl, hb⟩
     refine ⟨_, rfl, ?_⟩
     replace HO_274000 := uRd HO_274000 hb
     replace HO_279001 := uRd HO_279001 hb
     replace BK266 := uD BK266 hb
     replace BK273 := uD BK273 hb
     replace BK278 := uD BK278 hb
     replace BK283 := uD BK283 hb
     replace HB := Aside0.mk (below_step (uB4 HB GE266 GE273 GE278 GE283) hb)
     (try clear hb)
     (try clear hb2)
     (try clear hk)
     (try clear hi)
     refine hK.out _ _ ⟨uF BK273 0, uF BK278 0, uF BK278 1, uF BK283 0, uF BK283 1, uF BK283 2, uF BK283 3⟩ (fun hHeld => ?_)
     clear hK K
     refine norm_ (a' := ?_) ?_ ?_
     rotate_left
     ·show Act.put _ (some 52) _ = _
      exact uP
     refine uPu 5 53 u_t6f19 (v := ?_) (a' := ?_) rfl rfl HT_ ?_ ?_ ?_
     rotate_left
     ·intro w'
      go_simp
      with_reducible rfl
     rotate_left
     ·exact uP
     refine uPu 6 54 u_t7f18 (v := ?_) (a' := ?_) rfl rfl HT_ ?_ ?_ ?_
     rotate_left
     ·intro w'
      go_simp
      with_reducible rfl
     rotate_left
     ·exact uP
     refine uPu 7 55 u_t8f17 (v := ?_) (a' := ?_) rfl rfl HT_ ?_ ?_ ?_
     rotate_left
     ·intro w'
      go_simp
      with_reducible rfl
     rotate_left
     ·exact uP
     refine uTk 8 56 u_t9f16 (v := ?_) (a' := ?_) rfl rfl HT_ HW_ hHeld ?_ ?_ ?_
     rotate_left
     ·rintro w' ⟨s0, s1, s2, s3, s4, s5, s6⟩
      go_simp
      with_reducible rfl
     rotate_left
     ·exact uP
     refine uPu 9 57 u_t10f15 (v := ?_) (a' := ?_) rfl rfl HT_ ?_ ?_ ?_
     rotate_left
     ·intro w'
      go_simp
      with_reducible rfl
     rotate_left
     ·exact uP
     refine uPu 10 58 u_t11f14 (v := ?_) (a' := ?_) rfl rfl HT_ ?_ ?_ ?_
     rotate_left
     ·intro w'
      go_simp
      with_reducible rfl
     rotate_left
     ·exact uP
     refine uPu 11 59 u_t12f13 (v := ?_) (a' := ?_) rfl rfl HT_ ?_ ?_ ?_
     rotate_left
     ·intro w'
      go_simp
      with_reducible rfl
     rotate_left
     ·exact uP
     refine uPu 12 60 u_t13f12 (v := ?_) (a' := ?_) rfl rfl HT_ ?_ ?_ ?_
     rotate_left
     ·intro w'
      go_simp
      with_reducible rfl
     rotate_left
     ·exact uP
     refine uPu 14 62 u_t13f1t1f10 (v := ?_) (a' := ?_) rfl rfl HT_ ?_ ?_ ?_
     rotate_left
     ·intro w'
      go_simp
      with_reducible rfl
     rotate_left
     ·exact uP
     refine uPu 15 63 u_t13f1t2f9 (v := ?_) (a' := ?_) rfl rfl HT_ ?_ ?_ ?_
     rotate_left
     ·intro w'
      go_simp
      with_reducible rfl
     rotate_left
     ·exact uP
     refine uTk 13 61 u_t16f9 (v := ?_) (a' := ?_) rfl rfl HT_ HW_ hHeld ?_ ?_ ?_
     rotate_left
     ·rintro w' ⟨s0, s1, s2, s3, s4, s5, s6⟩
      go_simp
      with_reducible rfl
     rotate_left
     ·exact uP
     refine uPu 16 64 u_t17f8 (v := ?_) (a' := ?_) rfl rfl HT_ ?_ ?_ ?_
     rotate_left
     ·intro w'
      go_simp
      with_reducible rfl
     rotate_left
     ·exact uP
     refine uPu 17 65 u_t18f7 (v := ?_) (a' := ?_) rfl rfl HT_ ?_ ?_ ?_
     rotate_left
     ·intro w'
      go_simp
      with_reducible rfl
     rotate_left
     ·exact uP
     refine uPu 18 66 u_t19f6 (v := ?_) (a' := ?_) rfl rfl HT_ ?_ ?_ ?_
     rotate_left
     ·intro w'
      go_simp
      with_reducible rfl
     rotate_left
     ·exact uP
     refine uPn 19 67 u_t20f5 (a' := ?_) rfl rfl HT_ ?_ ?_
     rotate_left
     ·exact uP
     refine uPn 20 68 u_t21f4 (a' := ?_) rfl rfl HT_ ?_ ?_
     rotate_left
     ·exact uP
     refine uPn 21 69 u_t22f3 (a' := ?_) rfl rfl HT_ ?_ ?_
     rotate_left
     ·exact uP
     refine uPn 22 70 u_t23f2 (a' := ?_) rfl rfl HT_ ?_ ?_
     rotate_left
     ·exact uP
     refine uPn 23 71 u_t24f1 (a' := ?_) rfl rfl HT_ ?_ ?_
     rotate_left
     ·exact uP
     refine uPu 24 72 u_t25 (v := ?_) (a' := ?_) rfl rfl HT_ ?_ ?_ ?_
     rotate_left
     ·intro w'
      go_simp
      with_reducible rfl
     rotate_left
     ·exact uP
     refine done_ (done_of HT_.out (by kernel_rfl)) ?_
     try go_wp2_with (first | ((with_reducible refine gate_callee (f := 7) rfl ?_); refine goesL_ (some 73) rfl rfl Tryd.func7 (by kernel_rfl) rfl #[] rfl uC ?_; (with_reducible refine (colloquylaw20_sure.calls kj5  t287 _ ?side1 A66.out).mono ?_); (case side1 => exact HG.out.below (uB4 HB GE266 GE273 GE278 GE283)); rintro e w76 ⟨rfl, hb⟩; refine ⟨_, rfl, ?_⟩; replace BK266 := uD BK266 hb; replace BK273 := uD BK273 hb; replace BK278 := uD BK278 hb; replace BK283 := uD BK283 hb; replace HB := Aside0.mk (below_step (uB4 HB GE266 GE273 GE278 GE283) hb); (try clear hb); (try clear hb2); (try clear hk); (try clear hi)))
     go_ret
     exact ⟨by first | rfl | (simp [errW_none, errW_some] <;> rfl) | (simp [*, errW_none, errW_some] <;> rfl), uB4 HB GE266 GE273 GE278 GE283⟩
    as_aux_lemma =>
    rw [if_neg c65] at H
    have c65b0 : decide ((l0.length : Int) ≤ ((rd_T28 l2 0).f1)) = false := decide_eq_false c65
    clear c65
    replace H := Option.bind_eq_some_iff.mp H
    obtain ⟨t288, A770, H⟩ := H
    replace H : (if t288 = true then ((colloquylaw20_sure.f kj5).bind fun t289 => (some t289)) else ((mon_Else.f kj5 y270 t274 t275 ((rd_T28 l2 0).f0) ((rd_T28 l2 0).f1) 0).bind fun bt290 => (colloquylaw20_MonBack.l0 kj5 l0 l2 ((rd_T28 l2 0).f2) 1 y270 t274 t275 ((rd_T28 l2 0).f0) ((rd_T28 l2 0).f1) ((rd_T28 l2 0).f2) ((rd_T28 l2 0).f3) bt290.1 bt290.2))) = some r := H
    have A77 := Aside0.mk A770
    clear A770
    by_cases c78 : t288 = true
    ·as_aux_lemma =>
     subst c78
     have H1 : ((colloquylaw20_sure.f kj5).bind fun t289 => (some t289)) = some r := by rw [if_pos rfl] at H; exact H
     clear H
     have H := H1
     clear H1
     replace H := Option.bind_eq_some_iff.mp H
     obtain ⟨t289, A790, H⟩ := H
     replace H : (some t289) = some r := H
     have A79 := Aside0.mk A790
     clear A790
     obtain rfl := Option.some.inj H
     have p282 : 0 ≤ (0 : Int) := (by omega)
     have q282 : 0 < (l2.length : Int) := of_decide_eq_true (by first | (with_reducible assumption) | assumption)
     obtain ⟨ad282, A282_3, c282_3, e282, hx282_0, hx282_1, hx282_2, hx282_3, hl282_3, hi282_3⟩ := at_T28 HR2.out 0 p282 q282
     cases e282
     have qi282 : (0 < l2.length) = True := eq_true (by omega)
     (try rw [show ((0 : Int)).toNat = 0 from rfl] at hx282_0)
     (try rw [show 0 * 4 = 0 from rfl] at hx282_0)
     (try rw [Addr.add_zero'] at hx282_0)
     (try rw [show ((0 : Int)).toNat = 0 from rfl] at hx282_1)
     (try rw [show 0 * 4 = 0 from rfl] at hx282_1)
     (try rw [Addr.add_zero'] at hx282_1)
     (try rw [show ((0 : Int)).toNat = 0 from rfl] at hx282_2)
     (try rw [show 0 * 4 = 0 from rfl] at hx282_2)
     (try rw [Addr.add_zero'] at hx282_2)
     (try rw [show ((0 : Int)).toNat = 0 from rfl] at hx282_3)
     (try rw [show 0 * 4 = 0 from rfl] at hx282_3)
     (try rw [Addr.add_zero'] at hx282_3)
     replace hx282_0 := (HB.out.cell (World.block_lt_of_cell? w _ hx282_0)).trans hx282_0
     replace hx282_1 := (HB.out.cell (World.block_lt_of_cell? w _ hx282_1)).trans hx282_1
     replace hx282_2 := (HB.out.cell (World.block_lt_of_cell? w _ hx282_2)).trans hx282_2
     replace hx282_3 := (HB.out.cell (World.block_lt_of_cell? w _ hx282_3)).trans hx282_3
     have HR282_3 := Aside0.mk hi282_3
     have HC282_3 := Aside0.mk hl282_3
     clear hi282_3 hl282_3
     replace p282 := eq_true p282
     replace q282 := eq_true q282
     try go_wp2_with (first | ((with_reducible refine gate_dst (N := 9) rfl ?_); (try (refine gate_guard (by rfl) ?_; dsimp only)); refine box_event ?hg (N := 9) ?hd (cs := #[.int .i64 0, .int .i64 0, .int .i64 0, .slice none 0 0]) (t := 28) ?hr ?_; (case hd => rfl); (case hg => rfl); (case hr => first | (go_simp; done) | (go_simp; rfl)); intro gb283 hg w80 hbox hb; replace HO_274000 := uRd HO_274000 hb; replace HO_279001 := uRd HO_279001 hb; have BK283 := Aside0.mk (hbox); have GW283 := Aside0.mk ((by rw [hg]; exact (below_size (uB3 HB GE266 GE273 GE278)) : w.heap.size ≤ gb283)); have GE283 := Aside0.mk ((by rw [hg]; exact (below_size (uB3 HB GE266 GE273 GE278)) : w.heap.size ≤ gb283)); replace HB := Aside0.mk (below_step (uB3 HB GE266 GE273 GE278) hb); have NB266_283 := uN1 BK266 hg; have NB283_266 := uN2 BK266 hg; replace BK266 := uD BK266 hb; have NB273_283 := uN1 BK273 hg; have NB283_273 := uN2 BK273 hg; replace BK273 := uD BK273 hb; have NB278_283 := uN1 BK278 hg; have NB283_278 := uN2 BK278 hg; replace BK278 := uD BK278 hb; clear hb hbox hg; have hnb81 := NB283_266.out; have hnc81 := NB266_283.out; have hnb82 := NB283_273.out; have hnc82 := NB273_283.out; have hnb83 := NB283_278.out; have hnc83 := NB278_283.out; have hcz84_0 : w80.cell? ⟨gb283, 0, none⟩ = some (.int .i64 0) := uF BK283 0; have hcz84_1 : w80.cell? ⟨gb283, 1, none⟩ = some (.int .i64 0) := uF BK283 1; have hcz84_2 : w80.cell? ⟨gb283, 2, none⟩ = some (.int .i64 0) := uF BK283 2; have hcz84_3 : w80.cell? ⟨gb283, 3, none⟩ = some (.slice none 0 0) := uF BK283 3; have hfz84_0 := blk_frozen BK283.out 0; have hfz84_1 := blk_frozen BK283.out 1; have hfz84_2 := blk_frozen BK283.out 2; have hfz84_3 := blk_frozen BK283.out 3))
     obtain ⟨w85, hW_⟩ : ∃ w_, w_ = ((((w80.setCell ⟨gb283, 0, none⟩ (.int .i64 ((rd_T28 l2 0).f0))).setCell ⟨gb283, 1, none⟩ (.int .i64 ((rd_T28 l2 0).f1))).setCell ⟨gb283, 2, none⟩ (.int .i64 ((rd_T28 l2 0).f2))).setCell ⟨gb283, 3, none⟩ (.slice A282_3 ((rd_T28 l2 0).f3).length c282_3)) := ⟨_, rfl⟩
     replace HO_274000 : Aside0 (Kd.R (Kd.int .u8) 5 w85 w.heap.size (fun _ => True) (.slice Ao11 y270.length co11) y270) := ⟨by rw [hW_]; exact uT2 HO_274000 BK283 (fun _ hk => trivial)⟩
     replace HO_279001 : Aside0 (Kd.R k58 58 w85 w.heap.size (fun _ => True) (.slice Ao21 t275.length co21) t275) := ⟨by rw [hW_]; exact uT2 HO_279001 BK283 (fun _ hk => trivial)⟩
     replace BK266 := uY BK266 NB266_283 hW_
     replace BK273 := uY BK273 NB273_283 hW_
     replace BK278 := uY BK278 NB278_283 hW_
     replace BK283 : Aside0 (w85.heap[gb283]? = some (.cells #[.int .i64 ((rd_T28 l2 0).f0), .int .i64 ((rd_T28 l2 0).f1), .int .i64 ((rd_T28 l2 0).f2), .slice A282_3 ((rd_T28 l2 0).f3).length c282_3] 28 (0, 0))) := ⟨by rw [hW_]; (with_reducible repeat (first | refine blk_drewN ?_ _ | refine blk_drew ?_ | refine blk_alloc ?_ _)); refine blk_put (cs := #[.int .i64 ((rd_T28 l2 0).f0), .int .i64 ((rd_T28 l2 0).f1), .int .i64 ((rd_T28 l2 0).f2), .slice none 0 0]) ?_ 3 _ rfl; (with_reducible repeat (first | refine blk_drewN ?_ _ | refine blk_drew ?_ | refine blk_alloc ?_ _)); refine blk_put (cs := #[.int .i64 ((rd_T28 l2 0).f0), .int .i64 ((rd_T28 l2 0).f1), .int .i64 0, .slice none 0 0]) ?_ 2 _ rfl; (with_reducible repeat (first | refine blk_drewN ?_ _ | refine blk_drew ?_ | refine blk_alloc ?_ _)); refine blk_put (cs := #[.int .i64 ((rd_T28 l2 0).f0), .int .i64 0, .int .i64 0, .slice none 0 0]) ?_ 1 _ rfl; (with_reducible repeat (first | refine blk_drewN ?_ _ | refine blk_drew ?_ | refine blk_alloc ?_ _)); refine blk_put (cs := #[.int .i64 0, .int .i64 0, .int .i64 0, .slice none 0 0]) ?_ 0 _ rfl; (with_reducible repeat (first | refine blk_drewN ?_ _ | refine blk_drew ?_ | refine blk_alloc ?_ _)); exact BK283.out⟩
     replace HB : Aside0 (Below w.heap.size w w85) := ⟨by rw [hW_]; exact uB4 HB GE266 GE273 GE278 GE283⟩
     rw [← hW_]
     clear hW_
     replace HO_274000 := Aside0.mk (Kd.R_drew HO_274000.out)
     replace HO_279001 := Aside0.mk (Kd.R_drew HO_279001.out)
     replace BK266 := Aside0.mk (blk_drew BK266.out)
     replace BK273 := Aside0.mk (blk_drew BK273.out)
     replace BK278 := Aside0.mk (blk_drew BK278.out)
     replace BK283 := Aside0.mk (blk_drew BK283.out)
     replace HB := Aside0.mk (below_drew1 HB.out)
     refine start_ (n := 25) (S := fun w' => w'.cell? ⟨gb273, 0, none⟩ = some (.slice Ao11 y270.length co11) ∧ w'.cell? ⟨gb278, 0, none⟩ = some (.int .i64 t274) ∧ w'.cell? ⟨gb278, 1, none⟩ = some (.slice Ao21 t275.length co21) ∧ w'.cell? ⟨gb283, 0, none⟩ = some (.int .i64 ((rd_T28 l2 0).f0)) ∧ w'.cell? ⟨gb283, 1, none⟩ = some (.int .i64 ((rd_T28 l2 0).f1)) ∧ w'.cell? ⟨gb283, 2, none⟩ = some (.int .i64 ((rd_T28 l2 0).f2)) ∧ w'.cell? ⟨gb283, 3, none⟩ = some (.slice A282_3 ((rd_T28 l2 0).f3).length c282_3)) (ds := []) u_f25 (by kernel_rfl) rfl rfl ⟨uF BK273 0, uF BK278 0, uF BK278 1, uF BK283 0, uF BK283 1, uF BK283 2, uF BK283 3⟩ (fun hHeld => ?_); refine with_tabW colloquylaw20_MonBack.tab7 colloquylaw20_MonBack.bits7 (fun HT_ HW_ => ?_)
     generalize w85.drew = w86 at HO_274000 HO_279001 BK266 BK273 BK278 BK283 HB hHeld ⊢
     refine uPu 3 51 u_f3t1f21 (v := ?_) (a' := ?_) rfl rfl HT_ ?_ ?_ ?_
     rotate_left
     ·intro w'
      go_simp
      with_reducible rfl
     rotate_left
     ·exact uP
     refine uTk 0 48 u_t1f2t1f21 (v := ?_) (a' := ?_) rfl rfl HT_ HW_ hHeld ?_ ?_ ?_
     rotate_left
     ·rintro w' ⟨s0, s1, s2, s3, s4, s5, s6⟩
      go_simp
      with_reducible rfl
     rotate_left
     ·exact uP
     refine uTk 1 49 u_t2f1t1f21 (v := ?_) (a' := ?_) rfl rfl HT_ HW_ hHeld ?_ ?_ ?_
     rotate_left
     ·rintro w' ⟨s0, s1, s2, s3, s4, s5, s6⟩
      go_simp
      with_reducible rfl
     rotate_left
     ·exact uP
     refine one_ (i := 2) (N := some 50) u_t4f21 rfl rfl (one_of HT_.out (by kernel_rfl)) (by decide) (fun K hK => ?_)
     refine goes_ Tryd.func12 (by kernel_rfl) rfl #[.agg #[.int .i64 t274, .slice Ao21 t275.length co21]] (by rfl) rfl rfl uC ?_
     with_reducible refine (mon_Mon_Pc.calls t274 _ _ t275 t284 _ ?side1 ?side2 A50.out).mono ?_
     (case side1 => exact uS (Kd.R_reads' HO_279001.out).2.2)
     (case side2 => exact (Kd.R_reads' HO_279001.out).2.1)
     rintro e w87 ⟨rfl, hb⟩
     refine ⟨_, rfl, ?_⟩
     replace HO_274000 := uRd HO_274000 hb
     replace HO_279001 := uRd HO_279001 hb
     replace BK266 := uD BK266 hb
     replace BK273 := uD BK273 hb
     replace BK278 := uD BK278 hb
     replace BK283 := uD BK283 hb
     replace HB := Aside0.mk (below_step (uB4 HB GE266 GE273 GE278 GE283) hb)
     (try clear hb)
     (try clear hb2)
     (try clear hk)
     (try clear hi)
     refine hK.out _ _ ⟨uF BK273 0, uF BK278 0, uF BK278 1, uF BK283 0, uF BK283 1, uF BK283 2, uF BK283 3⟩ (fun hHeld => ?_)
     clear hK K
     refine norm_ (a' := ?_) ?_ ?_
     rotate_left
     ·show Act.put _ (some 50) _ = _
      exact uP
     refine one_ (i := 4) (N := some 52) u_t5f20 rfl rfl (one_of HT_.out (by kernel_rfl)) (by decide) (fun K hK => ?_)
     refine goes_ Tryd.func25 (by kernel_rfl) rfl #[.agg #[.slice Ao11 y270.length co11], .int .i64 t284, .int .i64 ((rd_T28 l2 0).f2)] (by rfl) rfl rfl uC ?_
     with_reducible refine (lattice_Lat_Leq.calls kj5 _ _ y270 t284 ((rd_T28 l2 0).f2) true _ ?side1 ?side2 A51.out).mono ?_
     (case side1 => exact uS (Kd.R_reads' HO_274000.out).2.2)
     (case side2 => exact (Kd.R_reads' HO_274000.out).2.1)
     rintro e w88 ⟨rfl, hb⟩
     refine ⟨_, rfl, ?_⟩
     replace HO_274000 := uRd HO_274000 hb
     replace HO_279001 := uRd HO_279001 hb
     replace BK266 := uD BK266 hb
     replace BK273 := uD BK273 hb
     replace BK278 := uD BK278 hb
     replace BK283 := uD BK283 hb
     replace HB := Aside0.mk (below_step (uB4 HB GE266 GE273 GE278 GE283) hb)
     (try clear hb)
     (try clear hb2)
     (try clear hk)
     (try clear hi)
     refine hK.out _ _ ⟨uF BK273 0, uF BK278 0, uF BK278 1, uF BK283 0, uF BK283 1, uF BK283 2, uF BK283 3⟩ (fun hHeld => ?_)
     clear hK K
     refine norm_ (a' := ?_) ?_ ?_
     rotate_left
     ·show Act.put _ (some 52) _ = _
      exact uP
     refine uPu 5 53 u_t6f19 (v := ?_) (a' := ?_) rfl rfl HT_ ?_ ?_ ?_
     rotate_left
     ·intro w'
      go_simp
      with_reducible rfl
     rotate_left
     ·exact uP
     refine uPu 6 54 u_t7f18 (v := ?_) (a' := ?_) rfl rfl HT_ ?_ ?_ ?_
     rotate_left
     ·intro w'
      go_simp
      with_reducible rfl
     rotate_left
     ·exact uP
     refine uPu 7 55 u_t8f17 (v := ?_) (a' := ?_) rfl rfl HT_ ?_ ?_ ?_
     rotate_left
     ·intro w'
      go_simp
      with_reducible rfl
     rotate_left
     ·exact uP
     refine uTk 8 56 u_t9f16 (v := ?_) (a' := ?_) rfl rfl HT_ HW_ hHeld ?_ ?_ ?_
     rotate_left
     ·rintro w' ⟨s0, s1, s2, s3, s4, s5, s6⟩
      go_simp
      with_reducible rfl
     rotate_left
     ·exact uP
     refine uPu 9 57 u_t10f15 (v := ?_) (a' := ?_) rfl rfl HT_ ?_ ?_ ?_
     rotate_left
     ·intro w'
      go_simp
      with_reducible rfl
     rotate_left
     ·exact uP
     refine uPu 10 58 u_t11f14 (v := ?_) (a' := ?_) rfl rfl HT_ ?_ ?_ ?_
     rotate_left
     ·intro w'
      go_simp
      with_reducible rfl
     rotate_left
     ·exact uP
     refine uPu 11 59 u_t12f13 (v := ?_) (a' := ?_) rfl rfl HT_ ?_ ?_ ?_
     rotate_left
     ·intro w'
      go_simp
      with_reducible rfl
     rotate_left
     ·exact uP
     refine uPu 12 60 u_t13f12 (v := ?_) (a' := ?_) rfl rfl HT_ ?_ ?_ ?_
     rotate_left
     ·intro w'
      go_simp
      with_reducible rfl
     rotate_left
     ·exact uP
     refine uPu 14 62 u_t13f1t1f10 (v := ?_) (a' := ?_) rfl rfl HT_ ?_ ?_ ?_
     rotate_left
     ·intro w'
      go_simp
      with_reducible rfl
     rotate_left
     ·exact uP
     refine uPu 15 63 u_t13f1t2f9 (v := ?_) (a' := ?_) rfl rfl HT_ ?_ ?_ ?_
     rotate_left
     ·intro w'
      go_simp
      with_reducible rfl
     rotate_left
     ·exact uP
     refine uTk 13 61 u_t16f9 (v := ?_) (a' := ?_) rfl rfl HT_ HW_ hHeld ?_ ?_ ?_
     rotate_left
     ·rintro w' ⟨s0, s1, s2, s3, s4, s5, s6⟩
      go_simp
      with_reducible rfl
     rotate_left
     ·exact uP
     refine uPu 16 64 u_t17f8 (v := ?_) (a' := ?_) rfl rfl HT_ ?_ ?_ ?_
     rotate_left
     ·intro w'
      go_simp
      with_reducible rfl
     rotate_left
     ·exact uP
     refine uPu 17 65 u_t18f7 (v := ?_) (a' := ?_) rfl rfl HT_ ?_ ?_ ?_
     rotate_left
     ·intro w'
      go_simp
      with_reducible rfl
     rotate_left
     ·exact uP
     refine uPu 18 66 u_t19f6 (v := ?_) (a' := ?_) rfl rfl HT_ ?_ ?_ ?_
     rotate_left
     ·intro w'
      go_simp
      with_reducible rfl
     rotate_left
     ·exact uP
     refine uPu 20 68 u_t19f1t1f4 (v := ?_) (a' := ?_) rfl rfl HT_ ?_ ?_ ?_
     rotate_left
     ·intro w'
      go_simp
      with_reducible rfl
     rotate_left
     ·exact uP
     refine uPu 22 70 u_t19f1t1f1t1f2 (v := ?_) (a' := ?_) rfl rfl HT_ ?_ ?_ ?_
     rotate_left
     ·intro w'
      go_simp
      with_reducible rfl
     rotate_left
     ·exact uP
     refine uTk 19 67 u_t21f1t1f2 (v := ?_) (a' := ?_) rfl rfl HT_ HW_ hHeld ?_ ?_ ?_
     rotate_left
     ·rintro w' ⟨s0, s1, s2, s3, s4, s5, s6⟩
      go_simp
      with_reducible rfl
     rotate_left
     ·exact uP
     refine uTk 21 69 u_t23f2 (v := ?_) (a' := ?_) rfl rfl HT_ HW_ hHeld ?_ ?_ ?_
     rotate_left
     ·rintro w' ⟨s0, s1, s2, s3, s4, s5, s6⟩
      go_simp
      with_reducible rfl
     rotate_left
     ·exact uP
     refine one_ (i := 23) (N := some 71) u_t24f1 rfl rfl (one_of HT_.out (by kernel_rfl)) (by decide) (fun K hK => ?_)
     refine goes_ Tryd.func25 (by kernel_rfl) rfl #[.agg #[.slice Ao11 y270.length co11], .int .i64 ((rd_T28 l2 0).f1), .int .i64 ((rd_T28 l2 0).f2)] (by rfl) rfl rfl uC ?_
     with_reducible refine (lattice_Lat_Leq.calls kj5 _ _ y270 ((rd_T28 l2 0).f1) ((rd_T28 l2 0).f2) true _ ?side1 ?side2 A77.out).mono ?_
     (case side1 => exact uS (Kd.R_reads' HO_274000.out).2.2)
     (case side2 => exact (Kd.R_reads' HO_274000.out).2.1)
     rintro e w89 ⟨rfl, hb⟩
     refine ⟨_, rfl, ?_⟩
     replace HO_274000 := uRd HO_274000 hb
     replace HO_279001 := uRd HO_279001 hb
     replace BK266 := uD BK266 hb
     replace BK273 := uD BK273 hb
     replace BK278 := uD BK278 hb
     replace BK283 := uD BK283 hb
     replace HB := Aside0.mk (below_step (uB4 HB GE266 GE273 GE278 GE283) hb)
     (try clear hb)
     (try clear hb2)
     (try clear hk)
     (try clear hi)
     refine hK.out _ _ ⟨uF BK273 0, uF BK278 0, uF BK278 1, uF BK283 0, uF BK283 1, uF BK283 2, uF BK283 3⟩ (fun hHeld => ?_)
     clear hK K
     refine norm_ (a' := ?_) ?_ ?_
     rotate_left
     ·show Act.put _ (some 71) _ = _
      exact uP
     refine uPu 24 72 u_t25 (v := ?_) (a' := ?_) rfl rfl HT_ ?_ ?_ ?_
     rotate_left
     ·intro w'
      go_simp
      with_reducible rfl
     rotate_left
     ·exact uP
     refine done_ (done_of HT_.out (by kernel_rfl)) ?_
     try go_wp2_with (first | ((with_reducible refine gate_callee (f := 7) rfl ?_); refine goesL_ (some 73) rfl rfl Tryd.func7 (by kernel_rfl) rfl #[] rfl uC ?_; (with_reducible refine (colloquylaw20_sure.calls kj5  t289 _ ?side1 A79.out).mono ?_); (case side1 => exact HG.out.below (uB4 HB GE266 GE273 GE278 GE283)); rintro e w90 ⟨rfl, hb⟩; refine ⟨_, rfl, ?_⟩; replace BK266 := uD BK266 hb; replace BK273 := uD BK273 hb; replace BK278 := uD BK278 hb; replace BK283 := uD BK283 hb; replace HB := Aside0.mk (below_step (uB4 HB GE266 GE273 GE278 GE283) hb); (try clear hb); (try clear hb2); (try clear hk); (try clear hi)))
     go_ret
     exact ⟨by first | rfl | (simp [errW_none, errW_some] <;> rfl) | (simp [*, errW_none, errW_some] <;> rfl), uB4 HB GE266 GE273 GE278 GE283⟩
    replace c78 := Bool.eq_false_iff.mpr c78
    subst c78
    have H1 : ((mon_Else.f kj5 y270 t274 t275 ((rd_T28 l2 0).f0) ((rd_T28 l2 0).f1) 0).bind fun bt290 => (colloquylaw20_MonBack.l0 kj5 l0 l2 ((rd_T28 l2 0).f2) 1 y270 t274 t275 ((rd_T28 l2 0).f0) ((rd_T28 l2 0).f1) ((rd_T28 l2 0).f2) ((rd_T28 l2 0).f3) bt290.1 bt290.2)) = some r := by rw [if_neg (show ¬ (false = true) by decide)] at H; exact H
    clear H
    have H := H1
    clear H1
    replace H := Option.bind_eq_some_iff.mp H
    obtain ⟨⟨t290, t291⟩, A910, H⟩ := H
    replace H : (colloquylaw20_MonBack.l0 kj5 l0 l2 ((rd_T28 l2 0).f2) 1 y270 t274 t275 ((rd_T28 l2 0).f0) ((rd_T28 l2 0).f1) ((rd_T28 l2 0).f2) ((rd_T28 l2 0).f3) t290 t291) = some r := H
    have A91 := Aside0.mk A910
    clear A910
    have H' := Aside0.mk H
    clear H
    have p282 : 0 ≤ (0 : Int) := (by omega)
    have q282 : 0 < (l2.length : Int) := of_decide_eq_true (by first | (with_reducible assumption) | assumption)
    obtain ⟨ad282, A282_3, c282_3, e282, hx282_0, hx282_1, hx282_2, hx282_3, hl282_3, hi282_3⟩ := at_T28 HR2.out 0 p282 q282
    cases e282
    have qi282 : (0 < l2.length) = True := eq_true (by omega)
    (try rw [show ((0 : Int)).toNat = 0 from rfl] at hx282_0)
    (try rw [show 0 * 4 = 0 from rfl] at hx282_0)
    (try rw [Addr.add_zero'] at hx282_0)
    (try rw [show ((0 : Int)).toNat = 0 from rfl] at hx282_1)
    (try rw [show 0 * 4 = 0 from rfl] at hx282_1)
    (try rw [Addr.add_zero'] at hx282_1)
    (try rw [show ((0 : Int)).toNat = 0 from rfl] at hx282_2)
    (try rw [show 0 * 4 = 0 from rfl] at hx282_2)
    (try rw [Addr.add_zero'] at hx282_2)
    (try rw [show ((0 : Int)).toNat = 0 from rfl] at hx282_3)
    (try rw [show 0 * 4 = 0 from rfl] at hx282_3)
    (try rw [Addr.add_zero'] at hx282_3)
    replace hx282_0 := (HB.out.cell (World.block_lt_of_cell? w _ hx282_0)).trans hx282_0
    replace hx282_1 := (HB.out.cell (World.block_lt_of_cell? w _ hx282_1)).trans hx282_1
    replace hx282_2 := (HB.out.cell (World.block_lt_of_cell? w _ hx282_2)).trans hx282_2
    replace hx282_3 := (HB.out.cell (World.block_lt_of_cell? w _ hx282_3)).trans hx282_3
    have HR282_3 := Aside0.mk hi282_3
    have HC282_3 := Aside0.mk hl282_3
    clear hi282_3 hl282_3
    replace p282 := eq_true p282
    replace q282 := eq_true q282
    try go_wp2_with (first | ((with_reducible refine gate_dst (N := 9) rfl ?_); (try (refine gate_guard (by rfl) ?_; dsimp only)); refine box_event ?hg (N := 9) ?hd (cs := #[.int .i64 0, .int .i64 0, .int .i64 0, .slice none 0 0]) (t := 28) ?hr ?_; (case hd => rfl); (case hg => rfl); (case hr => first | (go_simp; done) | (go_simp; rfl)); intro gb283 hg w92 hbox hb; replace HO_274000 := uRd HO_274000 hb; replace HO_279001 := uRd HO_279001 hb; have BK283 := Aside0.mk (hbox); have GW283 := Aside0.mk ((by rw [hg]; exact (below_size (uB3 HB GE266 GE273 GE278)) : w.heap.size ≤ gb283)); have GE283 := Aside0.mk ((by rw [hg]; exact (below_size (uB3 HB GE266 GE273 GE278)) : w.heap.size ≤ gb283)); replace HB := Aside0.mk (below_step (uB3 HB GE266 GE273 GE278) hb); have NB266_283 := uN1 BK266 hg; have NB283_266 := uN2 BK266 hg; replace BK266 := uD BK266 hb; have NB273_283 := uN1 BK273 hg; have NB283_273 := uN2 BK273 hg; replace BK273 := uD BK273 hb; have NB278_283 := uN1 BK278 hg; have NB283_278 := uN2 BK278 hg; replace BK278 := uD BK278 hb; clear hb hbox hg; have hnb93 := NB283_266.out; have hnc93 := NB266_283.out; have hnb94 := NB283_273.out; have hnc94 := NB273_283.out; have hnb95 := NB283_278.out; have hnc95 := NB278_283.out; have hcz96_0 : w92.cell? ⟨gb283, 0, none⟩ = some (.int .i64 0) := uF BK283 0; have hcz96_1 : w92.cell? ⟨gb283, 1, none⟩ = some (.int .i64 0) := uF BK283 1; have hcz96_2 : w92.cell? ⟨gb283, 2, none⟩ = some (.int .i64 0) := uF BK283 2; have hcz96_3 : w92.cell? ⟨gb283, 3, none⟩ = some (.slice none 0 0) := uF BK283 3; have hfz96_0 := blk_frozen BK283.out 0; have hfz96_1 := blk_frozen BK283.out 1; have hfz96_2 := blk_frozen BK283.out 2; have hfz96_3 := blk_frozen BK283.out 3))
    obtain ⟨w97, hW_⟩ : ∃ w_, w_ = ((((w92.setCell ⟨gb283, 0, none⟩ (.int .i64 ((rd_T28 l2 0).f0))).setCell ⟨gb283, 1, none⟩ (.int .i64 ((rd_T28 l2 0).f1))).setCell ⟨gb283, 2, none⟩ (.int .i64 ((rd_T28 l2 0).f2))).setCell ⟨gb283, 3, none⟩ (.slice A282_3 ((rd_T28 l2 0).f3).length c282_3)) := ⟨_, rfl⟩
    replace HO_274000 : Aside0 (Kd.R (Kd.int .u8) 5 w97 w.heap.size (fun _ => True) (.slice Ao11 y270.length co11) y270) := ⟨by rw [hW_]; exact uT2 HO_274000 BK283 (fun _ hk => trivial)⟩
    replace HO_279001 : Aside0 (Kd.R k58 58 w97 w.heap.size (fun _ => True) (.slice Ao21 t275.length co21) t275) := ⟨by rw [hW_]; exact uT2 HO_279001 BK283 (fun _ hk => trivial)⟩
    replace BK266 := uY BK266 NB266_283 hW_
    replace BK273 := uY BK273 NB273_283 hW_
    replace BK278 := uY BK278 NB278_283 hW_
    replace BK283 : Aside0 (w97.heap[gb283]? = some (.cells #[.int .i64 ((rd_T28 l2 0).f0), .int .i64 ((rd_T28 l2 0).f1), .int .i64 ((rd_T28 l2 0).f2), .slice A282_3 ((rd_T28 l2 0).f3).length c282_3] 28 (0, 0))) := ⟨by rw [hW_]; (with_reducible repeat (first | refine blk_drewN ?_ _ | refine blk_drew ?_ | refine blk_alloc ?_ _)); refine blk_put (cs := #[.int .i64 ((rd_T28 l2 0).f0), .int .i64 ((rd_T28 l2 0).f1), .int .i64 ((rd_T28 l2 0).f2), .slice none 0 0]) ?_ 3 _ rfl; (with_reducible repeat (first | refine blk_drewN ?_ _ | refine blk_drew ?_ | refine blk_alloc ?_ _)); refine blk_put (cs := #[.int .i64 ((rd_T28 l2 0).f0), .int .i64 ((rd_T28 l2 0).f1), .int .i64 0, .slice none 0 0]) ?_ 2 _ rfl; (with_reducible repeat (first | refine blk_drewN ?_ _ | refine blk_drew ?_ | refine blk_alloc ?_ _)); refine blk_put (cs := #[.int .i64 ((rd_T28 l2 0).f0), .int .i64 0, .int .i64 0, .slice none 0 0]) ?_ 1 _ rfl; (with_reducible repeat (first | refine blk_drewN ?_ _ | refine blk_drew ?_ | refine blk_alloc ?_ _)); refine blk_put (cs := #[.int .i64 0, .int .i64 0, .int .i64 0, .slice none 0 0]) ?_ 0 _ rfl; (with_reducible repeat (first | refine blk_drewN ?_ _ | refine blk_drew ?_ | refine blk_alloc ?_ _)); exact BK283.out⟩
    replace HB : Aside0 (Below w.heap.size w w97) := ⟨by rw [hW_]; exact uB4 HB GE266 GE273 GE278 GE283⟩
    rw [← hW_]
    clear hW_
    replace HO_274000 := Aside0.mk (Kd.R_drew HO_274000.out)
    replace HO_279001 := Aside0.mk (Kd.R_drew HO_279001.out)
    replace BK266 := Aside0.mk (blk_drew BK266.out)
    replace BK273 := Aside0.mk (blk_drew BK273.out)
    replace BK278 := Aside0.mk (blk_drew BK278.out)
    replace BK283 := Aside0.mk (blk_drew BK283.out)
    replace HB := Aside0.mk (below_drew1 HB.out)
    refine start_ (n := 25) (S := fun w' => w'.cell? ⟨gb273, 0, none⟩ = some (.slice Ao11 y270.length co11) ∧ w'.cell? ⟨gb278, 0, none⟩ = some (.int .i64 t274) ∧ w'.cell? ⟨gb278, 1, none⟩ = some (.slice Ao21 t275.length co21) ∧ w'.cell? ⟨gb283, 0, none⟩ = some (.int .i64 ((rd_T28 l2 0).f0)) ∧ w'.cell? ⟨gb283, 1, none⟩ = some (.int .i64 ((rd_T28 l2 0).f1)) ∧ w'.cell? ⟨gb283, 2, none⟩ = some (.int .i64 ((rd_T28 l2 0).f2)) ∧ w'.cell? ⟨gb283, 3, none⟩ = some (.slice A282_3 ((rd_T28 l2 0).f3).length c282_3)) (ds := []) u_f25 (by kernel_rfl) rfl rfl ⟨uF BK273 0, uF BK278 0, uF BK278 1, uF BK283 0, uF BK283 1, uF BK283 2, uF BK283 3⟩ (fun hHeld => ?_); refine with_tabW colloquylaw20_MonBack.tab7 colloquylaw20_MonBack.bits7 (fun HT_ HW_ => ?_)
    generalize w97.drew = w98 at HO_274000 HO_279001 BK266 BK273 BK278 BK283 HB hHeld ⊢
    refine uPu 3 51 u_f3t1f21 (v := ?_) (a' := ?_) rfl rfl HT_ ?_ ?_ ?_
    rotate_left
    ·intro w'
     go_simp
     with_reducible rfl
    rotate_left
    ·exact uP
    refine uTk 0 48 u_t1f2t1f21 (v := ?_) (a' := ?_) rfl rfl HT_ HW_ hHeld ?_ ?_ ?_
    rotate_left
    ·rintro w' ⟨s0, s1, s2, s3, s4, s5, s6⟩
     go_simp
     with_reducible rfl
    rotate_left
    ·exact uP
    refine uTk 1 49 u_t2f1t1f21 (v := ?_) (a' := ?_) rfl rfl HT_ HW_ hHeld ?_ ?_ ?_
    rotate_left
    ·rintro w' ⟨s0, s1, s2, s3, s4, s5, s6⟩
     go_simp
     with_reducible rfl
    rotate_left
    ·exact uP
    refine one_ (i := 2) (N := some 50) u_t4f21 rfl rfl (one_of HT_.out (by kernel_rfl)) (by decide) (fun K hK => ?_)
    refine goes_ Tryd.func12 (by kernel_rfl) rfl #[.agg #[.int .i64 t274, .slice Ao21 t275.length co21]] (by rfl) rfl rfl uC ?_
    with_reducible refine (mon_Mon_Pc.calls t274 _ _ t275 t284 _ ?side1 ?side2 A50.out).mono ?_
    (case side1 => exact uS (Kd.R_reads' HO_279001.out).2.2)
    (case side2 => exact (Kd.R_reads' HO_279001.out).2.1)
    rintro e w99 ⟨rfl, hb⟩
    refine ⟨_, rfl, ?_⟩
    replace HO_274000 := uRd HO_274000 hb
    replace HO_279001 := uRd HO_279001 hb
    replace BK266 := uD BK266 hb
    replace BK273 := uD BK273 hb
    replace BK278 := uD BK278 hb
    replace BK283 := uD BK283 hb
    replace HB := Aside0.mk (below_step (uB4 HB GE266 GE273 GE278 GE283) hb)
    (try clear hb)
    (try clear hb2)
    (try clear hk)
    (try clear hi)
    refine hK.out _ _ ⟨uF BK273 0, uF BK278 0, uF BK278 1, uF BK283 0, uF BK283 1, uF BK283 2, uF BK283 3⟩ (fun hHeld => ?_)
    clear hK K
    refine norm_ (a' := ?_) ?_ ?_
    rotate_left
    ·show Act.put _ (some 50) _ = _
     exact uP
    refine one_ (i := 4) (N := some 52) u_t5f20 rfl rfl (one_of HT_.out (by kernel_rfl)) (by decide) (fun K hK => ?_)
    refine goes_ Tryd.func25 (by kernel_rfl) rfl #[.agg #[.slice Ao11 y270.length co11], .int .i64 t284, .int .i64 ((rd_T28 l2 0).f2)] (by rfl) rfl rfl uC ?_
    with_reducible refine (lattice_Lat_Leq.calls kj5 _ _ y270 t284 ((rd_T28 l2 0).f2) true _ ?side1 ?side2 A51.out).mono ?_
    (case side1 => exact uS (Kd.R_reads' HO_274000.out).2.2)
    (case side2 => exact (Kd.R_reads' HO_274000.out).2.1)
    rintro e w100 ⟨rfl, hb⟩
    refine ⟨_, rfl, ?_⟩
    replace HO_274000 := uRd HO_274000 hb
    replace HO_279001 := uRd HO_279001 hb
    replace BK266 := uD BK266 hb
    replace BK273 := uD BK273 hb
    replace BK278 := uD BK278 hb
    replace BK283 := uD BK283 hb
    replace HB := Aside0.mk (below_step (uB4 HB GE266 GE273 GE278 GE283) hb)
    (try clear hb)
    (try clear hb2)
    (try clear hk)
    (try clear hi)
    refine hK.out _ _ ⟨uF BK273 0, uF BK278 0, uF BK278 1, uF BK283 0, uF BK283 1, uF BK283 2, uF BK283 3⟩ (fun hHeld => ?_)
    clear hK K
    refine norm_ (a' := ?_) ?_ ?_
    rotate_left
    ·show Act.put _ (some 52) _ = _
     exact uP
    refine uPu 5 53 u_t6f19 (v := ?_) (a' := ?_) rfl rfl HT_ ?_ ?_ ?_
    rotate_left
    ·intro w'
     go_simp
     with_reducible rfl
    rotate_left
    ·exact uP
    refine uPu 6 54 u_t7f18 (v := ?_) (a' := ?_) rfl rfl HT_ ?_ ?_ ?_
    rotate_left
    ·intro w'
     go_simp
     with_reducible rfl
    rotate_left
    ·exact uP
    refine uPu 7 55 u_t8f17 (v := ?_) (a' := ?_) rfl rfl HT_ ?_ ?_ ?_
    rotate_left
    ·intro w'
     go_simp
     with_reducible rfl
    rotate_left
    ·exact uP
    refine uTk 8 56 u_t9f16 (v := ?_) (a' := ?_) rfl rfl HT_ HW_ hHeld ?_ ?_ ?_
    rotate_left
    ·rintro w' ⟨s0, s1, s2, s3, s4, s5, s6⟩
     go_simp
     with_reducible rfl
    rotate_left
    ·exact uP
    refine uPu 9 57 u_t10f15 (v := ?_) (a' := ?_) rfl rfl HT_ ?_ ?_ ?_
    rotate_left
    ·intro w'
     go_simp
     with_reducible rfl
    rotate_left
    ·exact uP
    refine uPu 10 58 u_t11f14 (v := ?_) (a' := ?_) rfl rfl HT_ ?_ ?_ ?_
    rotate_left
    ·intro w'
     go_simp
     with_reducible rfl
    rotate_left
    ·exact uP
    refine uPu 11 59 u_t12f13 (v := ?_) (a' := ?_) rfl rfl HT_ ?_ ?_ ?_
    rotate_left
    ·intro w'
     go_simp
     with_reducible rfl
    rotate_left
    ·exact uP
    refine uPu 12 60 u_t13f12 (v := ?_) (a' := ?_) rfl rfl HT_ ?_ ?_ ?_
    rotate_left
    ·intro w'
     go_simp
     with_reducible rfl
    rotate_left
    ·exact uP
    refine uPu 14 62 u_t13f1t1f10 (v := ?_) (a' := ?_) rfl rfl HT_ ?_ ?_ ?_
    rotate_left
    ·intro w'
     go_simp
     with_reducible rfl
    rotate_left
    ·exact uP
    refine uPu 15 63 u_t13f1t2f9 (v := ?_) (a' := ?_) rfl rfl HT_ ?_ ?_ ?_
    rotate_left
    ·intro w'
     go_simp
     with_reducible rfl
    rotate_left
    ·exact uP
    refine uTk 13 61 u_t16f9 (v := ?_) (a' := ?_) rfl rfl HT_ HW_ hHeld ?_ ?_ ?_
    rotate_left
    ·rintro w' ⟨s0, s1, s2, s3, s4, s5, s6⟩
     go_simp
     with_reducible rfl
    rotate_left
    ·exact uP
    refine uPu 16 64 u_t17f8 (v := ?_) (a' := ?_) rfl rfl HT_ ?_ ?_ ?_
    rotate_left
    ·intro w'
     go_simp
     with_reducible rfl
    rotate_left
    ·exact uP
    refine uPu 17 65 u_t18f7 (v := ?_) (a' := ?_) rfl rfl HT_ ?_ ?_ ?_
    rotate_left
    ·intro w'
     go_simp
     with_reducible rfl
    rotate_left
    ·exact uP
    refine uPu 18 66 u_t19f6 (v := ?_) (a' := ?_) rfl rfl HT_ ?_ ?_ ?_
    rotate_left
    ·intro w'
     go_simp
     with_reducible rfl
    rotate_left
    ·exact uP
    refine uPu 20 68 u_t19f1t1f4 (v := ?_) (a' := ?_) rfl rfl HT_ ?_ ?_ ?_
    rotate_left
    ·intro w'
     go_simp
     with_reducible rfl
    rotate_left
    ·exact uP
    refine uPu 22 70 u_t19f1t1f1t1f2 (v := ?_) (a' := ?_) rfl rfl HT_ ?_ ?_ ?_
    rotate_left
    ·intro w'
     go_simp
     with_reducible rfl
    rotate_left
    ·exact uP
    refine uTk 19 67 u_t21f1t1f2 (v := ?_) (a' := ?_) rfl rfl HT_ HW_ hHeld ?_ ?_ ?_
    rotate_left
    ·rintro w' ⟨s0, s1, s2, s3, s4, s5, s6⟩
     go_simp
     with_reducible rfl
    rotate_left
    ·exact uP
    refine uTk 21 69 u_t23f2 (v := ?_) (a' := ?_) rfl rfl HT_ HW_ hHeld ?_ ?_ ?_
    rotate_left
    ·rintro w' ⟨s0, s1, s2, s3, s4, s5, s6⟩
     go_simp
     with_reducible rfl
    rotate_left
    ·exact uP
    refine one_ (i := 23) (N := some 71) u_t24f1 rfl rfl (one_of HT_.out (by kernel_rfl)) (by decide) (fun K hK => ?_)
    refine goes_ Tryd.func25 (by kernel_rfl) rfl #[.agg #[.slice Ao11 y270.length co11], .int .i64 ((rd_T28 l2 0).f1), .int .i64 ((rd_T28 l2 0).f2)] (by rfl) rfl rfl uC ?_
    with_reducible refine (lattice_Lat_Leq.calls kj5 _ _ y270 ((rd_T28 l2 0).f1) ((rd_T28 l2 0).f2) false _ ?side1 ?side2 A77.out).mono ?_
    (case side1 => exact uS (Kd.R_reads' HO_274000.out).2.2)
    (case side2 => exact (Kd.R_reads' HO_274000.out).2.1)
    rintro e w101 ⟨rfl, hb⟩
    refine ⟨_, rfl, ?_⟩
    replace HO_274000 := uRd HO_274000 hb
    replace HO_279001 := uRd HO_279001 hb
    replace BK266 := uD BK266 hb
    replace BK273 := uD BK273 hb
    replace BK278 := uD BK278 hb
    replace BK283 := uD BK283 hb
    replace HB := Aside0.mk (below_step (uB4 HB GE266 GE273 GE278 GE283) hb)
    (try clear hb)
    (try clear hb2)
    (try clear hk)
    (try clear hi)
    refine hK.out _ _ ⟨uF BK273 0, uF BK278 0, uF BK278 1, uF BK283 0, uF BK283 1, uF BK283 2, uF BK283 3⟩ (fun hHeld => ?_)
    clear hK K
    refine norm_ (a' := ?_) ?_ ?_
    rotate_left
    ·show Act.put _ (some 71) _ = _
     exact uP
    refine uPu 24 72 u_t25 (v := ?_) (a' := ?_) rfl rfl HT_ ?_ ?_ ?_
    rotate_left
    ·intro w'
     go_simp
     with_reducible rfl
    rotate_left
    ·exact uP
    refine done_ (done_of HT_.out (by kernel_rfl)) ?_
    have hnb102 := NB273_266.out
    have hnc102 := NB266_273.out
    have hnb103 := NB273_278.out
    have hnc103 := NB278_273.out
    have hcz104_0 : w101.cell? ⟨gb273, 0, none⟩ = some (.slice Ao11 y270.length co11) := uF BK273 0
    have hfz104_0 := blk_frozen BK273.out 0
    have hnb105 := NB278_266.out
    have hnc105 := NB266_278.out
    have hcz106_0 : w101.cell? ⟨gb278, 0, none⟩ = some (.int .i64 t274) := uF BK278 0
    have hcz106_1 : w101.cell? ⟨gb278, 1, none⟩ = some (.slice Ao21 t275.length co21) := uF BK278 1
    have hfz106_0 := blk_frozen BK278.out 0
    have hfz106_1 := blk_frozen BK278.out 1
    have hcz107_0 : w101.cell? ⟨gb283, 0, none⟩ = some (.int .i64 ((rd_T28 l2 0).f0)) := uF BK283 0
    have hcz107_1 : w101.cell? ⟨gb283, 1, none⟩ = some (.int .i64 ((rd_T28 l2 0).f1)) := uF BK283 1
    have hcz107_2 : w101.cell? ⟨gb283, 2, none⟩ = some (.int .i64 ((rd_T28 l2 0).f2)) := uF BK283 2
    have hcz107_3 : w101.cell? ⟨gb283, 3, none⟩ = some (.slice A282_3 ((rd_T28 l2 0).f3).length c282_3) := uF BK283 3
    have hfz107_0 := blk_frozen BK283.out 0
    have hfz107_1 := blk_frozen BK283.out 1
    have hfz107_2 := blk_frozen BK283.out 2
    have hfz107_3 := blk_frozen BK283.out 3
    try go_wp2_with (first | ((with_reducible refine gate_callee (f := 17) rfl ?_); refine goesL_ (some 80) rfl rfl Tryd.func17 (by kernel_rfl) rfl #[.agg #[.slice Ao11 y270.length co11], .agg #[.int .i64 t274, .slice Ao21 t275.length co21], .int .i64 ((rd_T28 l2 0).f0), .int .i64 ((rd_T28 l2 0).f1), .int .i64 0] rfl uC ?_; (with_reducible refine (mon_Else.calls kj5 _ _ y270 t274 _ _ t275 ((rd_T28 l2 0).f0) ((rd_T28 l2 0).f1) 0 t290 t291 _ ?side1 ?side2 ?side3 ?side4 A91.out).mono ?_); (case side1 => exact uS (Kd.R_reads' HO_274000.out).2.2); (case side2 => exact (Kd.R_reads' HO_274000.out).2.1); (case side3 => exact uS (Kd.R_reads' HO_279001.out).2.2); (case side4 => exact (Kd.R_reads' HO_279001.out).2.1); rintro e w108 ⟨v292, rfl, ho0, hb⟩; refine ⟨_, rfl, ?_⟩; replace HO_274000 := uRd HO_274000 hb; have HO293 := Aside0.mk (Kd.R_lower (Kd.R_new' ho0 (Kd.R_lt (uR HO_279001))) (below_size (uB4 HB GE266 GE273 GE278 GE283))); replace HO_279001 := Aside0.mk (Kd.R_elder' (uR HO_279001) (Kd.R_base ho0) hb); replace BK266 := uD BK266 hb; replace BK273 := uD BK273 hb; replace BK278 := uD BK278 hb; replace BK283 := uD BK283 hb; replace HB := Aside0.mk (below_step (uB4 HB GE266 GE273 GE278 GE283) hb); (try clear hb); (try clear hb2); (try clear hk); (try clear hi); (try clear ho0)) | ((with_reducible refine gate_dst (N := 11) rfl ?_); (try (refine gate_guard (by rfl) ?_; dsimp only)); refine box_event ?hg (N := 11) ?hd (cs := #[.int .i64 0, .slice none 0 0]) (t := 34) ?hr ?_; (case hd => rfl); (case hg => rfl); (case hr => first | (go_simp; done) | (go_simp; rfl)); intro gb294 hg w109 hbox hb; replace HO_274000 := uRd HO_274000 hb; replace HO_279001 := uRd HO_279001 hb; replace HO293 := uRd HO293 hb; have BK294 := Aside0.mk (hbox); have GW294 := Aside0.mk ((by rw [hg]; exact (below_size (uB4 HB GE266 GE273 GE278 GE283)) : w.heap.size ≤ gb294)); have GE294 := Aside0.mk ((by rw [hg]; exact (below_size (uB4 HB GE266 GE273 GE278 GE283)) : w.heap.size ≤ gb294)); replace HB := Aside0.mk (below_step (uB4 HB GE266 GE273 GE278 GE283) hb); have NB266_294 := uN1 BK266 hg; have NB294_266 := uN2 BK266 hg; replace BK266 := uD BK266 hb; have NB273_294 := uN1 BK273 hg; have NB294_273 := uN2 BK273 hg; replace BK273 := uD BK273 hb; have NB278_294 := uN1 BK278 hg; have NB294_278 := uN2 BK278 hg; replace BK278 := uD BK278 hb; have NB283_294 := uN1 BK283 hg; have NB294_283 := uN2 BK283 hg; replace BK283 := uD BK283 hb; clear hb hbox hg; have hnb110 := NB294_266.out; have hnc110 := NB266_294.out; have hnb111 := NB294_273.out; have hnc111 := NB273_294.out; have hnb112 := NB294_278.out; have hnc112 := NB278_294.out; have hnb113 := NB294_283.out; have hnc113 := NB283_294.out; have hcz114_0 : w109.cell? ⟨gb294, 0, none⟩ = some (.int .i64 0) := uF BK294 0; have hcz114_1 : w109.cell? ⟨gb294, 1, none⟩ = some (.slice none 0 0) := uF BK294 1; have hfz114_0 := blk_frozen BK294.out 0; have hfz114_1 := blk_frozen BK294.out 1; obtain ⟨Ao115, co115, eo115⟩ := Kd.R_slice HO293.out; subst eo115))
    go_loopg [12] kj5 (fun kq v12 w' => ∃ (x12_2 : Int) (x295000_2 : Int) (x295001_2 : List (S58)) (u295001 : Value), v12 = .int .i64 x12_2 ∧ Aside0 (colloquylaw20_MonBack.l0 kq l0 l2 ((rd_T28 l2 0).f2) x12_2 y270 t274 t275 ((rd_T28 l2 0).f0) ((rd_T28 l2 0).f1) ((rd_T28 l2 0).f2) ((rd_T28 l2 0).f3) x295000_2 x295001_2 = some r) ∧ Aside0 (kq ≤ kj5) ∧ Aside0 (Kd.R (Kd.int .u8) 5 w' w.heap.size (fun _ => True) (.slice Ao11 y270.length co11) y270) ∧ Aside0 (Kd.R k58 58 w' w.heap.size (fun k_ => some k_ ≠ (u295001 : Value).ownBlock) (.slice Ao21 t275.length co21) t275) ∧ Aside0 (Kd.R k58 58 w' w.heap.size (fun k_ => some k_ ≠ ((.slice Ao21 t275.length co21) : Value).ownBlock) u295001 x295001_2) ∧ Aside0 (w'.heap[gb266]? = some (.cells #[.int .i64 a1_0, (.slice A1_1 l1_1.length c1_1)] 25 (0, 0))) ∧ Aside0 (w'.heap[gb273]? = some (.cells #[(.slice Ao11 y270.length co11)] 31 (0, 0))) ∧ Aside0 (w'.heap[gb278]? = some (.cells #[.int .i64 t274, (.slice Ao21 t275.length co21)] 34 (0, 0))) ∧ Aside0 (w'.heap[gb283]? = some (.cells #[.int .i64 ((rd_T28 l2 0).f0), .int .i64 ((rd_T28 l2 0).f1), .int .i64 ((rd_T28 l2 0).f2), (.slice A282_3 ((rd_T28 l2 0).f3).length c282_3)] 28 (0, 0))) ∧ Aside0 (w'.heap[gb294]? = some (.cells #[.int .i64 x295000_2, u295001] 34 (0, 0))) ∧ Aside0 (Below w.heap.size w w'))
    case atStart => exact ⟨(1), (t290), (t291), (.slice Ao115 t291.length co115), (by first | rfl | (simp; done) | (simp [*]; done)), H', ⟨Nat.le_refl _⟩, ⟨uT2 HO_274000 BK294 (fun _ hk => trivial)⟩, ⟨uT2 HO_279001 BK294 (fun _ hk => hk.1.2)⟩, ⟨uT2 HO293 BK294 (fun _ hk => hk.1.2)⟩, ⟨uZ BK266 NB266_294⟩, ⟨uZ BK273 NB273_294⟩, ⟨uZ BK278 NB278_294⟩, ⟨uZ BK283 NB283_294⟩, ⟨by (with_reducible repeat (first | refine blk_drewN ?_ _ | refine blk_drew ?_ | refine blk_alloc ?_ _)); refine blk_put (cs := #[.int .i64 t290, .slice none 0 0]) ?_ 1 _ rfl; (with_reducible repeat (first | refine blk_drewN ?_ _ | refine blk_drew ?_ | refine blk_alloc ?_ _)); refine blk_put (cs := #[.int .i64 0, .slice none 0 0]) ?_ 0 _ rfl; (with_reducible repeat (first | refine blk_drewN ?_ _ | refine blk_drew ?_ | refine blk_alloc ?_ _)); exact BK294.out⟩, ⟨uB5 HB GE266 GE273 GE278 GE283 GE294⟩⟩
    case round =>
    clear H'
    try clear c1
    try clear c2
    try clear p2
    try clear q2
    try clear hx2
    try clear qi2
    try clear c7
    try clear c9
    try clear c10
    try clear c11
    try clear c12
    try clear c17
    try clear c25
    try clear c28
    try clear p28
    try clear q28
    try clear hx28
    try clear qi28
    try clear c78
    try clear c93
    try clear c94
    try clear c95
    try clear c102
    try clear c103
    try clear c105
    try clear c110
    try clear c111
    try clear c112
    try clear c113
    try clear hcz104_0
    try clear hcz106_0
    try clear hcz106_1
    try clear hcz107_0
    try clear hcz107_1
    try clear hcz107_2
    try clear hcz107_3
    try clear hcz114_0
    try clear hcz114_1
    try clear hcz96_0
    try clear hcz96_1
    try clear hcz96_2
    try clear hcz96_3
    try clear hfz104_0
    try clear hfz106_0
    try clear hfz106_1
    try clear hfz107_0
    try clear hfz107_1
    try clear hfz107_2
    try clear hfz107_3
    try clear hfz114_0
    try clear hfz114_1
    try clear hfz96_0
    try clear hfz96_1
    try clear hfz96_2
    try clear hfz96_3
    try clear hx282_0
    try clear hx282_1
    try clear hx282_2
    try clear hx282_3
    try clear p282
    try clear q282
    obtain ⟨x12_2, x295000_2, x295001_2, u295001, rfl, HA, HK2, HO_274000, HO_279001, HO_295001, BK266, BK273, BK278, BK283, BK294, HB⟩ := hrel
    cases gk with
    | zero => exact absurd HA.out (by simp [colloquylaw20_MonBack.l0])
    | succ k2 =>
    have H := HA.out
    clear HA
    simp only [colloquylaw20_MonBack.l0] at H
    have HC116 := Aside0.mk H
    clear H
    go_upto_region 11 with (fail)
    go_cut [88] (fun v88 wc => ∃ (kq : Nat) (x88_115 : Bool), v88 = .bool x88_115 ∧ Aside0 (colloquylaw20_MonBack.j2 kq l0 l2 ((rd_T28 l2 0).f2) x12_2 x88_115 y270 t274 t275 ((rd_T28 l2 0).f0) ((rd_T28 l2 0).f1) ((rd_T28 l2 0).f2) ((rd_T28 l2 0).f3) x295000_2 x295001_2 = some r) ∧ Aside0 (kq ≤ k2) ∧ Aside0 (Kd.R (Kd.int .u8) 5 wc w.heap.size (fun _ => True) (.slice Ao11 y270.length co11) y270) ∧ Aside0 (Kd.R k58 58 wc w.heap.size (fun k_ => some k_ ≠ (u295001 : Value).ownBlock) (.slice Ao21 t275.length co21) t275) ∧ Aside0 (Kd.R k58 58 wc w.heap.size (fun k_ => some k_ ≠ ((.slice Ao21 t275.length co21) : Value).ownBlock) u295001 x295001_2) ∧ Aside0 (wc.heap[gb266]? = some (.cells #[.int .i64 a1_0, (.slice A1_1 l1_1.length c1_1)] 25 (0, 0))) ∧ Aside0 (wc.heap[gb273]? = some (.cells #[(.slice Ao11 y270.length co11)] 31 (0, 0))) ∧ Aside0 (wc.heap[gb278]? = some (.cells #[.int .i64 t274, (.slice Ao21 t275.length co21)] 34 (0, 0))) ∧ Aside0 (wc.heap[gb283]? = some (.cells #[.int .i64 ((rd_T28 l2 0).f0), .int .i64 ((rd_T28 l2 0).f1), .int .i64 ((rd_T28 l2 0).f2), (.slice A282_3 ((rd_T28 l2 0).f3).length c282_3)] 28 (0, 0))) ∧ Aside0 (wc.heap[gb294]? = some (.cells #[.int .i64 x295000_2, u295001] 34 (0, 0))) ∧ Aside0 (Below w.heap.size w wc))
    case first =>
     have H := HC116.out
     clear HC116
     by_cases c117 : x12_2 < (l2.length : Int)
     ·rw [if_pos c117] at H
      have c117b0 : decide (x12_2 < (l2.length : Int)) = true := decide_eq_true c117
      clear c117
      (first | rw [c117b0] | (simp only [i64_w, i32_w]; rw [c117b0]) | skip)
      have H' := Aside0.mk H
      clear H
      go_wp2
      go_meet
      case rel => exact ⟨_, (decide (x12_2 < 40)), (by first | rfl | (simp; done) | (simp [*]; done)), H', ⟨by have := HJ5.out; have := HK2.out; first | omega | exact Nat.le_refl _⟩, ⟨uR HO_274000⟩, ⟨uR HO_279001⟩, ⟨uR HO_295001⟩, ⟨uK BK266⟩, ⟨uK BK273⟩, ⟨uK BK278⟩, ⟨uK BK283⟩, ⟨uK BK294⟩, ⟨uB5 HB GE266 GE273 GE278 GE283 GE294⟩⟩
     rw [if_neg c117] at H
     have c117b0 : decide (x12_2 < (l2.length : Int)) = false := decide_eq_false c117
     clear c117
     (first | rw [c117b0] | (simp only [i64_w, i32_w]; rw [c117b0]) | skip)
     have H' := Aside0.mk H
     clear H
     go_wp2
     go_meet
     case rel => exact ⟨_, (false), (by first | rfl | (simp; done) | (simp [*]; done)), H', ⟨by have := HJ5.out; have := HK2.out; first | omega | exact Nat.le_refl _⟩, ⟨uR HO_274000⟩, ⟨uR HO_279001⟩, ⟨uR HO_295001⟩, ⟨uK BK266⟩, ⟨uK BK273⟩, ⟨uK BK278⟩, ⟨uK BK283⟩, ⟨uK BK294⟩, ⟨uB5 HB GE266 GE273 GE278 GE283 GE294⟩⟩
    case rest =>
    clear HC116
    try clear c1
    try clear c2
    try clear p2
    try clear q2
    try clear hx2
    try clear qi2
    try clear c7
    try clear c9
    try clear c10
    try clear c11
    try clear c12
    try clear c17
    try clear c25
    try clear c28
    try clear p28
    try clear q28
    try clear hx28
    try clear qi28
    try clear c78
    try clear c93
    try clear c94
    try clear c95
    try clear c102
    try clear c103
    try clear c105
    try clear c110
    try clear c111
    try clear c112
    try clear c113
    try clear c117
    try clear c117b0
    try clear hcz104_0
    try clear hcz106_0
    try clear hcz106_1
    try clear hcz107_0
    try clear hcz107_1
    try clear hcz107_2
    try clear hcz107_3
    try clear hcz114_0
    try clear hcz114_1
    try clear hcz96_0
    try clear hcz96_1
    try clear hcz96_2
    try clear hcz96_3
    try clear hfz104_0
    try clear hfz106_0
    try clear hfz106_1
    try clear hfz107_0
    try clear hfz107_1
    try clear hfz107_2
    try clear hfz107_3
    try clear hfz114_0
    try clear hfz114_1
    try clear hfz96_0
    try clear hfz96_1
    try clear hfz96_2
    try clear hfz96_3
    try clear hx282_0
    try clear hx282_1
    try clear hx282_2
    try clear hx282_3
    try clear p2
    try clear p28
    try clear p282
    try clear q2
    try clear q28
    try clear q282
    obtain ⟨kq, x88_115, rfl, HA, HJ115, HO_274000, HO_279001, HO_295001, BK266, BK273, BK278, BK283, BK294, HB⟩ := hcut
    cases kq with
    | zero => exact absurd HA.out (by simp [colloquylaw20_MonBack.j2])
    | succ kj115 =>
    have H := HA.out
    clear HA
    simp only [colloquylaw20_MonBack.j2] at H
    by_cases c118 : x88_115 = true
    ·as_aux_lemma =>
     subst c118
     have H1 : ((mon_Mon_Pc.f x295000_2 x295001_2).bind fun t296 => ((lattice_Lat_Leq.f kj115 y270 t296 ((rd_T28 l2 0).f2)).bind fun t297 => (if t297 = true then (none) else (colloquylaw20_MonBack.l1 kj115 l0 l2 ((rd_T28 l2 0).f2) x12_2 0 y270 t274 t275 ((rd_T28 l2 0).f0) ((rd_T28 l2 0).f1) ((rd_T28 l2 0).f2) ((rd_T28 l2 0).f3) x295000_2 x295001_2)))) = some r := by rw [if_pos rfl] at H; exact H
     clear H
     have H := H1
     clear H1
     replace H := Option.bind_eq_some_iff.mp H
     obtain ⟨t296, A1190, H⟩ := H
     replace H : ((lattice_Lat_Leq.f kj115 y270 t296 ((rd_T28 l2 0).f2)).bind fun t297 => (if t297 = true then (none) else (colloquylaw20_MonBack.l1 kj115 l0 l2 ((rd_T28 l2 0).f2) x12_2 0 y270 t274 t275 ((rd_T28 l2 0).f0) ((rd_T28 l2 0).f1) ((rd_T28 l2 0).f2) ((rd_T28 l2 0).f3) x295000_2 x295001_2))) = some r := H
     have A119 := Aside0.mk A1190
     clear A1190
     replace H := Option.bind_eq_some_iff.mp H
     obtain ⟨t297, A1200, H⟩ := H
     replace H : (if t297 = true then (none) else (colloquylaw20_MonBack.l1 kj115 l0 l2 ((rd_T28 l2 0).f2) x12_2 0 y270 t274 t275 ((rd_T28 l2 0).f0) ((rd_T28 l2 0).f1) ((rd_T28 l2 0).f2) ((rd_T28 l2 0).f3) x295000_2 x295001_2)) = some r := H
     have A120 := Aside0.mk A1200
     clear A1200
     by_cases c121 : t297 = true
     ·subst c121
      have H1 : (none) = some r := by rw [if_pos rfl] at H; exact H
      clear H
      have H := H1
      clear H1
      exact absurd H (by simp)
     replace c121 := Bool.eq_false_iff.mpr c121
     subst c121
     have H1 : (colloquylaw20_MonBack.l1 kj115 l0 l2 ((rd_T28 l2 0).f2) x12_2 0 y270 t274 t275 ((rd_T28 l2 0).f0) ((rd_T28 l2 0).f1) ((rd_T28 l2 0).f2) ((rd_T28 l2 0).f3) x295000_2 x295001_2) = some r := by rw [if_neg (show ¬ (false = true) by decide)] at H; exact H
     clear H
     have H := H1
     clear H1
     have H' := Aside0.mk H
     clear H
     try go_wp2
     replace HO_274000 := Aside0.mk (Kd.R_drew HO_274000.out)
     replace HO_279001 := Aside0.mk (Kd.R_drew HO_279001.out)
     replace HO_295001 := Aside0.mk (Kd.R_drew HO_295001.out)
     replace BK266 := Aside0.mk (blk_drew BK266.out)
     replace BK273 := Aside0.mk (blk_drew BK273.out)
     replace BK278 := Aside0.mk (blk_drew BK278.out)
     replace BK283 := Aside0.mk (blk_drew BK283.out)
     replace BK294 := Aside0.mk (blk_drew BK294.out)
     replace HB := Aside0.mk (below_drew1 HB.out)
     obtain ⟨Ao123, co123, eo123⟩ := Kd.R_slice HO_295001.out
     (first | subst eo123 | (injection eo123 with f1_ f2_ f3_; have f4_ := f1_.symm; have f5_ := f3_.symm; clear f1_ f2_ f3_; subst f4_; subst f5_))
     refine start_ (n := 5) (S := fun w' => w'.cell? ⟨gb273, 0, none⟩ = some (.slice Ao11 y270.length co11) ∧ w'.cell? ⟨gb294, 0, none⟩ = some (.int .i64 x295000_2) ∧ w'.cell? ⟨gb294, 1, none⟩ = some (.slice Ao123 x295001_2.length co123)) (ds := []) #[false, false, false, false, false] (by kernel_rfl) rfl rfl ⟨uF BK273 0, uF BK294 0, uF BK294 1⟩ (fun hHeld => ?_)
     generalize wc.drew = w122 at HO_274000 HO_279001 HO_295001 BK266 BK273 BK278 BK283 BK294 HB hHeld ⊢
     refine pure_ (i := 3) (N := some 94) (v := ?_) (a' := ?_) #[false, false, false, true, false] rfl rfl (by kernel_rfl) (fun _ _ _ h => h) (Or.inl ⟨by rfl, ?_⟩) ?_ ?_
     rotate_left
     ·intro w'
      go_simp
      with_reducible rfl
     rotate_left
     ·exact uP
     refine take_ (i := 0) (N := some 91) (v := ?_) (a' := ?_) #[true, false, false, true, false] rfl rfl (by kernel_rfl) (fun _ _ _ h => h) (Or.inl ⟨by rfl, ?_⟩) hHeld ?_ ?_
     rotate_left
     ·rintro w' ⟨s0, s1, s2⟩
      go_simp
      with_reducible rfl
     rotate_left
     ·exact uP
     refine take_ (i := 1) (N := some 92) (v := ?_) (a' := ?_) #[true, true, false, true, false] rfl rfl (by kernel_rfl) (fun _ _ _ h => h) (Or.inl ⟨by rfl, ?_⟩) hHeld ?_ ?_
     rotate_left
     ·rintro w' ⟨s0, s1, s2⟩
      go_simp
      with_reducible rfl
     rotate_left
     ·exact uP
     refine one_ (i := 2) (N := some 93) #[true, true, true, true, false] rfl rfl (by kernel_rfl) (by decide) (fun K hK => ?_)
     refine goes_ Tryd.func12 (by kernel_rfl) rfl #[.agg #[.int .i64 x295000_2, .slice Ao123 x295001_2.length co123]] (by rfl) rfl rfl uC ?_
     with_reducible refine (mon_Mon_Pc.calls x295000_2 _ _ x295001_2 t296 _ ?side1 ?side2 A119.out).mono ?_
     (case side1 => exact uS (Kd.R_reads' HO_295001.out).2.2)
     (case side2 => exact (Kd.R_reads' HO_295001.out).2.1)
     rintro e w124 ⟨rfl, hb⟩
     refine ⟨_, rfl, ?_⟩
     replace HO_274000 := uRd HO_274000 hb
     replace HO_279001 := uRd HO_279001 hb
     replace HO_295001 := uRd HO_295001 hb
     replace BK266 := uD BK266 hb
     replace BK273 := uD BK273 hb
     replace BK278 := uD BK278 hb
     replace BK283 := uD BK283 hb
     replace BK294 := uD BK294 hb
     replace HB := Aside0.mk (below_step (uB5 HB GE266 GE273 GE278 GE283 GE294) hb)
     (try clear hb)
     (try clear hb2)
     (try clear hk)
     (try clear hi)
     refine hK.out _ _ ⟨uF BK273 0, uF BK294 0, uF BK294 1⟩ (fun hHeld => ?_)
     clear hK K
     refine norm_ (a' := ?_) ?_ ?_
     rotate_left
     ·show Act.put _ (some 93) _ = _
      exact uP
     refine one_ (i := 4) (N := some 95) #[true, true, true, true, true] rfl rfl (by kernel_rfl) (by decide) (fun K hK => ?_)
     refine goes_ Tryd.func25 (by kernel_rfl) rfl #[.agg #[.slice Ao11 y270.length co11], .int .i64 t296, .int .i64 ((rd_T28 l2 0).f2)] (by rfl) rfl rfl uC ?_
     with_reducible refine (lattice_Lat_Leq.calls kj115 _ _ y270 t296 ((rd_T28 l2 0).f2) false _ ?side1 ?side2 A120.out).mono ?_
     (case side1 => exact uS (Kd.R_reads' HO_274000.out).2.2)
     (case side2 => exact (Kd.R_reads' HO_274000.out).2.1)
     rintro e w125 ⟨rfl, hb⟩
     refine ⟨_, rfl, ?_⟩
     replace HO_274000 := uRd HO_274000 hb
     replace HO_279001 := uRd HO_279001 hb
     replace HO_295001 := uRd HO_295001 hb
     replace BK266 := uD BK266 hb
     replace BK273 := uD BK273 hb
     replace BK278 := uD BK278 hb
     replace BK283 := uD BK283 hb
     replace BK294 := uD BK294 hb
     replace HB := Aside0.mk (below_step (uB5 HB GE266 GE273 GE278 GE283 GE294) hb)
     (try clear hb)
     (try clear hb2)
     (try clear hk)
     (try clear hi)
     refine hK.out _ _ ⟨uF BK273 0, uF BK294 0, uF BK294 1⟩ (fun hHeld => ?_)
     clear hK K
     refine norm_ (a' := ?_) ?_ ?_
     rotate_left
     ·show Act.put _ (some 95) _ = _
      exact uP
     refine done_ (by kernel_rfl) ?_
     try go_wp2
     go_loopg [13] kj115 (fun kq v13 w' => ∃ (x13_4 : Int), v13 = .int .i64 x13_4 ∧ Aside0 (colloquylaw20_MonBack.l1 kq l0 l2 ((rd_T28 l2 0).f2) x12_2 x13_4 y270 t274 t275 ((rd_T28 l2 0).f0) ((rd_T28 l2 0).f1) ((rd_T28 l2 0).f2) ((rd_T28 l2 0).f3) x295000_2 x295001_2 = some r) ∧ Aside0 (kq ≤ kj115) ∧ Aside0 (Kd.R (Kd.int .u8) 5 w' w.heap.size (fun _ => True) (.slice Ao11 y270.length co11) y270) ∧ Aside0 (Kd.R k58 58 w' w.heap.size (fun k_ => some k_ ≠ ((.slice Ao123 x295001_2.length co123) : Value).ownBlock) (.slice Ao21 t275.length co21) t275) ∧ Aside0 (Kd.R k58 58 w' w.heap.size (fun k_ => some k_ ≠ ((.slice Ao21 t275.length co21) : Value).ownBlock) (.slice Ao123 x295001_2.length co123) x295001_2) ∧ Aside0 (w'.heap[gb266]? = some (.cells #[.int .i64 a1_0, (.slice A1_1 l1_1.length c1_1)] 25 (0, 0))) ∧ Aside0 (w'.heap[gb273]? = some (.cells #[(.slice Ao11 y270.length co11)] 31 (0, 0))) ∧ Aside0 (w'.heap[gb278]? = some (.cells #[.int .i64 t274, (.slice Ao21 t275.length co21)] 34 (0, 0))) ∧ Aside0 (w'.heap[gb283]? = some (.cells #[.int .i64 ((rd_T28 l2 0).f0), .int .i64 ((rd_T28 l2 0).f1), .int .i64 ((rd_T28 l2 0).f2), (.slice A282_3 ((rd_T28 l2 0).f3).length c282_3)] 28 (0, 0))) ∧ Aside0 (w'.heap[gb294]? = some (.cells #[.int .i64 x295000_2, (.slice Ao123 x295001_2.length co123)] 34 (0, 0))) ∧ Aside0 (Below w.heap.size w w'))
     case atStart => exact ⟨(0), (by first | rfl | (simp; done) | (simp [*]; done)), H', ⟨Nat.le_refl _⟩, ⟨uR HO_274000⟩, ⟨uR HO_279001⟩, ⟨uR HO_295001⟩, ⟨uK BK266⟩, ⟨uK BK273⟩, ⟨uK BK278⟩, ⟨uK BK283⟩, ⟨uK BK294⟩, ⟨uB5 HB GE266 GE273 GE278 GE283 GE294⟩⟩
     case round =>
     clear H'
     try clear c1
     try clear c2
     try clear p2
     try clear q2
     try clear hx2
     try clear qi2
     try clear c7
     try clear c9
     try clear c10
     try clear c11
     try clear c12
     try clear c17
     try clear c25
     try clear c28
     try clear p28
     try clear q28
     try clear hx28
     try clear qi28
     try clear c78
     try clear c93
     try clear c94
     try clear c95
     try clear c102
     try clear c103
     try clear c105
     try clear c110
     try clear c111
     try clear c112
     try clear c113
     try clear c117
     try clear c117b0
     try clear c118
     try clear c121
     try clear hcz104_0
     try clear hcz106_0
     try clear hcz106_1
     try clear hcz107_0
     try clear hcz107_1
     try clear hcz107_2
     try clear hcz107_3
     try clear hcz114_0
     try clear hcz114_1
     try clear hcz96_0
     try clear hcz96_1
     try clear hcz96_2
     try clear hcz96_3
     try clear hfz104_0
     try clear hfz106_0
     try clear hfz106_1
     try clear hfz107_0
     try clear hfz107_1
     try clear hfz107_2
     try clear hfz107_3
     try clear hfz114_0
     try clear hfz114_1
     try clear hfz96_0
     try clear hfz96_1
     try clear hfz96_2
     try clear hfz96_3
     try clear hx282_0
     try clear hx282_1
     try clear hx282_2
     try clear hx282_3
     try clear p2
     try clear p28
     try clear p282
     try clear q2
     try clear q28
     try clear q282
     obtain ⟨x13_4, rfl, HA, HK4, HO_274000, HO_279001, HO_295001, BK266, BK273, BK278, BK283, BK294, HB⟩ := hrel
     cases gk with
     | zero => exact absurd HA.out (by simp [colloquylaw20_MonBack.l1])
     | succ k4 =>
     have H := HA.out
     clear HA
     simp only [colloquylaw20_MonBack.l1] at H
     by_cases c126 : x13_4 < (t275.length : Int)
     ·as_aux_lemma =>
      rw [if_pos c126] at H
      have c126b0 : decide (x13_4 < (t275.length : Int)) = true := decide_eq_true c126
      clear c126
      by_cases c127 : x13_4 ≥ (x295001_2.length : Int)
      ·rw [if_pos c127] at H
       have c127b0 : decide ((x295001_2.length : Int) ≤ x13_4) = true := decide_eq_true c127
       clear c127
       exact absurd H (by simp)
      as_aux_lemma =>
      rw [if_neg c127] at H
      have c127b0 : decide ((x295001_2.length : Int) ≤ x13_4) = false := decide_eq_false c127
      clear c127
      by_cases c128 : 0 ≤ x13_4
      ·as_aux_lemma =>
       rw [if_pos c128] at H
       have c128b0 : decide (0 ≤ x13_4) = true := decide_eq_true c128
       clear c128
       by_cases c129 : x13_4 < (x295001_2.length : Int)
       ·as_aux_lemma =>
        rw [if_pos c129] at H
        have c129b0 : decide (x13_4 < (x295001_2.length : Int)) = true := decide_eq_true c129
        clear c129
        by_cases c130 : (!(((rd_T58 x295001_2 x13_4).f0) == ((rd_T58 t275 x13_4).f0)) || (!(((rd_T58 x295001_2 x13_4).f1) == ((rd_T58 t275 x13_4).f1)) || (!(((rd_T58 x295001_2 x13_4).f2) == ((rd_T58 t275 x13_4).f2))))) = true
        ·rw [if_pos c130] at H
         exact absurd H (by simp)
        as_aux_lemma =>
        rw [if_neg c130] at H
        have c130b0 : (!(((rd_T58 x295001_2 x13_4).f0) == ((rd_T58 t275 x13_4).f0)) || (!(((rd_T58 x295001_2 x13_4).f1) == ((rd_T58 t275 x13_4).f1)) || (!(((rd_T58 x295001_2 x13_4).f2) == ((rd_T58 t275 x13_4).f2))))) = false := by simpa using c130
        clear c130
        have H' := Aside0.mk H
        clear H
        have hnb131 := NB278_266.out
        have hnc131 := NB266_278.out
        have hnb132 := NB278_273.out
        have hnc132 := NB273_278.out
        have hnb133 := NB278_283.out
        have hnc133 := NB283_278.out
        have hnb134 := NB278_294.out
        have hnc134 := NB294_278.out
        have hcz135_0 : wr.cell? ⟨gb278, 0, none⟩ = some (.int .i64 t274) := uF BK278 0
        have hcz135_1 : wr.cell? ⟨gb278, 1, none⟩ = some (.slice Ao21 t275.length co21) := uF BK278 1
        have hfz135_0 := blk_frozen BK278.out 0
        have hfz135_1 := blk_frozen BK278.out 1
        try go_wp2
        replace HO_274000 := Aside0.mk (Kd.R_drew HO_274000.out)
        replace HO_279001 := Aside0.mk (Kd.R_drew HO_279001.out)
        replace HO_295001 := Aside0.mk (Kd.R_drew HO_295001.out)
        replace BK266 := Aside0.mk (blk_drew BK266.out)
        replace BK273 := Aside0.mk (blk_drew BK273.out)
        replace BK278 := Aside0.mk (blk_drew BK278.out)
        replace BK283 := Aside0.mk (blk_drew BK283.out)
        replace BK294 := Aside0.mk (blk_drew BK294.out)
        replace HB := Aside0.mk (below_drew1 HB.out)
        have p298 : 0 ≤ (x13_4 : Int) := of_decide_eq_true (by first | (with_reducible assumption) | assumption)
        have q298 : x13_4 < (x295001_2.length : Int) := of_decide_eq_true (by first | (with_reducible assumption) | assumption)
        obtain ⟨ad298, e298, hx298_0, hx298_1, hx298_2⟩ := at_T58 (Kd.R_reads' HO_295001.out).2.2 x13_4 p298 q298
        cases e298
        replace p298 := eq_true p298
        replace q298 := eq_true q298
        have p299 : 0 ≤ (x13_4 : Int) := of_decide_eq_true (by first | (with_reducible assumption) | assumption)
        have q299 : x13_4 < (t275.length : Int) := of_decide_eq_true (by first | (with_reducible assumption) | assumption)
        obtain ⟨ad299, e299, hx299_0, hx299_1, hx299_2⟩ := at_T58 (Kd.R_reads' HO_279001.out).2.2 x13_4 p299 q299
        cases e299
        replace p299 := eq_true p299
        replace q299 := eq_true q299
        refine start_ (n := 18) (S := fun w' => w'.cell? ⟨gb294, 0, none⟩ = some (.int .i64 x295000_2) ∧ w'.cell? ⟨gb294, 1, none⟩ = some (.slice (some ad298) x295001_2.length co123) ∧ w'.cell? ⟨gb278, 0, none⟩ = some (.int .i64 t274) ∧ w'.cell? ⟨gb278, 1, none⟩ = some (.slice (some ad299) t275.length co21) ∧ w'.cell? (ad298.add ((x13_4).toNat * 3)) = some (.int .i64 ((rd_T58 x295001_2 x13_4).f0)) ∧ w'.cell? ⟨(ad298.add ((x13_4).toNat * 3)).block, (ad298.add ((x13_4).toNat * 3)).off + 1, none⟩ = some (.int .i64 ((rd_T58 x295001_2 x13_4).f1)) ∧ w'.cell? ⟨(ad298.add ((x13_4).toNat * 3)).block, (ad298.add ((x13_4).toNat * 3)).off + 2, none⟩ = some (.int .i64 ((rd_T58 x295001_2 x13_4).f2)) ∧ w'.cell? (ad299.add ((x13_4).toNat * 3)) = some (.int .i64 ((rd_T58 t275 x13_4).f0)) ∧ w'.cell? ⟨(ad299.add ((x13_4).toNat * 3)).block, (ad299.add ((x13_4).toNat * 3)).off + 1, none⟩ = some (.int .i64 ((rd_T58 t275 x13_4).f1)) ∧ w'.cell? ⟨(ad299.add ((x13_4).toNat * 3)).block, (ad299.add ((x13_4).toNat * 3)).off + 2, none⟩ = some (.int .i64 ((rd_T58 t275 x13_4).f2))) (ds := []) u_f18 (by kernel_rfl) rfl rfl ⟨uF BK294 0, uF BK294 1, uF BK278 0, uF BK278 1, hx298_0, hx298_1, hx298_2, hx299_0, hx299_1, hx299_2⟩ (fun hHeld => ?_); refine with_tabW colloquylaw20_MonBack.tab18 colloquylaw20_MonBack.bits18 (fun HT_ HW_ => ?_)
        generalize wr.drew = w136 at HO_274000 HO_279001 HO_295001 BK266 BK273 BK278 BK283 BK294 HB hx298_0 hx298_1 hx298_2 hx299_0 hx299_1 hx299_2 hHeld ⊢
        refine uPu 0 103 u_t1f17 (v := ?_) (a' := ?_) rfl rfl HT_ ?_ ?_ ?_
        rotate_left
        ·intro w'
         go_simp
         with_reducible rfl
        rotate_left
        ·exact uP
        refine uPu 1 104 u_t2f16 (v := ?_) (a' := ?_) rfl rfl HT_ ?_ ?_ ?_
        rotate_left
        ·intro w'
         go_simp
         with_reducible rfl
        rotate_left
        ·exact uP
        refine uTk 2 105 u_t3f15 (v := ?_) (a' := ?_) rfl rfl HT_ HW_ hHeld ?_ ?_ ?_
        rotate_left
        ·rintro w' ⟨s0, s1, s2, s3, s4, s5, s6, s7, s8, s9⟩
         go_simp
         with_reducible rfl
        rotate_left
        ·exact uP
        refine uPu 3 106 u_t4f14 (v := ?_) (a' := ?_) rfl rfl HT_ ?_ ?_ ?_
        rotate_left
        ·intro w'
         go_simp
         with_reducible rfl
        rotate_left
        ·exact uP
        refine uPu 4 107 u_t5f13 (v := ?_) (a' := ?_) rfl rfl HT_ ?_ ?_ ?_
        rotate_left
        ·intro w'
         go_simp
         with_reducible rfl
        rotate_left
        ·exact uP
        refine uPu 5 108 u_t6f12 (v := ?_) (a' := ?_) rfl rfl HT_ ?_ ?_ ?_
        rotate_left
        ·intro w'
         go_simp
         with_reducible rfl
        rotate_left
        ·exact uP
        refine uPu 6 109 u_t7f11 (v := ?_) (a' := ?_) rfl rfl HT_ ?_ ?_ ?_
        rotate_left
        ·intro w'
         go_simp
         with_reducible rfl
        rotate_left
        ·exact uP
        refine uPu 8 111 u_t7f1t1f9 (v := ?_) (a' := ?_) rfl rfl HT_ ?_ ?_ ?_
        rotate_left
        ·intro w'
         go_simp
         with_reducible rfl
        rotate_left
        ·exact uP
        refine uPu 11 114 u_t7f1t1f2t1f6 (v := ?_) (a' := ?_) rfl rfl HT_ ?_ ?_ ?_
        rotate_left
        ·intro w'
         go_simp
         with_reducible rfl
        rotate_left
        ·exact uP
        refine uPu 13 116 u_t7f1t1f2t1f1t1f4 (v := ?_) (a' := ?_) rfl rfl HT_ ?_ ?_ ?_
        rotate_left
        ·intro w'
         go_simp
         with_reducible rfl
        rotate_left
        ·exact uP
        refine uTk 7 110 u_t9f2t1f1t1f4 (v := ?_) (a' := ?_) rfl rfl HT_ HW_ hHeld ?_ ?_ ?_
        rotate_left
        ·rintro w' ⟨s0, s1, s2, s3, s4, s5, s6, s7, s8, s9⟩
         go_simp
         with_reducible rfl
        rotate_left
        ·exact uP
        refine uPu 9 112 u_t10f1t1f1t1f4 (v := ?_) (a' := ?_) rfl rfl HT_ ?_ ?_ ?_
        rotate_left
        ·intro w'
         go_simp
         with_reducible rfl
        rotate_left
        ·exact uP
        refine uTk 10 113 u_t12f1t1f4 (v := ?_) (a' := ?_) rfl rfl HT_ HW_ hHeld ?_ ?_ ?_
        rotate_left
        ·rintro w' ⟨s0, s1, s2, s3, s4, s5, s6, s7, s8, s9⟩
         go_simp
         with_reducible rfl
        rotate_left
        ·exact uP
        refine uTk 12 115 u_t14f4 (v := ?_) (a' := ?_) rfl rfl HT_ HW_ hHeld ?_ ?_ ?_
        rotate_left
        ·rintro w' ⟨s0, s1, s2, s3, s4, s5, s6, s7, s8, s9⟩
         go_simp
         with_reducible rfl
        rotate_left
        ·exact uP
        refine uPu 14 117 u_t15f3 (v := ?_) (a' := ?_) rfl rfl HT_ ?_ ?_ ?_
        rotate_left
        ·intro w'
         go_simp
         with_reducible rfl
        rotate_left
        ·exact uP
        refine uTk 15 118 u_t16f2 (v := ?_) (a' := ?_) rfl rfl HT_ HW_ hHeld ?_ ?_ ?_
        rotate_left
        ·rintro w' ⟨s0, s1, s2, s3, s4, s5, s6, s7, s8, s9⟩
         go_simp
         with_reducible rfl
        rotate_left
        ·exact uP
        refine uPu 16 119 u_t17f1 (v := ?_) (a' := ?_) rfl rfl HT_ ?_ ?_ ?_
        rotate_left
        ·intro w'
         go_simp
         with_reducible rfl
        rotate_left
        ·exact uP
        refine uPu 17 120 u_t18 (v := ?_) (a' := ?_) rfl rfl HT_ ?_ ?_ ?_
        rotate_left
        ·intro w'
         go_simp
         with_reducible rfl
        rotate_left
        ·exact uP
        refine done_ (done_of HT_.out (by kernel_rfl)) ?_
        try go_wp2
        go_roundg k4
        case measure => have := HJ5.out; have := HK2.out; have := HJ115.out; have := HK4.out; omega
        case rel => exact ⟨(wrap64 (x13_4 + 1)), (by first | rfl | (simp; done) | (simp [*]; done)), H', ⟨by have := HJ5.out; have := HK2.out; have := HJ115.out; have := HK4.out; omega⟩, ⟨uR HO_274000⟩, ⟨uR HO_279001⟩, ⟨uR HO_295001⟩, ⟨uK BK266⟩, ⟨uK BK273⟩, ⟨uK BK278⟩, ⟨uK BK283⟩, ⟨uK BK294⟩, ⟨uB5 HB GE266 GE273 GE278 GE283 GE294⟩⟩
       rw [if_neg c129] at H
       exact absurd H (by simp)
      rw [if_neg c128] at H
      exact absurd H (by simp)
     as_aux_lemma =>
     rw [if_neg c126] at H
     have c126b0 : decide (x13_4 < (t275.length : Int)) = false := decide_eq_false c126
     clear c126
     by_cases c137 : 0 ≤ x12_2
     ·as_aux_lemma =>
      rw [if_pos c137] at H
      have c137b0 : decide (0 ≤ x12_2) = true := decide_eq_true c137
      clear c137
      by_cases c138 : x12_2 < (l2.length : Int)
      ·as_aux_lemma =>
       rw [if_pos c138] at H
       have c138b0 : decide (x12_2 < (l2.length : Int)) = true := decide_eq_true c138
       clear c138
       by_cases c139 : ((rd_T28 l2 x12_2).f2) < 0
       ·as_aux_lemma =>
        rw [if_pos c139] at H
        have c139b0 : decide (((rd_T28 l2 x12_2).f2) < 0) = true := decide_eq_true c139
        clear c139
        replace H := Option.bind_eq_some_iff.mp H
        obtain ⟨⟨t302, t303⟩, A1400, H⟩ := H
        replace H : ((mon_Mon_Pc.f t302 t303).bind fun t306 => ((lattice_Lat_Leq.f k4 y270 t306 ((rd_T28 l2 0).f2)).bind fun t307 => (if t307 = true then ((mon_Join.f k4 t274 t275 ((rd_T28 l2 0).f0)).bind fun bt308 => (if ((rd_T28 l2 x12_2).f0) = ((rd_T28 l2 0).f0) then (if t302 = bt308.1 then (if (t303.length : Int) = (bt308.2.length : Int) then (if (bt308.2.length : Int) = 0 then ((colloquylaw20_sure.f k4).bind fun t313 => (some t313)) else (if 0 ≤ (wrap64 ((bt308.2.length : Int) - 1)) then (if (wrap64 ((bt308.2.length : Int) - 1)) < (t303.length : Int) then (if (wrap64 ((bt308.2.length : Int) - 1)) < (bt308.2.length : Int) then (if (((rd_T58 t303 (wrap64 ((bt308.2.length : Int) - 1))).f0) == ((rd_T58 bt308.2 (wrap64 ((bt308.2.length : Int) - 1))).f0) && (((rd_T58 t303 (wrap64 ((bt308.2.length : Int) - 1))).f1) == ((rd_T58 bt308.2 (wrap64 ((bt308.2.length : Int) - 1))).f1) && (((rd_T58 t303 (wrap64 ((bt308.2.length : Int) - 1))).f2) == ((rd_T58 bt308.2 (wrap64 ((bt308.2.length : Int) - 1))).f2)))) = true then ((colloquylaw20_sure.f k4).bind fun t316 => (some t316)) else (none)) else (none)) else (none)) else (none))) else (none)) else (none)) else (none))) else (colloquylaw20_MonBack.l0 k4 l0 l2 ((rd_T28 l2 0).f2) (wrap64 (x12_2 + 1)) y270 t274 t275 ((rd_T28 l2 0).f0) ((rd_T28 l2 0).f1) ((rd_T28 l2 0).f2) ((rd_T28 l2 0).f3) t302 t303)))) = some r := H
        have A140 := Aside0.mk A1400
        clear A1400
        replace H := Option.bind_eq_some_iff.mp H
        obtain ⟨t306, A1410, H⟩ := H
        replace H : ((lattice_Lat_Leq.f k4 y270 t306 ((rd_T28 l2 0).f2)).bind fun t307 => (if t307 = true then ((mon_Join.f k4 t274 t275 ((rd_T28 l2 0).f0)).bind fun bt308 => (if ((rd_T28 l2 x12_2).f0) = ((rd_T28 l2 0).f0) then (if t302 = bt308.1 then (if (t303.length : Int) = (bt308.2.length : Int) then (if (bt308.2.length : Int) = 0 then ((colloquylaw20_sure.f k4).bind fun t313 => (some t313)) else (if 0 ≤ (wrap64 ((bt308.2.length : Int) - 1)) then (if (wrap64 ((bt308.2.length : Int) - 1)) < (t303.length : Int) then (if (wrap64 ((bt308.2.length : Int) - 1)) < (bt308.2.length : Int) then (if (((rd_T58 t303 (wrap64 ((bt308.2.length : Int) - 1))).f0) == ((rd_T58 bt308.2 (wrap64 ((bt308.2.length : Int) - 1))).f0) && (((rd_T58 t303 (wrap64 ((bt308.2.length : Int) - 1))).f1) == ((rd_T58 bt308.2 (wrap64 ((bt308.2.length : Int) - 1))).f1) && (((rd_T58 t303 (wrap64 ((bt308.2.length : Int) - 1))).f2) == ((rd_T58 bt308.2 (wrap64 ((bt308.2.length : Int) - 1))).f2)))) = true then ((colloquylaw20_sure.f k4).bind fun t316 => (some t316)) else (none)) else (none)) else (none)) else (none))) else (none)) else (none)) else (none))) else (colloquylaw20_MonBack.l0 k4 l0 l2 ((rd_T28 l2 0).f2) (wrap64 (x12_2 + 1)) y270 t274 t275 ((rd_T28 l2 0).f0) ((rd_T28 l2 0).f1) ((rd_T28 l2 0).f2) ((rd_T28 l2 0).f3) t302 t303))) = some r := H
        have A141 := Aside0.mk A1410
        clear A1410
        replace H := Option.bind_eq_some_iff.mp H
        obtain ⟨t307, A1420, H⟩ := H
        replace H : (if t307 = true then ((mon_Join.f k4 t274 t275 ((rd_T28 l2 0).f0)).bind fun bt308 => (if ((rd_T28 l2 x12_2).f0) = ((rd_T28 l2 0).f0) then (if t302 = bt308.1 then (if (t303.length : Int) = (bt308.2.length : Int) then (if (bt308.2.length : Int) = 0 then ((colloquylaw20_sure.f k4).bind fun t313 => (some t313)) else (if 0 ≤ (wrap64 ((bt308.2.length : Int) - 1)) then (if (wrap64 ((bt308.2.length : Int) - 1)) < (t303.length : Int) then (if (wrap64 ((bt308.2.length : Int) - 1)) < (bt308.2.length : Int) then (if (((rd_T58 t303 (wrap64 ((bt308.2.length : Int) - 1))).f0) == ((rd_T58 bt308.2 (wrap64 ((bt308.2.length : Int) - 1))).f0) && (((rd_T58 t303 (wrap64 ((bt308.2.length : Int) - 1))).f1) == ((rd_T58 bt308.2 (wrap64 ((bt308.2.length : Int) - 1))).f1) && (((rd_T58 t303 (wrap64 ((bt308.2.length : Int) - 1))).f2) == ((rd_T58 bt308.2 (wrap64 ((bt308.2.length : Int) - 1))).f2)))) = true then ((colloquylaw20_sure.f k4).bind fun t316 => (some t316)) else (none)) else (none)) else (none)) else (none))) else (none)) else (none)) else (none))) else (colloquylaw20_MonBack.l0 k4 l0 l2 ((rd_T28 l2 0).f2) (wrap64 (x12_2 + 1)) y270 t274 t275 ((rd_T28 l2 0).f0) ((rd_T28 l2 0).f1) ((rd_T28 l2 0).f2) ((rd_T28 l2 0).f3) t302 t303)) = some r := H
        have A142 := Aside0.mk A1420
        clear A1420
        by_cases c143 : t307 = true
        ·as_aux_lemma =>
         subst c143
         have H1 : ((mon_Join.f k4 t274 t275 ((rd_T28 l2 0).f0)).bind fun bt308 => (if ((rd_T28 l2 x12_2).f0) = ((rd_T28 l2 0).f0) then (if t302 = bt308.1 then (if (t303.length : Int) = (bt308.2.length : Int) then (if (bt308.2.length : Int) = 0 then ((colloquylaw20_sure.f k4).bind fun t313 => (some t313)) else (if 0 ≤ (wrap64 ((bt308.2.length : Int) - 1)) then (if (wrap64 ((bt308.2.length : Int) - 1)) < (t303.length : Int) then (if (wrap64 ((bt308.2.length : Int) - 1)) < (bt308.2.length : Int) then (if (((rd_T58 t303 (wrap64 ((bt308.2.length : Int) - 1))).f0) == ((rd_T58 bt308.2 (wrap64 ((bt308.2.length : Int) - 1))).f0) && (((rd_T58 t303 (wrap64 ((bt308.2.length : Int) - 1))).f1) == ((rd_T58 bt308.2 (wrap64 ((bt308.2.length : Int) - 1))).f1) && (((rd_T58 t303 (wrap64 ((bt308.2.length : Int) - 1))).f2) == ((rd_T58 bt308.2 (wrap64 ((bt308.2.length : Int) - 1))).f2)))) = true then ((colloquylaw20_sure.f k4).bind fun t316 => (some t316)) else (none)) else (none)) else (none)) else (none))) else (none)) else (none)) else (none))) = some r := by rw [if_pos rfl] at H; exact H
         clear H
         have H := H1
         clear H1
         replace H := Option.bind_eq_some_iff.mp H
         obtain ⟨⟨t308, t309⟩, A1440, H⟩ := H
         replace H : (if ((rd_T28 l2 x12_2).f0) = ((rd_T28 l2 0).f0) then (if t302 = t308 then (if (t303.length : Int) = (t309.length : Int) then (if (t309.length : Int) = 0 then ((colloquylaw20_sure.f k4).bind fun t313 => (some t313)) else (if 0 ≤ (wrap64 ((t309.length : Int) - 1)) then (if (wrap64 ((t309.length : Int) - 1)) < (t303.length : Int) then (if (wrap64 ((t309.length : Int) - 1)) < (t309.length : Int) then (if (((rd_T58 t303 (wrap64 ((t309.length : Int) - 1))).f0) == ((rd_T58 t309 (wrap64 ((t309.length : Int) - 1))).f0) && (((rd_T58 t303 (wrap64 ((t309.length : Int) - 1))).f1) == ((rd_T58 t309 (wrap64 ((t309.length : Int) - 1))).f1) && (((rd_T58 t303 (wrap64 ((t309.length : Int) - 1))).f2) == ((rd_T58 t309 (wrap64 ((t309.length : Int) - 1))).f2)))) = true then ((colloquylaw20_sure.f k4).bind fun t316 => (some t316)) else (none)) else (none)) else (none)) else (none))) else (none)) else (none)) else (none)) = some r := H
         have A144 := Aside0.mk A1440
         clear A1440
         by_cases c145 : ((rd_T28 l2 x12_2).f0) = ((rd_T28 l2 0).f0)
         ·as_aux_lemma =>
          rw [if_pos c145] at H
          have c145b0 : (((rd_T28 l2 x12_2).f0) == ((rd_T28 l2 0).f0)) = true := beq_iff_eq.mpr c145
          have c145b1 : (((rd_T28 l2 x12_2).f0) != ((rd_T28 l2 0).f0)) = false := bne_eq_false_iff_eq.mpr c145
          clear c145
          by_cases c146 : t302 = t308
          ·as_aux_lemma =>
           rw [if_pos c146] at H
           have c146b0 : (t302 == t308) = true := beq_iff_eq.mpr c146
           have c146b1 : (t302 != t308) = false := bne_eq_false_iff_eq.mpr c146
           clear c146
           by_cases c147 : (t303.length : Int) = (t309.length : Int)
           ·as_aux_lemma =>
            rw [if_pos c147] at H
            have c147b0 : ((t303.length : Int) == (t309.length : Int)) = true := beq_iff_eq.mpr c147
            have c147b1 : ((t303.length : Int) != (t309.length : Int)) = false := bne_eq_false_iff_eq.mpr c147
            have c147b2 : (t303.length == t309.length) = true := by first | simpa using c147 | (simp at c147 ⊢; omega)
            clear c147
            by_cases c148 : (t309.length : Int) = 0
            ·as_aux_lemma =>
             rw [if_pos c148] at H
             have c148b0 : ((t309.length : Int) == 0) = true := beq_iff_eq.mpr c148
             have c148b1 : ((t309.length : Int) != 0) = false := bne_eq_false_iff_eq.mpr c148
             clear c148
             replace H := Option.bind_eq_some_iff.mp H
             obtain ⟨t313, A1490, H⟩ := H
             replace H : (some t313) = some r := H
             have A149 := Aside0.mk A1490
             clear A1490
             obtain rfl := Option.some.inj H
             have hnb150 := NB278_266.out
             have hnc150 := NB266_278.out
             have hnb151 := NB278_273.out
             have hnc151 := NB273_278.out
             have hnb152 := NB278_283.out
             have hnc152 := NB283_278.out
             have hnb153 := NB278_294.out
             have hnc153 := NB294_278.out
             have hcz154_0 : wr.cell? ⟨gb278, 0, none⟩ = some (.int .i64 t274) := uF BK278 0
             have hcz154_1 : wr.cell? ⟨gb278, 1, none⟩ = some (.slice Ao21 t275.length co21) := uF BK278 1
             have hfz154_0 := blk_frozen BK278.out 0
             have hfz154_1 := blk_frozen BK278.out 1
             have p300 : 0 ≤ (x12_2 : Int) := of_decide_eq_true (by first | (with_reducible assumption) | assumption)
             have q300 : x12_2 < (l2.length : Int) := of_decide_eq_true (by first | (with_reducible assumption) | assumption)
             obtain ⟨ad300, A300_3, c300_3, e300, hx300_0, hx300_1, hx300_2, hx300_3, hl300_3, hi300_3⟩ := at_T28 HR2.out x12_2 p300 q300
             obtain rfl : ad282 = ad300 := (by injection e300)
             replace hx300_0 := (HB.out.cell (World.block_lt_of_cell? w _ hx300_0)).trans hx300_0
             replace hx300_1 := (HB.out.cell (World.block_lt_of_cell? w _ hx300_1)).trans hx300_1
             replace hx300_2 := (HB.out.cell (World.block_lt_of_cell? w _ hx300_2)).trans hx300_2
             replace hx300_3 := (HB.out.cell (World.block_lt_of_cell? w _ hx300_3)).trans hx300_3
             have HR300_3 := Aside0.mk hi300_3
             have HC300_3 := Aside0.mk hl300_3
             clear hi300_3 hl300_3
             replace p300 := eq_true p300
             replace q300 := eq_true q300
             try go_wp2_with (first | ((with_reducible refine gate_dst (N := 14) rfl ?_); (try (refine gate_guard (by rfl) ?_; dsimp only)); refine box_event ?hg (N := 14) ?hd (cs := #[.int .i64 0, .int .i64 0, .int .i64 0, .slice none 0 0]) (t := 28) ?hr ?_; (case hd => rfl); (case hg => rfl); (case hr => first | (go_simp; done) | (go_simp; rfl)); intro gb301 hg w155 hbox hb; replace HO_274000 := uRd HO_274000 hb; replace HO_279001 := uRd HO_279001 hb; replace HO_295001 := uRd HO_295001 hb; have BK301 := Aside0.mk (hbox); have GW301 := Aside0.mk ((by rw [hg]; exact (below_size (uB5 HB GE266 GE273 GE278 GE283 GE294)) : w.heap.size ≤ gb301)); have GE301 := Aside0.mk ((by rw [hg]; exact (below_size (uB5 HB GE266 GE273 GE278 GE283 GE294)) : w.heap.size ≤ gb301)); replace HB := Aside0.mk (below_step (uB5 HB GE266 GE273 GE278 GE283 GE294) hb); have NB266_301 := uN1 BK266 hg; have NB301_266 := uN2 BK266 hg; replace BK266 := uD BK266 hb; have NB273_301 := uN1 BK273 hg; have NB301_273 := uN2 BK273 hg; replace BK273 := uD BK273 hb; have NB278_301 := uN1 BK278 hg; have NB301_278 := uN2 BK278 hg; replace BK278 := uD BK278 hb; have NB283_301 := uN1 BK283 hg; have NB301_283 := uN2 BK283 hg; replace BK283 := uD BK283 hb; have NB294_301 := uN1 BK294 hg; have NB301_294 := uN2 BK294 hg; replace BK294 := uD BK294 hb; clear hb hbox hg; have hnb156 := NB301_266.out; have hnc156 := NB266_301.out; have hnb157 := NB301_273.out; have hnc157 := NB273_301.out; have hnb158 := NB301_278.out; have hnc158 := NB278_301.out; have hnb159 := NB301_283.out; have hnc159 := NB283_301.out; have hnb160 := NB301_294.out; have hnc160 := NB294_301.out; have hcz161_0 : w155.cell? ⟨gb301, 0, none⟩ = some (.int .i64 0) := uF BK301 0; have hcz161_1 : w155.cell? ⟨gb301, 1, none⟩ = some (.int .i64 0) := uF BK301 1; have hcz161_2 : w155.cell? ⟨gb301, 2, none⟩ = some (.int .i64 0) := uF BK301 2; have hcz161_3 : w155.cell? ⟨gb301, 3, none⟩ = some (.slice none 0 0) := uF BK301 3; have hfz161_0 := blk_frozen BK301.out 0; have hfz161_1 := blk_frozen BK301.out 1; have hfz161_2 := blk_frozen BK301.out 2; have hfz161_3 := blk_frozen BK301.out 3; have hnb162 := NB294_266.out; have hnc162 := NB266_294.out; have hnb163 := NB294_273.out; have hnc163 := NB273_294.out; have hnb164 := NB294_283.out; have hnc164 := NB283_294.out; have hcz165_0 : w155.cell? ⟨gb294, 0, none⟩ = some (.int .i64 x295000_2) := uF BK294 0; have hcz165_1 : w155.cell? ⟨gb294, 1, none⟩ = some (.slice Ao123 x295001_2.length co123) := uF BK294 1; have hfz165_0 := blk_frozen BK294.out 0; have hfz165_1 := blk_frozen BK294.out 1) | ((with_reducible refine gate_callee (f := 19) rfl ?_); refine goesL_ (some 131) rfl rfl Tryd.func19 (by kernel_rfl) rfl #[.agg #[.int .i64 x295000_2, .slice Ao123 x295001_2.length co123], .int .i64 ((rd_T28 l2 x12_2).f0)] rfl uC ?_; (with_reducible refine (mon_Join.calls k4 x295000_2 _ _ x295001_2 ((rd_T28 l2 x12_2).f0) t302 t303 _ ?side1 ?side2 A140.out).mono ?_); (case side1 => refine (Kd.R_reads' (e := 58) (base := w.heap.size) (ok := fun k_ => some k_ ≠ (.slice Ao21 t275.length co21 : Value).ownBlock) (n := x295001_2.length) (c := co123) ?_).2.2; exact (uT HO_295001 BK301)); (case side2 => exact (Kd.R_reads' HO_295001.out).2.1); rintro e w166 ⟨v304, rfl, ho0, hb⟩; refine ⟨_, rfl, ?_⟩; replace HO_274000 := Aside0.mk (Kd.R_below (uT HO_274000 BK301) hb); have HO305 := Aside0.mk (Kd.R_lower (Kd.R_new' (Kd.R_new' ho0 (Kd.R_lt (uT HO_279001 BK301))) (Kd.R_lt (uT HO_295001 BK301))) (below_size (uB6 HB GE266 GE273 GE278 GE283 GE294 GE301))); replace HO_279001 := Aside0.mk (Kd.R_elder' (uT HO_279001 BK301) (Kd.R_base ho0) hb); replace HO_295001 := Aside0.mk (Kd.R_elder' (uT HO_295001 BK301) (Kd.R_base ho0) hb); replace BK266 := uX BK266 NB266_301 hb; replace BK273 := uX BK273 NB273_301 hb; replace BK278 := uX BK278 NB278_301 hb; replace BK283 := uX BK283 NB283_301 hb; replace BK294 := uX BK294 NB294_301 hb; replace BK301 := Aside0.mk (blk_below (g := gb301) (o := .cells #[.int .i64 ((rd_T28 l2 x12_2).f0), .int .i64 ((rd_T28 l2 x12_2).f1), .int .i64 ((rd_T28 l2 x12_2).f2), .slice A300_3 ((rd_T28 l2 x12_2).f3).length c300_3] 28 (0, 0)) (by (with_reducible repeat (first | refine blk_drewN ?_ _ | refine blk_drew ?_ | refine blk_alloc ?_ _)); refine blk_put (cs := #[.int .i64 ((rd_T28 l2 x12_2).f0), .int .i64 ((rd_T28 l2 x12_2).f1), .int .i64 ((rd_T28 l2 x12_2).f2), .slice none 0 0]) ?_ 3 _ rfl; (with_reducible repeat (first | refine blk_drewN ?_ _ | refine blk_drew ?_ | refine blk_alloc ?_ _)); refine blk_put (cs := #[.int .i64 ((rd_T28 l2 x12_2).f0), .int .i64 ((rd_T28 l2 x12_2).f1), .int .i64 0, .slice none 0 0]) ?_ 2 _ rfl; (with_reducible repeat (first | refine blk_drewN ?_ _ | refine blk_drew ?_ | refine blk_alloc ?_ _)); refine blk_put (cs := #[.int .i64 ((rd_T28 l2 x12_2).f0), .int .i64 0, .int .i64 0, .slice none 0 0]) ?_ 1 _ rfl; (with_reducible repeat (first | refine blk_drewN ?_ _ | refine blk_drew ?_ | refine blk_alloc ?_ _)); refine blk_put (cs := #[.int .i64 0, .int .i64 0, .int .i64 0, .slice none 0 0]) ?_ 0 _ rfl; (with_reducible repeat (first | refine blk_drewN ?_ _ | refine blk_drew ?_ | refine blk_alloc ?_ _)); exact BK301.out) hb); replace HB := Aside0.mk (below_step (uB6 HB GE266 GE273 GE278 GE283 GE294 GE301) hb); (try clear hb); (try clear hb2); (try clear hk); (try clear hi); (try clear ho0); have hcz167_0 : w166.cell? ⟨gb294, 0, none⟩ = some (.int .i64 x295000_2) := uF BK294 0; have hcz167_1 : w166.cell? ⟨gb294, 1, none⟩ = some (.slice Ao123 x295001_2.length co123) := uF BK294 1; have hfz167_0 := blk_frozen BK294.out 0; have hfz167_1 := blk_frozen BK294.out 1; obtain ⟨Ao168, co168, eo168⟩ := Kd.R_slice HO305.out; subst eo168))
             obtain ⟨w169, hW_⟩ : ∃ w_, w_ = ((w166.setCell ⟨gb294, 0, none⟩ (.int .i64 t302)).setCell ⟨gb294, 1, none⟩ (.slice Ao168 t303.length co168)) := ⟨_, rfl⟩
             replace HO_274000 : Aside0 (Kd.R (Kd.int .u8) 5 w169 w.heap.size (fun _ => True) (.slice Ao11 y270.length co11) y270) := ⟨by rw [hW_]; exact uT2 HO_274000 BK294 (fun _ hk => trivial)⟩
             replace HO_279001 : Aside0 (Kd.R k58 58 w169 w.heap.size (fun k_ => some k_ ≠ (.slice Ao123 x295001_2.length co123 : Value).ownBlock ∧ some k_ ≠ (.slice Ao168 t303.length co168 : Value).ownBlock) (.slice Ao21 t275.length co21) t275) := ⟨by rw [hW_]; exact uT2 HO_279001 BK294 (fun _ hk => ⟨hk.1.1, hk.1.2⟩)⟩
             replace HO_295001 : Aside0 (Kd.R k58 58 w169 w.heap.size (fun k_ => some k_ ≠ (.slice Ao21 t275.length co21 : Value).ownBlock ∧ some k_ ≠ (.slice Ao168 t303.length co168 : Value).ownBlock) (.slice Ao123 x295001_2.length co123) x295001_2) := ⟨by rw [hW_]; exact uT2 HO_295001 BK294 (fun _ hk => ⟨hk.1.1, hk.1.2⟩)⟩
             replace HO305 : Aside0 (Kd.R k58 58 w169 w.heap.size (fun k_ => some k_ ≠ (.slice Ao21 t275.length co21 : Value).ownBlock ∧ some k_ ≠ (.slice Ao123 x295001_2.length co123 : Value).ownBlock) (.slice Ao168 t303.length co168) t303) := ⟨by rw [hW_]; exact uT2 HO305 BK294 (fun _ hk => ⟨hk.1.1.2, hk.1.2⟩)⟩
             replace BK266 := uY BK266 NB266_294 hW_
             replace BK273 := uY BK273 NB273_294 hW_
             replace BK278 := uY BK278 NB278_294 hW_
             replace BK283 := uY BK283 NB283_294 hW_
             replace BK294 : Aside0 (w169.heap[gb294]? = some (.cells #[.int .i64 t302, .slice Ao168 t303.length co168] 34 (0, 0))) := ⟨by rw [hW_]; (with_reducible repeat (first | refine blk_drewN ?_ _ | refine blk_drew ?_ | refine blk_alloc ?_ _)); refine blk_put (cs := #[.int .i64 t302, .slice Ao123 x295001_2.length co123]) ?_ 1 _ rfl; (with_reducible repeat (first | refine blk_drewN ?_ _ | refine blk_drew ?_ | refine blk_alloc ?_ _)); refine blk_put (cs := #[.int .i64 x295000_2, .slice Ao123 x295001_2.length co123]) ?_ 0 _ rfl; (with_reducible repeat (first | refine blk_drewN ?_ _ | refine blk_drew ?_ | refine blk_alloc ?_ _)); exact BK294.out⟩
             replace BK301 := uY BK301 NB301_294 hW_
             replace HB : Aside0 (Below w.heap.size w w169) := ⟨by rw [hW_]; exact uB6 HB GE266 GE273 GE278 GE283 GE294 GE301⟩
             rw [← hW_]
             clear hW_
             replace HO_274000 := Aside0.mk (Kd.R_drew HO_274000.out)
             replace HO_279001 := Aside0.mk (Kd.R_drew HO_279001.out)
             replace HO_295001 := Aside0.mk (Kd.R_drew HO_295001.out)
             replace HO305 := Aside0.mk (Kd.R_drew HO305.out)
             replace BK266 := Aside0.mk (blk_drew BK266.out)
             replace BK273 := Aside0.mk (blk_drew BK273.out)
             replace BK278 := Aside0.mk (blk_drew BK278.out)
             replace BK283 := Aside0.mk (blk_drew BK283.out)
             replace BK294 := Aside0.mk (blk_drew BK294.out)
             replace BK301 := Aside0.mk (blk_drew BK301.out)
             replace HB := Aside0.mk (below_drew1 HB.out)
             refine start_ (n := 5) (S := fun w' => w'.cell? ⟨gb273, 0, none⟩ = some (.slice Ao11 y270.length co11) ∧ w'.cell? ⟨gb294, 0, none⟩ = some (.int .i64 t302) ∧ w'.cell? ⟨gb294, 1, none⟩ = some (.slice Ao168 t303.length co168)) (ds := []) #[false, false, false, false, false] (by kernel_rfl) rfl rfl ⟨uF BK273 0, uF BK294 0, uF BK294 1⟩ (fun hHeld => ?_)
             generalize w169.drew = w170 at HO_274000 HO_279001 HO_295001 HO305 BK266 BK273 BK278 BK283 BK294 BK301 HB hHeld ⊢
             refine pure_ (i := 3) (N := some 135) (v := ?_) (a' := ?_) #[false, false, false, true, false] rfl rfl (by kernel_rfl) (fun _ _ _ h => h) (Or.inl ⟨by rfl, ?_⟩) ?_ ?_
             rotate_left
             ·intro w'
              go_simp
              with_reducible rfl
             rotate_left
             ·exact uP
             refine take_ (i := 0) (N := some 132) (v := ?_) (a' := ?_) #[true, false, false, true, false] rfl rfl (by kernel_rfl) (fun _ _ _ h => h) (Or.inl ⟨by rfl, ?_⟩) hHeld ?_ ?_
             rotate_left
             ·rintro w' ⟨s0, s1, s2⟩
              go_simp
              with_reducible rfl
             rotate_left
             ·exact uP
             refine take_ (i := 1) (N := some 133) (v := ?_) (a' := ?_) #[true, true, false, true, false] rfl rfl (by kernel_rfl) (fun _ _ _ h => h) (Or.inl ⟨by rfl, ?_⟩) hHeld ?_ ?_
             rotate_left
             ·rintro w' ⟨s0, s1, s2⟩
              go_simp
              with_reducible rfl
             rotate_left
             ·exact uP
             refine one_ (i := 2) (N := some 134) #[true, true, true, true, false] rfl rfl (by kernel_rfl) (by decide) (fun K hK => ?_)
             refine goes_ Tryd.func12 (by kernel_rfl) rfl #[.agg #[.int .i64 t302, .slice Ao168 t303.length co168]] (by rfl) rfl rfl uC ?_
             with_reducible refine (mon_Mon_Pc.calls t302 _ _ t303 t306 _ ?side1 ?side2 A141.out).mono ?_
             (case side1 => exact uS (Kd.R_reads' HO305.out).2.2)
             (case side2 => exact (Kd.R_reads' HO305.out).2.1)
             rintro e w171 ⟨rfl, hb⟩
             refine ⟨_, rfl, ?_⟩
             replace HO_274000 := uRd HO_274000 hb
             replace HO_279001 := uRd HO_279001 hb
             replace HO_295001 := uRd HO_295001 hb
             replace HO305 := uRd HO305 hb
             replace BK266 := uD BK266 hb
             replace BK273 := uD BK273 hb
             replace BK278 := uD BK278 hb
             replace BK283 := uD BK283 hb
             replace BK294 := uD BK294 hb
             replace BK301 := uD BK301 hb
             replace HB := Aside0.mk (below_step (uB6 HB GE266 GE273 GE278 GE283 GE294 GE301) hb)
             (try clear hb)
             (try clear hb2)
             (try clear hk)
             (try clear hi)
             refine hK.out _ _ ⟨uF BK273 0, uF BK294 0, uF BK294 1⟩ (fun hHeld => ?_)
             clear hK K
             refine norm_ (a' := ?_) ?_ ?_
             rotate_left
             ·show Act.put _ (some 134) _ = _
              exact uP
             refine one_ (i := 4) (N := some 136) #[true, true, true, true, true] rfl rfl (by kernel_rfl) (by decide) (fun K hK => ?_)
             refine goes_ Tryd.func25 (by kernel_rfl) rfl #[.agg #[.slice Ao11 y270.length co11], .int .i64 t306, .int .i64 ((rd_T28 l2 0).f2)] (by rfl) rfl rfl uC ?_
             with_reducible refine (lattice_Lat_Leq.calls k4 _ _ y270 t306 ((rd_T28 l2 0).f2) true _ ?side1 ?side2 A142.out).mono ?_
             (case side1 => exact uS (Kd.R_reads' HO_274000.out).2.2)
             (case side2 => exact (Kd.R_reads' HO_274000.out).2.1)
             rintro e w172 ⟨rfl, hb⟩
             refine ⟨_, rfl, ?_⟩
             replace HO_274000 := uRd HO_274000 hb
             replace HO_279001 := uRd HO_279001 hb
             replace HO_295001 := uRd HO_295001 hb
             replace HO305 := uRd HO305 hb
             replace BK266 := uD BK266 hb
             replace BK273 := uD BK273 hb
             replace BK278 := uD BK278 hb
             replace BK283 := uD BK283 hb
             replace BK294 := uD BK294 hb
             replace BK301 := uD BK301 hb
             replace HB := Aside0.mk (below_step (uB6 HB GE266 GE273 GE278 GE283 GE294 GE301) hb)
             (try clear hb)
             (try clear hb2)
             (try clear hk)
             (try clear hi)
             refine hK.out _ _ ⟨uF BK273 0, uF BK294 0, uF BK294 1⟩ (fun hHeld => ?_)
             clear hK K
             refine norm_ (a' := ?_) ?_ ?_
             rotate_left
             ·show Act.put _ (some 136) _ = _
              exact uP
             refine done_ (by kernel_rfl) ?_
             have hcz173_0 : w172.cell? ⟨gb278, 0, none⟩ = some (.int .i64 t274) := uF BK278 0
             have hcz173_1 : w172.cell? ⟨gb278, 1, none⟩ = some (.slice Ao21 t275.length co21) := uF BK278 1
             have hfz173_0 := blk_frozen BK278.out 0
             have hfz173_1 := blk_frozen BK278.out 1
             have hnb174 := NB283_266.out
             have hnc174 := NB266_283.out
             have hnb175 := NB283_273.out
             have hnc175 := NB273_283.out
             have hcz176_0 : w172.cell? ⟨gb283, 0, none⟩ = some (.int .i64 ((rd_T28 l2 0).f0)) := uF BK283 0
             have hcz176_1 : w172.cell? ⟨gb283, 1, none⟩ = some (.int .i64 ((rd_T28 l2 0).f1)) := uF BK283 1
             have hcz176_2 : w172.cell? ⟨gb283, 2, none⟩ = some (.int .i64 ((rd_T28 l2 0).f2)) := uF BK283 2
             have hcz176_3 : w172.cell? ⟨gb283, 3, none⟩ = some (.slice A282_3 ((rd_T28 l2 0).f3).length c282_3) := uF BK283 3
             have hfz176_0 := blk_frozen BK283.out 0
             have hfz176_1 := blk_frozen BK283.out 1
             have hfz176_2 := blk_frozen BK283.out 2
             have hfz176_3 := blk_frozen BK283.out 3
             try go_wp2_with (first | ((with_reducible refine gate_callee (f := 19) rfl ?_); refine goesL_ (some 140) rfl rfl Tryd.func19 (by kernel_rfl) rfl #[.agg #[.int .i64 t274, .slice Ao21 t275.length co21], .int .i64 ((rd_T28 l2 0).f0)] rfl uC ?_; (with_reducible refine (mon_Join.calls k4 t274 _ _ t275 ((rd_T28 l2 0).f0) t308 t309 _ ?side1 ?side2 A144.out).mono ?_); (case side1 => exact uS (Kd.R_reads' HO_279001.out).2.2); (case side2 => exact (Kd.R_reads' HO_279001.out).2.1); rintro e w177 ⟨v310, rfl, ho0, hb⟩; refine ⟨_, rfl, ?_⟩; replace HO_274000 := uRd HO_274000 hb; have HO311 := Aside0.mk (Kd.R_lower (Kd.R_new' (Kd.R_new' (Kd.R_new' ho0 (Kd.R_lt (uR HO_279001))) (Kd.R_lt (uR HO_295001))) (Kd.R_lt (uR HO305))) (below_size (uB6 HB GE266 GE273 GE278 GE283 GE294 GE301))); replace HO_279001 := Aside0.mk (Kd.R_elder' (uR HO_279001) (Kd.R_base ho0) hb); replace HO_295001 := Aside0.mk (Kd.R_elder' (uR HO_295001) (Kd.R_base ho0) hb); replace HO305 := Aside0.mk (Kd.R_elder' (uR HO305) (Kd.R_base ho0) hb); replace BK266 := uD BK266 hb; replace BK273 := uD BK273 hb; replace BK278 := uD BK278 hb; replace BK283 := uD BK283 hb; replace BK294 := uD BK294 hb; replace BK301 := uD BK301 hb; replace HB := Aside0.mk (below_step (uB6 HB GE266 GE273 GE278 GE283 GE294 GE301) hb); (try clear hb); (try clear hb2); (try clear hk); (try clear hi); (try clear ho0)) | ((with_reducible refine gate_dst (N := 15) rfl ?_); (try (refine gate_guard (by rfl) ?_; dsimp only)); refine box_event ?hg (N := 15) ?hd (cs := #[.int .i64 0, .slice none 0 0]) (t := 34) ?hr ?_; (case hd => rfl); (case hg => rfl); (case hr => first | (go_simp; done) | (go_simp; rfl)); intro gb312 hg w178 hbox hb; replace HO_274000 := uRd HO_274000 hb; replace HO_279001 := uRd HO_279001 hb; replace HO_295001 := uRd HO_295001 hb; replace HO305 := uRd HO305 hb; replace HO311 := uRd HO311 hb; have BK312 := Aside0.mk (hbox); have GW312 := Aside0.mk ((by rw [hg]; exact (below_size (uB6 HB GE266 GE273 GE278 GE283 GE294 GE301)) : w.heap.size ≤ gb312)); have GE312 := Aside0.mk ((by rw [hg]; exact (below_size (uB6 HB GE266 GE273 GE278 GE283 GE294 GE301)) : w.heap.size ≤ gb312)); replace HB := Aside0.mk (below_step (uB6 HB GE266 GE273 GE278 GE283 GE294 GE301) hb); have NB266_312 := uN1 BK266 hg; have NB312_266 := uN2 BK266 hg; replace BK266 := uD BK266 hb; have NB273_312 := uN1 BK273 hg; have NB312_273 := uN2 BK273 hg; replace BK273 := uD BK273 hb; have NB278_312 := uN1 BK278 hg; have NB312_278 := uN2 BK278 hg; replace BK278 := uD BK278 hb; have NB283_312 := uN1 BK283 hg; have NB312_283 := uN2 BK283 hg; replace BK283 := uD BK283 hb; have NB294_312 := uN1 BK294 hg; have NB312_294 := uN2 BK294 hg; replace BK294 := uD BK294 hb; have NB301_312 := uN1 BK301 hg; have NB312_301 := uN2 BK301 hg; replace BK301 := uD BK301 hb; clear hb hbox hg; have hnb179 := NB312_266.out; have hnc179 := NB266_312.out; have hnb180 := NB312_273.out; have hnc180 := NB273_312.out; have hnb181 := NB312_278.out; have hnc181 := NB278_312.out; have hnb182 := NB312_283.out; have hnc182 := NB283_312.out; have hnb183 := NB312_294.out; have hnc183 := NB294_312.out; have hnb184 := NB312_301.out; have hnc184 := NB301_312.out; have hcz185_0 : w178.cell? ⟨gb312, 0, none⟩ = some (.int .i64 0) := uF BK312 0; have hcz185_1 : w178.cell? ⟨gb312, 1, none⟩ = some (.slice none 0 0) := uF BK312 1; have hfz185_0 := blk_frozen BK312.out 0; have hfz185_1 := blk_frozen BK312.out 1; obtain ⟨Ao186, co186, eo186⟩ := Kd.R_slice HO311.out; subst eo186; have hcz187_0 : w178.cell? ⟨gb301, 0, none⟩ = some (.int .i64 ((rd_T28 l2 x12_2).f0)) := uF BK301 0; have hcz187_1 : w178.cell? ⟨gb301, 1, none⟩ = some (.int .i64 ((rd_T28 l2 x12_2).f1)) := uF BK301 1; have hcz187_2 : w178.cell? ⟨gb301, 2, none⟩ = some (.int .i64 ((rd_T28 l2 x12_2).f2)) := uF BK301 2; have hcz187_3 : w178.cell? ⟨gb301, 3, none⟩ = some (.slice A300_3 ((rd_T28 l2 x12_2).f3).length c300_3) := uF BK301 3; have hfz187_0 := blk_frozen BK301.out 0; have hfz187_1 := blk_frozen BK301.out 1; have hfz187_2 := blk_frozen BK301.out 2; have hfz187_3 := blk_frozen BK301.out 3; have hcz188_0 : w178.cell? ⟨gb283, 0, none⟩ = some (.int .i64 ((rd_T28 l2 0).f0)) := uF BK283 0; have hcz188_1 : w178.cell? ⟨gb283, 1, none⟩ = some (.int .i64 ((rd_T28 l2 0).f1)) := uF BK283 1; have hcz188_2 : w178.cell? ⟨gb283, 2, none⟩ = some (.int .i64 ((rd_T28 l2 0).f2)) := uF BK283 2; have hcz188_3 : w178.cell? ⟨gb283, 3, none⟩ = some (.slice A282_3 ((rd_T28 l2 0).f3).length c282_3) := uF BK283 3; have hfz188_0 := blk_frozen BK283.out 0; have hfz188_1 := blk_frozen BK283.out 1; have hfz188_2 := blk_frozen BK283.out 2; have hfz188_3 := blk_frozen BK283.out 3; have hcz189_0 : w178.cell? ⟨gb294, 0, none⟩ = some (.int .i64 t302) := uF BK294 0; have hcz189_1 : w178.cell? ⟨gb294, 1, none⟩ = some (.slice Ao168 t303.length co168) := uF BK294 1; have hfz189_0 := blk_frozen BK294.out 0; have hfz189_1 := blk_frozen BK294.out 1))
             obtain ⟨w190, hW_⟩ : ∃ w_, w_ = ((w178.setCell ⟨gb312, 0, none⟩ (.int .i64 t308)).setCell ⟨gb312, 1, none⟩ (.slice Ao186 t309.length co186)) := ⟨_, rfl⟩
             replace HO_274000 : Aside0 (Kd.R (Kd.int .u8) 5 w190 w.heap.size (fun _ => True) (.slice Ao11 y270.length co11) y270) := ⟨by rw [hW_]; exact uT2 HO_274000 BK312 (fun _ hk => trivial)⟩
             replace HO_279001 : Aside0 (Kd.R k58 58 w190 w.heap.size (fun k_ => some k_ ≠ (.slice Ao123 x295001_2.length co123 : Value).ownBlock ∧ some k_ ≠ (.slice Ao168 t303.length co168 : Value).ownBlock ∧ some k_ ≠ (.slice Ao186 t309.length co186 : Value).ownBlock) (.slice Ao21 t275.length co21) t275) := ⟨by rw [hW_]; exact uT2 HO_279001 BK312 (fun _ hk => ⟨hk.1.1.1, ⟨hk.1.1.2, hk.1.2⟩⟩)⟩
             replace HO_295001 : Aside0 (Kd.R k58 58 w190 w.heap.size (fun k_ => some k_ ≠ (.slice Ao21 t275.length co21 : Value).ownBlock ∧ some k_ ≠ (.slice Ao168 t303.length co168 : Value).ownBlock ∧ some k_ ≠ (.slice Ao186 t309.length co186 : Value).ownBlock) (.slice Ao123 x295001_2.length co123) x295001_2) := ⟨by rw [hW_]; exact uT2 HO_295001 BK312 (fun _ hk => ⟨hk.1.1.1, ⟨hk.1.1.2, hk.1.2⟩⟩)⟩
             replace HO305 : Aside0 (Kd.R k58 58 w190 w.heap.size (fun k_ => some k_ ≠ (.slice Ao21 t275.length co21 : Value).ownBlock ∧ some k_ ≠ (.slice Ao123 x295001_2.length co123 : Value).ownBlock ∧ some k_ ≠ (.slice Ao186 t309.length co186 : Value).ownBlock) (.slice Ao168 t303.length co168) t303) := ⟨by rw [hW_]; exact uT2 HO305 BK312 (fun _ hk => ⟨hk.1.1.1, ⟨hk.1.1.2, hk.1.2⟩⟩)⟩
             replace HO311 : Aside0 (Kd.R k58 58 w190 w.heap.size (fun k_ => some k_ ≠ (.slice Ao21 t275.length co21 : Value).ownBlock ∧ some k_ ≠ (.slice Ao123 x295001_2.length co123 : Value).ownBlock ∧ some k_ ≠ (.slice Ao168 t303.length co168 : Value).ownBlock) (.slice Ao186 t309.length co186) t309) := ⟨by rw [hW_]; exact uT2 HO311 BK312 (fun _ hk => ⟨hk.1.1.1.2, ⟨hk.1.1.2, hk.1.2⟩⟩)⟩
             replace BK266 := uY BK266 NB266_312 hW_
             replace BK273 := uY BK273 NB273_312 hW_
             replace BK278 := uY BK278 NB278_312 hW_
             replace BK283 := uY BK283 NB283_312 hW_
             replace BK294 := uY BK294 NB294_312 hW_
             replace BK301 := uY BK301 NB301_312 hW_
             replace BK312 : Aside0 (w190.heap[gb312]? = some (.cells #[.int .i64 t308, .slice Ao186 t309.length co186] 34 (0, 0))) := ⟨by rw [hW_]; (with_reducible repeat (first | refine blk_drewN ?_ _ | refine blk_drew ?_ | refine blk_alloc ?_ _)); refine blk_put (cs := #[.int .i64 t308, .slice none 0 0]) ?_ 1 _ rfl; (with_reducible repeat (first | refine blk_drewN ?_ _ | refine blk_drew ?_ | refine blk_alloc ?_ _)); refine blk_put (cs := #[.int .i64 0, .slice none 0 0]) ?_ 0 _ rfl; (with_reducible repeat (first | refine blk_drewN ?_ _ | refine blk_drew ?_ | refine blk_alloc ?_ _)); exact BK312.out⟩
             replace HB : Aside0 (Below w.heap.size w w190) := ⟨by rw [hW_]; exact uB7 HB GE266 GE273 GE278 GE283 GE294 GE301 GE312⟩
             rw [← hW_]
             clear hW_
             replace HO_274000 := Aside0.mk (Kd.R_drew HO_274000.out)
             replace HO_279001 := Aside0.mk (Kd.R_drew HO_279001.out)
             replace HO_295001 := Aside0.mk (Kd.R_drew HO_295001.out)
             replace HO305 := Aside0.mk (Kd.R_drew HO305.out)
             replace HO311 := Aside0.mk (Kd.R_drew HO311.out)
             replace BK266 := Aside0.mk (blk_drew BK266.out)
             replace BK273 := Aside0.mk (blk_drew BK273.out)
             replace BK278 := Aside0.mk (blk_drew BK278.out)
             replace BK283 := Aside0.mk (blk_drew BK283.out)
             replace BK294 := Aside0.mk (blk_drew BK294.out)
             replace BK301 := Aside0.mk (blk_drew BK301.out)
             replace BK312 := Aside0.mk (blk_drew BK312.out)
             replace HB := Aside0.mk (below_drew1 HB.out)
             refine start_ (n := 27) (S := fun w' => w'.cell? ⟨gb312, 0, none⟩ = some (.int .i64 t308) ∧ w'.cell? ⟨gb312, 1, none⟩ = some (.slice Ao186 t309.length co186)) (ds := []) u_f27 (by kernel_rfl) rfl rfl ⟨uF BK312 0, uF BK312 1⟩ (fun hHeld => ?_); refine with_tabW colloquylaw20_MonBack.tab27 colloquylaw20_MonBack.bits27 (fun HT_ HW_ => ?_)
             generalize w190.drew = w191 at HO_274000 HO_279001 HO_295001 HO305 HO311 BK266 BK273 BK278 BK283 BK294 BK301 BK312 HB hHeld ⊢
             refine uPu 0 162 u_t1f26 (v := ?_) (a' := ?_) rfl rfl HT_ ?_ ?_ ?_
             rotate_left
             ·intro w'
              go_simp
              with_reducible rfl
             rotate_left
             ·exact uP
             refine uTk 1 163 u_t2f25 (v := ?_) (a' := ?_) rfl rfl HT_ HW_ hHeld ?_ ?_ ?_
             rotate_left
             ·rintro w' ⟨s0, s1⟩
              go_simp
              with_reducible rfl
             rotate_left
             ·exact uP
             refine uPu 2 164 u_t3f24 (v := ?_) (a' := ?_) rfl rfl HT_ ?_ ?_ ?_
             rotate_left
             ·intro w'
              go_simp
              with_reducible rfl
             rotate_left
             ·exact uP
             refine uPu 3 165 u_t4f23 (v := ?_) (a' := ?_) rfl rfl HT_ ?_ ?_ ?_
             rotate_left
             ·intro w'
              go_simp
              with_reducible rfl
             rotate_left
             ·exact uP
             refine uPu 4 166 u_t5f22 (v := ?_) (a' := ?_) rfl rfl HT_ ?_ ?_ ?_
             rotate_left
             ·intro w'
              go_simp
              with_reducible rfl
             rotate_left
             ·exact uP
             refine uPn 5 167 u_t6f21 (a' := ?_) rfl rfl HT_ ?_ ?_
             rotate_left
             ·exact uP
             refine uPn 6 168 u_t7f20 (a' := ?_) rfl rfl HT_ ?_ ?_
             rotate_left
             ·exact uP
             refine uPn 7 169 u_t8f19 (a' := ?_) rfl rfl HT_ ?_ ?_
             rotate_left
             ·exact uP
             refine uPn 8 170 u_t9f18 (a' := ?_) rfl rfl HT_ ?_ ?_
             rotate_left
             ·exact uP
             refine uPn 9 171 u_t10f17 (a' := ?_) rfl rfl HT_ ?_ ?_
             rotate_left
             ·exact uP
             refine uPn 10 172 u_t11f16 (a' := ?_) rfl rfl HT_ ?_ ?_
             rotate_left
             ·exact uP
             refine uPn 11 173 u_t12f15 (a' := ?_) rfl rfl HT_ ?_ ?_
             rotate_left
             ·exact uP
             refine uPn 12 174 u_t13f14 (a' := ?_) rfl rfl HT_ ?_ ?_
             rotate_left
             ·exact uP
             refine uPn 13 175 u_t14f13 (a' := ?_) rfl rfl HT_ ?_ ?_
             rotate_left
             ·exact uP
             refine uPn 14 176 u_t15f12 (a' := ?_) rfl rfl HT_ ?_ ?_
             rotate_left
             ·exact uP
             refine uPn 15 177 u_t16f11 (a' := ?_) rfl rfl HT_ ?_ ?_
             rotate_left
             ·exact uP
             refine uPn 16 178 u_t17f10 (a' := ?_) rfl rfl HT_ ?_ ?_
             rotate_left
             ·exact uP
             refine uPn 17 179 u_t18f9 (a' := ?_) rfl rfl HT_ ?_ ?_
             rotate_left
             ·exact uP
             refine uPn 18 180 u_t19f8 (a' := ?_) rfl rfl HT_ ?_ ?_
             rotate_left
             ·exact uP
             refine uPn 19 181 u_t20f7 (a' := ?_) rfl rfl HT_ ?_ ?_
             rotate_left
             ·exact uP
             refine uPn 20 182 u_t21f6 (a' := ?_) rfl rfl HT_ ?_ ?_
             rotate_left
             ·exact uP
             refine uPn 21 183 u_t22f5 (a' := ?_) rfl rfl HT_ ?_ ?_
             rotate_left
             ·exact uP
             refine uPu 22 184 u_t23f4 (v := ?_) (a' := ?_) rfl rfl HT_ ?_ ?_ ?_
             rotate_left
             ·intro w'
              go_simp
              with_reducible rfl
             rotate_left
             ·exact uP
             refine uPu 23 185 u_t24f3 (v := ?_) (a' := ?_) rfl rfl HT_ ?_ ?_ ?_
             rotate_left
             ·intro w'
              go_simp
              with_reducible rfl
             rotate_left
             ·exact uP
             refine one_ (i := 24) (N := some 186) u_t25f2 rfl rfl (one_of HT_.out (by kernel_rfl)) (by decide) (fun K hK => ?_)
             refine goes_ Tryd.func7 (by kernel_rfl) rfl #[] (by rfl) rfl rfl uC ?_
             with_reducible refine (colloquylaw20_sure.calls k4  t313 _ ?side1 A149.out).mono ?_
             (case side1 => exact HG.out.below (uB7 HB GE266 GE273 GE278 GE283 GE294 GE301 GE312))
             rintro e w192 ⟨rfl, hb⟩
             refine ⟨_, rfl, ?_⟩
             replace HO_274000 := uRd HO_274000 hb
             replace HO_279001 := uRd HO_279001 hb
             replace HO_295001 := uRd HO_295001 hb
             replace HO305 := uRd HO305 hb
             replace HO311 := uRd HO311 hb
             replace BK266 := uD BK266 hb
             replace BK273 := uD BK273 hb
             replace BK278 := uD BK278 hb
             replace BK283 := uD BK283 hb
             replace BK294 := uD BK294 hb
             replace BK301 := uD BK301 hb
             replace BK312 := uD BK312 hb
             replace HB := Aside0.mk (below_step (uB7 HB GE266 GE273 GE278 GE283 GE294 GE301 GE312) hb)
             (try clear hb)
             (try clear hb2)
             (try clear hk)
             (try clear hi)
             refine hK.out _ _ ⟨uF BK312 0, uF BK312 1⟩ (fun hHeld => ?_)
             clear hK K
             refine norm_ (a' := ?_) ?_ ?_
             rotate_left
             ·show Act.put _ (some 186) _ = _
              exact uP
             refine uPu 25 187 u_t26f1 (v := ?_) (a' := ?_) rfl rfl HT_ ?_ ?_ ?_
             rotate_left
             ·intro w'
              go_simp
              with_reducible rfl
             rotate_left
             ·exact uP
             refine uPu 26 6 u_t27 (v := ?_) (a' := ?_) rfl rfl HT_ ?_ ?_ ?_
             rotate_left
             ·intro w'
              go_simp
              with_reducible rfl
             rotate_left
             ·exact uP
             refine done_ (done_of HT_.out (by kernel_rfl)) ?_
             try go_wp2
             go_ret
             exact ⟨by first | rfl | (simp [errW_none, errW_some] <;> rfl) | (simp [*, errW_none, errW_some] <;> rfl), uB7 HB GE266 GE273 GE278 GE283 GE294 GE301 GE312⟩
            as_aux_lemma =>
            rw [if_neg c148] at H
            have c148b0 : ((t309.length : Int) == 0) = false := beq_eq_false_iff_ne.mpr c148
            have c148b1 : ((t309.length : Int) != 0) = true := bne_iff_ne.mpr c148
            have c148b2 : ¬ (t309 = []) := fun h_ => c148 (by rw [h_]; rfl)
            obtain ⟨ji193, hji193⟩ : ∃ j_ : Int, (wrap64 ((t309.length : Int) - 1)) = j_ := ⟨_, rfl⟩
            replace H : (if 0 ≤ (ji193) then (if (ji193) < (t303.length : Int) then (if (ji193) < (t309.length : Int) then (if (((rd_T58 t303 (ji193)).f0) == ((rd_T58 t309 (ji193)).f0) && (((rd_T58 t303 (ji193)).f1) == ((rd_T58 t309 (ji193)).f1) && (((rd_T58 t303 (ji193)).f2) == ((rd_T58 t309 (ji193)).f2)))) = true then ((colloquylaw20_sure.f k4).bind fun t316 => (some t316)) else (none)) else (none)) else (none)) else (none)) = some r := by first | (rw [hji193] at H; exact H) | (simp only [hji193] at H ⊢; exact H)
            (try rw [hji193] at A140)
            (try rw [hji193] at A141)
            (try rw [hji193] at A142)
            (try rw [hji193] at A144)
            have hji193w : (IntKind.i64.wrap ((t309.length : Int) - 1)) = ji193 := (i64_w _).trans hji193
            by_cases c194 : 0 ≤ (ji193)
            ·as_aux_lemma =>
             rw [if_pos c194] at H
             have c194b0 : decide (0 ≤ (ji193)) = true := decide_eq_true c194
             clear c194
             by_cases c195 : (ji193) < (t303.length : Int)
             ·as_aux_lemma =>
              rw [if_pos c195] at H
              have c195b0 : decide ((ji193) < (t303.length : Int)) = true := decide_eq_true c195
              clear c195
              by_cases c196 : (ji193) < (t309.length : Int)
              ·as_aux_lemma =>
               rw [if_pos c196] at H
               have c196b0 : decide ((ji193) < (t309.length : Int)) = true := decide_eq_true c196
               clear c196
               by_cases c197 : (((rd_T58 t303 (ji193)).f0) == ((rd_T58 t309 (ji193)).f0) && (((rd_T58 t303 (ji193)).f1) == ((rd_T58 t309 (ji193)).f1) && (((rd_T58 t303 (ji193)).f2) == ((rd_T58 t309 (ji193)).f2)))) = true
               ·as_aux_lemma =>
                rw [if_pos c197] at H
                have c197b0 : (((rd_T58 t303 (ji193)).f0) == ((rd_T58 t309 (ji193)).f0) && (((rd_T58 t303 (ji193)).f1) == ((rd_T58 t309 (ji193)).f1) && (((rd_T58 t303 (ji193)).f2) == ((rd_T58 t309 (ji193)).f2)))) = true := c197
                (try (have c197b1 : decide (((rd_T58 t303 (ji193)).f0) = ((rd_T58 t309 (ji193)).f0) && (((rd_T58 t303 (ji193)).f1) == ((rd_T58 t309 (ji193)).f1) && (((rd_T58 t303 (ji193)).f2) == ((rd_T58 t309 (ji193)).f2)))) = true := by simpa using c197))
                (try (have c197b2 : (((rd_T58 t303 (ji193)).f0) == ((rd_T58 t309 (ji193)).f0) && (((rd_T58 t303 (ji193)).f1) == ((rd_T58 t309 (ji193)).f1) && (((rd_T58 t303 (ji193)).f2) == ((rd_T58 t309 (ji193)).f2)))) = true := by simpa using c197))
                clear c197
                replace H := Option.bind_eq_some_iff.mp H
                obtain ⟨t316, A1980, H⟩ := H
                replace H : (some t316) = some r := H
                have A198 := Aside0.mk A1980
                clear A1980
                obtain rfl := Option.some.inj H
                have hnb199 := NB278_266.out
                have hnc199 := NB266_278.out
                have hnb200 := NB278_273.out
                have hnc200 := NB273_278.out
                have hnb201 := NB278_283.out
                have hnc201 := NB283_278.out
                have hnb202 := NB278_294.out
                have hnc202 := NB294_278.out
                have hcz203_0 : wr.cell? ⟨gb278, 0, none⟩ = some (.int .i64 t274) := uF BK278 0
                have hcz203_1 : wr.cell? ⟨gb278, 1, none⟩ = some (.slice Ao21 t275.length co21) := uF BK278 1
                have hfz203_0 := blk_frozen BK278.out 0
                have hfz203_1 := blk_frozen BK278.out 1
                have p300 : 0 ≤ (x12_2 : Int) := of_decide_eq_true (by first | (with_reducible assumption) | assumption)
                have q300 : x12_2 < (l2.length : Int) := of_decide_eq_true (by first | (with_reducible assumption) | assumption)
                obtain ⟨ad300, A300_3, c300_3, e300, hx300_0, hx300_1, hx300_2, hx300_3, hl300_3, hi300_3⟩ := at_T28 HR2.out x12_2 p300 q300
                obtain rfl : ad282 = ad300 := (by injection e300)
                replace hx300_0 := (HB.out.cell (World.block_lt_of_cell? w _ hx300_0)).trans hx300_0
                replace hx300_1 := (HB.out.cell (World.block_lt_of_cell? w _ hx300_1)).trans hx300_1
                replace hx300_2 := (HB.out.cell (World.block_lt_of_cell? w _ hx300_2)).trans hx300_2
                replace hx300_3 := (HB.out.cell (World.block_lt_of_cell? w _ hx300_3)).trans hx300_3
                have HR300_3 := Aside0.mk hi300_3
                have HC300_3 := Aside0.mk hl300_3
                clear hi300_3 hl300_3
                replace p300 := eq_true p300
                replace q300 := eq_true q300
                try go_wp2_with (first | ((with_reducible refine gate_dst (N := 14) rfl ?_); (try (refine gate_guard (by rfl) ?_; dsimp only)); refine box_event ?hg (N := 14) ?hd (cs := #[.int .i64 0, .int .i64 0, .int .i64 0, .slice none 0 0]) (t := 28) ?hr ?_; (case hd => rfl); (case hg => rfl); (case hr => first | (go_simp; done) | (go_simp; rfl)); intro gb301 hg w204 hbox hb; replace HO_274000 := uRd HO_274000 hb; replace HO_279001 := uRd HO_279001 hb; replace HO_295001 := uRd HO_295001 hb; have BK301 := Aside0.mk (hbox); have GW301 := Aside0.mk ((by rw [hg]; exact (below_size (uB5 HB GE266 GE273 GE278 GE283 GE294)) : w.heap.size ≤ gb301)); have GE301 := Aside0.mk ((by rw [hg]; exact (below_size (uB5 HB GE266 GE273 GE278 GE283 GE294)) : w.heap.size ≤ gb301)); replace HB := Aside0.mk (below_step (uB5 HB GE266 GE273 GE278 GE283 GE294) hb); have NB266_301 := uN1 BK266 hg; have NB301_266 := uN2 BK266 hg; replace BK266 := uD BK266 hb; have NB273_301 := uN1 BK273 hg; have NB301_273 := uN2 BK273 hg; replace BK273 := uD BK273 hb; have NB278_301 := uN1 BK278 hg; have NB301_278 := uN2 BK278 hg; replace BK278 := uD BK278 hb; have NB283_301 := uN1 BK283 hg; have NB301_283 := uN2 BK283 hg; replace BK283 := uD BK283 hb; have NB294_301 := uN1 BK294 hg; have NB301_294 := uN2 BK294 hg; replace BK294 := uD BK294 hb; clear hb hbox hg; have hnb205 := NB301_266.out; have hnc205 := NB266_301.out; have hnb206 := NB301_273.out; have hnc206 := NB273_301.out; have hnb207 := NB301_278.out; have hnc207 := NB278_301.out; have hnb208 := NB301_283.out; have hnc208 := NB283_301.out; have hnb209 := NB301_294.out; have hnc209 := NB294_301.out; have hcz210_0 : w204.cell? ⟨gb301, 0, none⟩ = some (.int .i64 0) := uF BK301 0; have hcz210_1 : w204.cell? ⟨gb301, 1, none⟩ = some (.int .i64 0) := uF BK301 1; have hcz210_2 : w204.cell? ⟨gb301, 2, none⟩ = some (.int .i64 0) := uF BK301 2; have hcz210_3 : w204.cell? ⟨gb301, 3, none⟩ = some (.slice none 0 0) := uF BK301 3; have hfz210_0 := blk_frozen BK301.out 0; have hfz210_1 := blk_frozen BK301.out 1; have hfz210_2 := blk_frozen BK301.out 2; have hfz210_3 := blk_frozen BK301.out 3; have hnb211 := NB294_266.out; have hnc211 := NB266_294.out; have hnb212 := NB294_273.out; have hnc212 := NB273_294.out; have hnb213 := NB294_283.out; have hnc213 := NB283_294.out; have hcz214_0 : w204.cell? ⟨gb294, 0, none⟩ = some (.int .i64 x295000_2) := uF BK294 0; have hcz214_1 : w204.cell? ⟨gb294, 1, none⟩ = some (.slice Ao123 x295001_2.length co123) := uF BK294 1; have hfz214_0 := blk_frozen BK294.out 0; have hfz214_1 := blk_frozen BK294.out 1) | ((with_reducible refine gate_callee (f := 19) rfl ?_); refine goesL_ (some 131) rfl rfl Tryd.func19 (by kernel_rfl) rfl #[.agg #[.int .i64 x295000_2, .slice Ao123 x295001_2.length co123], .int .i64 ((rd_T28 l2 x12_2).f0)] rfl uC ?_; (with_reducible refine (mon_Join.calls k4 x295000_2 _ _ x295001_2 ((rd_T28 l2 x12_2).f0) t302 t303 _ ?side1 ?side2 A140.out).mono ?_); (case side1 => refine (Kd.R_reads' (e := 58) (base := w.heap.size) (ok := fun k_ => some k_ ≠ (.slice Ao21 t275.length co21 : Value).ownBlock) (n := x295001_2.length) (c := co123) ?_).2.2; exact (uT HO_295001 BK301)); (case side2 => exact (Kd.R_reads' HO_295001.out).2.1); rintro e w215 ⟨v304, rfl, ho0, hb⟩; refine ⟨_, rfl, ?_⟩; replace HO_274000 := Aside0.mk (Kd.R_below (uT HO_274000 BK301) hb); have HO305 := Aside0.mk (Kd.R_lower (Kd.R_new' (Kd.R_new' ho0 (Kd.R_lt (uT HO_279001 BK301))) (Kd.R_lt (uT HO_295001 BK301))) (below_size (uB6 HB GE266 GE273 GE278 GE283 GE294 GE301))); replace HO_279001 := Aside0.mk (Kd.R_elder' (uT HO_279001 BK301) (Kd.R_base ho0) hb); replace HO_295001 := Aside0.mk (Kd.R_elder' (uT HO_295001 BK301) (Kd.R_base ho0) hb); replace BK266 := uX BK266 NB266_301 hb; replace BK273 := uX BK273 NB273_301 hb; replace BK278 := uX BK278 NB278_301 hb; replace BK283 := uX BK283 NB283_301 hb; replace BK294 := uX BK294 NB294_301 hb; replace BK301 := Aside0.mk (blk_below (g := gb301) (o := .cells #[.int .i64 ((rd_T28 l2 x12_2).f0), .int .i64 ((rd_T28 l2 x12_2).f1), .int .i64 ((rd_T28 l2 x12_2).f2), .slice A300_3 ((rd_T28 l2 x12_2).f3).length c300_3] 28 (0, 0)) (by (with_reducible repeat (first | refine blk_drewN ?_ _ | refine blk_drew ?_ | refine blk_alloc ?_ _)); refine blk_put (cs := #[.int .i64 ((rd_T28 l2 x12_2).f0), .int .i64 ((rd_T28 l2 x12_2).f1), .int .i64 ((rd_T28 l2 x12_2).f2), .slice none 0 0]) ?_ 3 _ rfl; (with_reducible repeat (first | refine blk_drewN ?_ _ | refine blk_drew ?_ | refine blk_alloc ?_ _)); refine blk_put (cs := #[.int .i64 ((rd_T28 l2 x12_2).f0), .int .i64 ((rd_T28 l2 x12_2).f1), .int .i64 0, .slice none 0 0]) ?_ 2 _ rfl; (with_reducible repeat (first | refine blk_drewN ?_ _ | refine blk_drew ?_ | refine blk_alloc ?_ _)); refine blk_put (cs := #[.int .i64 ((rd_T28 l2 x12_2).f0), .int .i64 0, .int .i64 0, .slice none 0 0]) ?_ 1 _ rfl; (with_reducible repeat (first | refine blk_drewN ?_ _ | refine blk_drew ?_ | refine blk_alloc ?_ _)); refine blk_put (cs := #[.int .i64 0, .int .i64 0, .int .i64 0, .slice none 0 0]) ?_ 0 _ rfl; (with_reducible repeat (first | refine blk_drewN ?_ _ | refine blk_drew ?_ | refine blk_alloc ?_ _)); exact BK301.out) hb); replace HB := Aside0.mk (below_step (uB6 HB GE266 GE273 GE278 GE283 GE294 GE301) hb); (try clear hb); (try clear hb2); (try clear hk); (try clear hi); (try clear ho0); have hcz216_0 : w215.cell? ⟨gb294, 0, none⟩ = some (.int .i64 x295000_2) := uF BK294 0; have hcz216_1 : w215.cell? ⟨gb294, 1, none⟩ = some (.slice Ao123 x295001_2.length co123) := uF BK294 1; have hfz216_0 := blk_frozen BK294.out 0; have hfz216_1 := blk_frozen BK294.out 1; obtain ⟨Ao217, co217, eo217⟩ := Kd.R_slice HO305.out; subst eo217))
                obtain ⟨w218, hW_⟩ : ∃ w_, w_ = ((w215.setCell ⟨gb294, 0, none⟩ (.int .i64 t302)).setCell ⟨gb294, 1, none⟩ (.slice Ao217 t303.length co217)) := ⟨_, rfl⟩
                replace HO_274000 : Aside0 (Kd.R (Kd.int .u8) 5 w218 w.heap.size (fun _ => True) (.slice Ao11 y270.length co11) y270) := ⟨by rw [hW_]; exact uT2 HO_274000 BK294 (fun _ hk => trivial)⟩
                replace HO_279001 : Aside0 (Kd.R k58 58 w218 w.heap.size (fun k_ => some k_ ≠ (.slice Ao123 x295001_2.length co123 : Value).ownBlock ∧ some k_ ≠ (.slice Ao217 t303.length co217 : Value).ownBlock) (.slice Ao21 t275.length co21) t275) := ⟨by rw [hW_]; exact uT2 HO_279001 BK294 (fun _ hk => ⟨hk.1.1, hk.1.2⟩)⟩
                replace HO_295001 : Aside0 (Kd.R k58 58 w218 w.heap.size (fun k_ => some k_ ≠ (.slice Ao21 t275.length co21 : Value).ownBlock ∧ some k_ ≠ (.slice Ao217 t303.length co217 : Value).ownBlock) (.slice Ao123 x295001_2.length co123) x295001_2) := ⟨by rw [hW_]; exact uT2 HO_295001 BK294 (fun _ hk => ⟨hk.1.1, hk.1.2⟩)⟩
                replace HO305 : Aside0 (Kd.R k58 58 w218 w.heap.size (fun k_ => some k_ ≠ (.slice Ao21 t275.length co21 : Value).ownBlock ∧ some k_ ≠ (.slice Ao123 x295001_2.length co123 : Value).ownBlock) (.slice Ao217 t303.length co217) t303) := ⟨by rw [hW_]; exact uT2 HO305 BK294 (fun _ hk => ⟨hk.1.1.2, hk.1.2⟩)⟩
                replace BK266 := uY BK266 NB266_294 hW_
                replace BK273 := uY BK273 NB273_294 hW_
                replace BK278 := uY BK278 NB278_294 hW_
                replace BK283 := uY BK283 NB283_294 hW_
                replace BK294 : Aside0 (w218.heap[gb294]? = some (.cells #[.int .i64 t302, .slice Ao217 t303.length co217] 34 (0, 0))) := ⟨by rw [hW_]; (with_reducible repeat (first | refine blk_drewN ?_ _ | refine blk_drew ?_ | refine blk_alloc ?_ _)); refine blk_put (cs := #[.int .i64 t302, .slice Ao123 x295001_2.length co123]) ?_ 1 _ rfl; (with_reducible repeat (first | refine blk_drewN ?_ _ | refine blk_drew ?_ | refine blk_alloc ?_ _)); refine blk_put (cs := #[.int .i64 x295000_2, .slice Ao123 x295001_2.length co123]) ?_ 0 _ rfl; (with_reducible repeat (first | refine blk_drewN ?_ _ | refine blk_drew ?_ | refine blk_alloc ?_ _)); exact BK294.out⟩
                replace BK301 := uY BK301 NB301_294 hW_
                replace HB : Aside0 (Below w.heap.size w w218) := ⟨by rw [hW_]; exact uB6 HB GE266 GE273 GE278 GE283 GE294 GE301⟩
                rw [← hW_]
                clear hW_
                replace HO_274000 := Aside0.mk (Kd.R_drew HO_274000.out)
                replace HO_279001 := Aside0.mk (Kd.R_drew HO_279001.out)
                replace HO_295001 := Aside0.mk (Kd.R_drew HO_295001.out)
                replace HO305 := Aside0.mk (Kd.R_drew HO305.out)
                replace BK266 := Aside0.mk (blk_drew BK266.out)
                replace BK273 := Aside0.mk (blk_drew BK273.out)
                replace BK278 := Aside0.mk (blk_drew BK278.out)
                replace BK283 := Aside0.mk (blk_drew BK283.out)
                replace BK294 := Aside0.mk (blk_drew BK294.out)
                replace BK301 := Aside0.mk (blk_drew BK301.out)
                replace HB := Aside0.mk (below_drew1 HB.out)
                refine start_ (n := 5) (S := fun w' => w'.cell? ⟨gb273, 0, none⟩ = some (.slice Ao11 y270.length co11) ∧ w'.cell? ⟨gb294, 0, none⟩ = some (.int .i64 t302) ∧ w'.cell? ⟨gb294, 1, none⟩ = some (.slice Ao217 t303.length co217)) (ds := []) #[false, false, false, false, false] (by kernel_rfl) rfl rfl ⟨uF BK273 0, uF BK294 0, uF BK294 1⟩ (fun hHeld => ?_)
                generalize w218.drew = w219 at HO_274000 HO_279001 HO_295001 HO305 BK266 BK273 BK278 BK283 BK294 BK301 HB hHeld ⊢
                refine pure_ (i := 3) (N := some 135) (v := ?_) (a' := ?_) #[false, false, false, true, false] rfl rfl (by kernel_rfl) (fun _ _ _ h => h) (Or.inl ⟨by rfl, ?_⟩) ?_ ?_
                rotate_left
                ·intro w'
                 go_simp
                 with_reducible rfl
                rotate_left
                ·exact uP
                refine take_ (i := 0) (N := some 132) (v := ?_) (a' := ?_) #[true, false, false, true, false] rfl rfl (by kernel_rfl) (fun _ _ _ h => h) (Or.inl ⟨by rfl, ?_⟩) hHeld ?_ ?_
                rotate_left
                ·rintro w' ⟨s0, s1, s2⟩
                 go_simp
                 with_reducible rfl
                rotate_left
                ·exact uP
                refine take_ (i := 1) (N := some 133) (v := ?_) (a' := ?_) #[true, true, false, true, false] rfl rfl (by kernel_rfl) (fun _ _ _ h => h) (Or.inl ⟨by rfl, ?_⟩) hHeld ?_ ?_
                rotate_left
                ·rintro w' ⟨s0, s1, s2⟩
                 go_simp
                 with_reducible rfl
                rotate_left
                ·exact uP
                refine one_ (i := 2) (N := some 134) #[true, true, true, true, false] rfl rfl (by kernel_rfl) (by decide) (fun K hK => ?_)
                refine goes_ Tryd.func12 (by kernel_rfl) rfl #[.agg #[.int .i64 t302, .slice Ao217 t303.length co217]] (by rfl) rfl rfl uC ?_
                with_reducible refine (mon_Mon_Pc.calls t302 _ _ t303 t306 _ ?side1 ?side2 A141.out).mono ?_
                (case side1 => exact uS (Kd.R_reads' HO305.out).2.2)
                (case side2 => exact (Kd.R_reads' HO305.out).2.1)
                rintro e w220 ⟨rfl, hb⟩
                refine ⟨_, rfl, ?_⟩
                replace HO_274000 := uRd HO_274000 hb
                replace HO_279001 := uRd HO_279001 hb
                replace HO_295001 := uRd HO_295001 hb
                replace HO305 := uRd HO305 hb
                replace BK266 := uD BK266 hb
                replace BK273 := uD BK273 hb
                replace BK278 := uD BK278 hb
                replace BK283 := uD BK283 hb
                replace BK294 := uD BK294 hb
                replace BK301 := uD BK301 hb
                replace HB := Aside0.mk (below_step (uB6 HB GE266 GE273 GE278 GE283 GE294 GE301) hb)
                (try clear hb)
                (try clear hb2)
                (try clear hk)
                (try clear hi)
                refine hK.out _ _ ⟨uF BK273 0, uF BK294 0, uF BK294 1⟩ (fun hHeld => ?_)
                clear hK K
                refine norm_ (a' := ?_) ?_ ?_
                rotate_left
                ·show Act.put _ (some 134) _ = _
                 exact uP
                refine one_ (i := 4) (N := some 136) #[true, true, true, true, true] rfl rfl (by kernel_rfl) (by decide) (fun K hK => ?_)
                refine goes_ Tryd.func25 (by kernel_rfl) rfl #[.agg #[.slice Ao11 y270.length co11], .int .i64 t306, .int .i64 ((rd_T28 l2 0).f2)] (by rfl) rfl rfl uC ?_
                with_reducible refine (lattice_Lat_Leq.calls k4 _ _ y270 t306 ((rd_T28 l2 0).f2) true _ ?side1 ?side2 A142.out).mono ?_
                (case side1 => exact uS (Kd.R_reads' HO_274000.out).2.2)
                (case side2 => exact (Kd.R_reads' HO_274000.out).2.1)
                rintro e w221 ⟨rfl, hb⟩
                refine ⟨_, rfl, ?_⟩
                replace HO_274000 := uRd HO_274000 hb
                replace HO_279001 := uRd HO_279001 hb
                replace HO_295001 := uRd HO_295001 hb
                replace HO305 := uRd HO305 hb
                replace BK266 := uD BK266 hb
                replace BK273 := uD BK273 hb
                replace BK278 := uD BK278 hb
                replace BK283 := uD BK283 hb
                replace BK294 := uD BK294 hb
                replace BK301 := uD BK301 hb
                replace HB := Aside0.mk (below_step (uB6 HB GE266 GE273 GE278 GE283 GE294 GE301) hb)
                (try clear hb)
                (try clear hb2)
                (try clear hk)
                (try clear hi)
                refine hK.out _ _ ⟨uF BK273 0, uF BK294 0, uF BK294 1⟩ (fun hHeld => ?_)
                clear hK K
                refine norm_ (a' := ?_) ?_ ?_
                rotate_left
                ·show Act.put _ (some 136) _ = _
                 exact uP
                refine done_ (by kernel_rfl) ?_
                have hcz222_0 : w221.cell? ⟨gb278, 0, none⟩ = some (.int .i64 t274) := uF BK278 0
                have hcz222_1 : w221.cell? ⟨gb278, 1, none⟩ = some (.slice Ao21 t275.length co21) := uF BK278 1
                have hfz222_0 := blk_frozen BK278.out 0
                have hfz222_1 := blk_frozen BK278.out 1
                have hnb223 := NB283_266.out
                have hnc223 := NB266_283.out
                have hnb224 := NB283_273.out
                have hnc224 := NB273_283.out
                have hcz225_0 : w221.cell? ⟨gb283, 0, none⟩ = some (.int .i64 ((rd_T28 l2 0).f0)) := uF BK283 0
                have hcz225_1 : w221.cell? ⟨gb283, 1, none⟩ = some (.int .i64 ((rd_T28 l2 0).f1)) := uF BK283 1
                have hcz225_2 : w221.cell? ⟨gb283, 2, none⟩ = some (.int .i64 ((rd_T28 l2 0).f2)) := uF BK283 2
                have hcz225_3 : w221.cell? ⟨gb283, 3, none⟩ = some (.slice A282_3 ((rd_T28 l2 0).f3).length c282_3) := uF BK283 3
                have hfz225_0 := blk_frozen BK283.out 0
                have hfz225_1 := blk_frozen BK283.out 1
                have hfz225_2 := blk_frozen BK283.out 2
                have hfz225_3 := blk_frozen BK283.out 3
                try go_wp2_with (first | ((with_reducible refine gate_callee (f := 19) rfl ?_); refine goesL_ (some 140) rfl rfl Tryd.func19 (by kernel_rfl) rfl #[.agg #[.int .i64 t274, .slice Ao21 t275.length co21], .int .i64 ((rd_T28 l2 0).f0)] rfl uC ?_; (with_reducible refine (mon_Join.calls k4 t274 _ _ t275 ((rd_T28 l2 0).f0) t308 t309 _ ?side1 ?side2 A144.out).mono ?_); (case side1 => exact uS (Kd.R_reads' HO_279001.out).2.2); (case side2 => exact (Kd.R_reads' HO_279001.out).2.1); rintro e w226 ⟨v310, rfl, ho0, hb⟩; refine ⟨_, rfl, ?_⟩; replace HO_274000 := uRd HO_274000 hb; have HO311 := Aside0.mk (Kd.R_lower (Kd.R_new' (Kd.R_new' (Kd.R_new' ho0 (Kd.R_lt (uR HO_279001))) (Kd.R_lt (uR HO_295001))) (Kd.R_lt (uR HO305))) (below_size (uB6 HB GE266 GE273 GE278 GE283 GE294 GE301))); replace HO_279001 := Aside0.mk (Kd.R_elder' (uR HO_279001) (Kd.R_base ho0) hb); replace HO_295001 := Aside0.mk (Kd.R_elder' (uR HO_295001) (Kd.R_base ho0) hb); replace HO305 := Aside0.mk (Kd.R_elder' (uR HO305) (Kd.R_base ho0) hb); replace BK266 := uD BK266 hb; replace BK273 := uD BK273 hb; replace BK278 := uD BK278 hb; replace BK283 := uD BK283 hb; replace BK294 := uD BK294 hb; replace BK301 := uD BK301 hb; replace HB := Aside0.mk (below_step (uB6 HB GE266 GE273 GE278 GE283 GE294 GE301) hb); (try clear hb); (try clear hb2); (try clear hk); (try clear hi); (try clear ho0)) | ((with_reducible refine gate_dst (N := 15) rfl ?_); (try (refine gate_guard (by rfl) ?_; dsimp only)); refine box_event ?hg (N := 15) ?hd (cs := #[.int .i64 0, .slice none 0 0]) (t := 34) ?hr ?_; (case hd => rfl); (case hg => rfl); (case hr => first | (go_simp; done) | (go_simp; rfl)); intro gb312 hg w227 hbox hb; replace HO_274000 := uRd HO_274000 hb; replace HO_279001 := uRd HO_279001 hb; replace HO_295001 := uRd HO_295001 hb; replace HO305 := uRd HO305 hb; replace HO311 := uRd HO311 hb; have BK312 := Aside0.mk (hbox); have GW312 := Aside0.mk ((by rw [hg]; exact (below_size (uB6 HB GE266 GE273 GE278 GE283 GE294 GE301)) : w.heap.size ≤ gb312)); have GE312 := Aside0.mk ((by rw [hg]; exact (below_size (uB6 HB GE266 GE273 GE278 GE283 GE294 GE301)) : w.heap.size ≤ gb312)); replace HB := Aside0.mk (below_step (uB6 HB GE266 GE273 GE278 GE283 GE294 GE301) hb); have NB266_312 := uN1 BK266 hg; have NB312_266 := uN2 BK266 hg; replace BK266 := uD BK266 hb; have NB273_312 := uN1 BK273 hg; have NB312_273 := uN2 BK273 hg; replace BK273 := uD BK273 hb; have NB278_312 := uN1 BK278 hg; have NB312_278 := uN2 BK278 hg; replace BK278 := uD BK278 hb; have NB283_312 := uN1 BK283 hg; have NB312_283 := uN2 BK283 hg; replace BK283 := uD BK283 hb; have NB294_312 := uN1 BK294 hg; have NB312_294 := uN2 BK294 hg; replace BK294 := uD BK294 hb; have NB301_312 := uN1 BK301 hg; have NB312_301 := uN2 BK301 hg; replace BK301 := uD BK301 hb; clear hb hbox hg; have hnb228 := NB312_266.out; have hnc228 := NB266_312.out; have hnb229 := NB312_273.out; have hnc229 := NB273_312.out; have hnb230 := NB312_278.out; have hnc230 := NB278_312.out; have hnb231 := NB312_283.out; have hnc231 := NB283_312.out; have hnb232 := NB312_294.out; have hnc232 := NB294_312.out; have hnb233 := NB312_301.out; have hnc233 := NB301_312.out; have hcz234_0 : w227.cell? ⟨gb312, 0, none⟩ = some (.int .i64 0) := uF BK312 0; have hcz234_1 : w227.cell? ⟨gb312, 1, none⟩ = some (.slice none 0 0) := uF BK312 1; have hfz234_0 := blk_frozen BK312.out 0; have hfz234_1 := blk_frozen BK312.out 1; obtain ⟨Ao235, co235, eo235⟩ := Kd.R_slice HO311.out; subst eo235; have hcz236_0 : w227.cell? ⟨gb301, 0, none⟩ = some (.int .i64 ((rd_T28 l2 x12_2).f0)) := uF BK301 0; have hcz236_1 : w227.cell? ⟨gb301, 1, none⟩ = some (.int .i64 ((rd_T28 l2 x12_2).f1)) := uF BK301 1; have hcz236_2 : w227.cell? ⟨gb301, 2, none⟩ = some (.int .i64 ((rd_T28 l2 x12_2).f2)) := uF BK301 2; have hcz236_3 : w227.cell? ⟨gb301, 3, none⟩ = some (.slice A300_3 ((rd_T28 l2 x12_2).f3).length c300_3) := uF BK301 3; have hfz236_0 := blk_frozen BK301.out 0; have hfz236_1 := blk_frozen BK301.out 1; have hfz236_2 := blk_frozen BK301.out 2; have hfz236_3 := blk_frozen BK301.out 3; have hcz237_0 : w227.cell? ⟨gb283, 0, none⟩ = some (.int .i64 ((rd_T28 l2 0).f0)) := uF BK283 0; have hcz237_1 : w227.cell? ⟨gb283, 1, none⟩ = some (.int .i64 ((rd_T28 l2 0).f1)) := uF BK283 1; have hcz237_2 : w227.cell? ⟨gb283, 2, none⟩ = some (.int .i64 ((rd_T28 l2 0).f2)) := uF BK283 2; have hcz237_3 : w227.cell? ⟨gb283, 3, none⟩ = some (.slice A282_3 ((rd_T28 l2 0).f3).length c282_3) := uF BK283 3; have hfz237_0 := blk_frozen BK283.out 0; have hfz237_1 := blk_frozen BK283.out 1; have hfz237_2 := blk_frozen BK283.out 2; have hfz237_3 := blk_frozen BK283.out 3; have hcz238_0 : w227.cell? ⟨gb294, 0, none⟩ = some (.int .i64 t302) := uF BK294 0; have hcz238_1 : w227.cell? ⟨gb294, 1, none⟩ = some (.slice Ao217 t303.length co217) := uF BK294 1; have hfz238_0 := blk_frozen BK294.out 0; have hfz238_1 := blk_frozen BK294.out 1))
                obtain ⟨w239, hW_⟩ : ∃ w_, w_ = ((w227.setCell ⟨gb312, 0, none⟩ (.int .i64 t308)).setCell ⟨gb312, 1, none⟩ (.slice Ao235 t309.length co235)) := ⟨_, rfl⟩
                replace HO_274000 : Aside0 (Kd.R (Kd.int .u8) 5 w239 w.heap.size (fun _ => True) (.slice Ao11 y270.length co11) y270) := ⟨by rw [hW_]; exact uT2 HO_274000 BK312 (fun _ hk => trivial)⟩
                replace HO_279001 : Aside0 (Kd.R k58 58 w239 w.heap.size (fun k_ => some k_ ≠ (.slice Ao123 x295001_2.length co123 : Value).ownBlock ∧ some k_ ≠ (.slice Ao217 t303.length co217 : Value).ownBlock ∧ some k_ ≠ (.slice Ao235 t309.length co235 : Value).ownBlock) (.slice Ao21 t275.length co21) t275) := ⟨by rw [hW_]; exact uT2 HO_279001 BK312 (fun _ hk => ⟨hk.1.1.1, ⟨hk.1.1.2, hk.1.2⟩⟩)⟩
                replace HO_295001 : Aside0 (Kd.R k58 58 w239 w.heap.size (fun k_ => some k_ ≠ (.slice Ao21 t275.length co21 : Value).ownBlock ∧ some k_ ≠ (.slice Ao217 t303.length co217 : Value).ownBlock ∧ some k_ ≠ (.slice Ao235 t309.length co235 : Value).ownBlock) (.slice Ao123 x295001_2.length co123) x295001_2) := ⟨by rw [hW_]; exact uT2 HO_295001 BK312 (fun _ hk => ⟨hk.1.1.1, ⟨hk.1.1.2, hk.1.2⟩⟩)⟩
                replace HO305 : Aside0 (Kd.R k58 58 w239 w.heap.size (fun k_ => some k_ ≠ (.slice Ao21 t275.length co21 : Value).ownBlock ∧ some k_ ≠ (.slice Ao123 x295001_2.length co123 : Value).ownBlock ∧ some k_ ≠ (.slice Ao235 t309.length co235 : Value).ownBlock) (.slice Ao217 t303.length co217) t303) := ⟨by rw [hW_]; exact uT2 HO305 BK312 (fun _ hk => ⟨hk.1.1.1, ⟨hk.1.1.2, hk.1.2⟩⟩)⟩
                replace HO311 : Aside0 (Kd.R k58 58 w239 w.heap.size (fun k_ => some k_ ≠ (.slice Ao21 t275.length co21 : Value).ownBlock ∧ some k_ ≠ (.slice Ao123 x295001_2.length co123 : Value).ownBlock ∧ some k_ ≠ (.slice Ao217 t303.length co217 : Value).ownBlock) (.slice Ao235 t309.length co235) t309) := ⟨by rw [hW_]; exact uT2 HO311 BK312 (fun _ hk => ⟨hk.1.1.1.2, ⟨hk.1.1.2, hk.1.2⟩⟩)⟩
                replace BK266 := uY BK266 NB266_312 hW_
                replace BK273 := uY BK273 NB273_312 hW_
                replace BK278 := uY BK278 NB278_312 hW_
                replace BK283 := uY BK283 NB283_312 hW_
                replace BK294 := uY BK294 NB294_312 hW_
                replace BK301 := uY BK301 NB301_312 hW_
                replace BK312 : Aside0 (w239.heap[gb312]? = some (.cells #[.int .i64 t308, .slice Ao235 t309.length co235] 34 (0, 0))) := ⟨by rw [hW_]; (with_reducible repeat (first | refine blk_drewN ?_ _ | refine blk_drew ?_ | refine blk_alloc ?_ _)); refine blk_put (cs := #[.int .i64 t308, .slice none 0 0]) ?_ 1 _ rfl; (with_reducible repeat (first | refine blk_drewN ?_ _ | refine blk_drew ?_ | refine blk_alloc ?_ _)); refine blk_put (cs := #[.int .i64 0, .slice none 0 0]) ?_ 0 _ rfl; (with_reducible repeat (first | refine blk_drewN ?_ _ | refine blk_drew ?_ | refine blk_alloc ?_ _)); exact BK312.out⟩
                replace HB : Aside0 (Below w.heap.size w w239) := ⟨by rw [hW_]; exact uB7 HB GE266 GE273 GE278 GE283 GE294 GE301 GE312⟩
                rw [← hW_]
                clear hW_
                replace HO_274000 := Aside0.mk (Kd.R_drew HO_274000.out)
                replace HO_279001 := Aside0.mk (Kd.R_drew HO_279001.out)
                replace HO_295001 := Aside0.mk (Kd.R_drew HO_295001.out)
                replace HO305 := Aside0.mk (Kd.R_drew HO305.out)
                replace HO311 := Aside0.mk (Kd.R_drew HO311.out)
                replace BK266 := Aside0.mk (blk_drew BK266.out)
                replace BK273 := Aside0.mk (blk_drew BK273.out)
                replace BK278 := Aside0.mk (blk_drew BK278.out)
                replace BK283 := Aside0.mk (blk_drew BK283.out)
                replace BK294 := Aside0.mk (blk_drew BK294.out)
                replace BK301 := Aside0.mk (blk_drew BK301.out)
                replace BK312 := Aside0.mk (blk_drew BK312.out)
                replace HB := Aside0.mk (below_drew1 HB.out)
                have p314 : 0 ≤ ((ji193) : Int) := of_decide_eq_true (by first | (with_reducible assumption) | assumption)
                have q314 : (ji193) < (t303.length : Int) := of_decide_eq_true (by first | (with_reducible assumption) | assumption)
                obtain ⟨ad314, e314, hx314_0, hx314_1, hx314_2⟩ := at_T58 (Kd.R_reads' HO305.out).2.2 (ji193) p314 q314
                cases e314
                replace p314 := eq_true p314
                replace q314 := eq_true q314
                have p315 : 0 ≤ ((ji193) : Int) := of_decide_eq_true (by first | (with_reducible assumption) | assumption)
                have q315 : (ji193) < (t309.length : Int) := of_decide_eq_true (by first | (with_reducible assumption) | assumption)
                obtain ⟨ad315, e315, hx315_0, hx315_1, hx315_2⟩ := at_T58 (Kd.R_reads' HO311.out).2.2 (ji193) p315 q315
                cases e315
                replace p315 := eq_true p315
                replace q315 := eq_true q315
                refine start_ (n := 27) (S := fun w' => w'.cell? ⟨gb312, 0, none⟩ = some (.int .i64 t308) ∧ w'.cell? ⟨gb312, 1, none⟩ = some (.slice (some ad315) t309.length co235) ∧ w'.cell? ⟨gb294, 0, none⟩ = some (.int .i64 t302) ∧ w'.cell? ⟨gb294, 1, none⟩ = some (.slice (some ad314) t303.length co217) ∧ w'.cell? (ad314.add (((ji193)).toNat * 3)) = some (.int .i64 ((rd_T58 t303 (ji193)).f0)) ∧ w'.cell? ⟨(ad314.add (((ji193)).toNat * 3)).block, (ad314.add (((ji193)).toNat * 3)).off + 1, none⟩ = some (.int .i64 ((rd_T58 t303 (ji193)).f1)) ∧ w'.cell? ⟨(ad314.add (((ji193)).toNat * 3)).block, (ad314.add (((ji193)).toNat * 3)).off + 2, none⟩ = some (.int .i64 ((rd_T58 t303 (ji193)).f2)) ∧ w'.cell? (ad315.add (((ji193)).toNat * 3)) = some (.int .i64 ((rd_T58 t309 (ji193)).f0)) ∧ w'.cell? ⟨(ad315.add (((ji193)).toNat * 3)).block, (ad315.add (((ji193)).toNat * 3)).off + 1, none⟩ = some (.int .i64 ((rd_T58 t309 (ji193)).f1)) ∧ w'.cell? ⟨(ad315.add (((ji193)).toNat * 3)).block, (ad315.add (((ji193)).toNat * 3)).off + 2, none⟩ = some (.int .i64 ((rd_T58 t309 (ji193)).f2))) (ds := []) u_f27 (by kernel_rfl) rfl rfl ⟨uF BK312 0, uF BK312 1, uF BK294 0, uF BK294 1, hx314_0, hx314_1, hx314_2, hx315_0, hx315_1, hx315_2⟩ (fun hHeld => ?_); refine with_tabW colloquylaw20_MonBack.tab27 colloquylaw20_MonBack.bits27 (fun HT_ HW_ => ?_)
                generalize w239.drew = w240 at HO_274000 HO_279001 HO_295001 HO305 HO311 BK266 BK273 BK278 BK283 BK294 BK301 BK312 HB hx314_0 hx314_1 hx314_2 hx315_0 hx315_1 hx315_2 hHeld ⊢
                refine uPu 0 162 u_t1f26 (v := ?_) (a' := ?_) rfl rfl HT_ ?_ ?_ ?_
                rotate_left
                ·intro w'
                 go_simp
                 with_reducible rfl
                rotate_left
                ·exact uP
                refine uTk 1 163 u_t2f25 (v := ?_) (a' := ?_) rfl rfl HT_ HW_ hHeld ?_ ?_ ?_
                rotate_left
                ·rintro w' ⟨s0, s1, s2, s3, s4, s5, s6, s7, s8, s9⟩
                 go_simp
                 with_reducible rfl
                rotate_left
                ·exact uP
                refine uPu 2 164 u_t3f24 (v := ?_) (a' := ?_) rfl rfl HT_ ?_ ?_ ?_
                rotate_left
                ·intro w'
                 go_simp
                 with_reducible rfl
                rotate_left
                ·exact uP
                refine uPu 3 165 u_t4f23 (v := ?_) (a' := ?_) rfl rfl HT_ ?_ ?_ ?_
                rotate_left
                ·intro w'
                 go_simp
                 with_reducible rfl
                rotate_left
                ·exact uP
                refine uPu 4 166 u_t5f22 (v := ?_) (a' := ?_) rfl rfl HT_ ?_ ?_ ?_
                rotate_left
                ·intro w'
                 go_simp
                 with_reducible rfl
                rotate_left
                ·exact uP
                refine uPu 5 167 u_t6f21 (v := ?_) (a' := ?_) rfl rfl HT_ ?_ ?_ ?_
                rotate_left
                ·intro w'
                 go_simp
                 with_reducible rfl
                rotate_left
                ·exact uP
                refine uPu 7 169 u_t6f1t1f19 (v := ?_) (a' := ?_) rfl rfl HT_ ?_ ?_ ?_
                rotate_left
                ·intro w'
                 go_simp
                 with_reducible rfl
                rotate_left
                ·exact uP
                refine uPu 13 175 u_t6f1t1f5t1f13 (v := ?_) (a' := ?_) rfl rfl HT_ ?_ ?_ ?_
                rotate_left
                ·intro w'
                 go_simp
                 with_reducible rfl
                rotate_left
                ·exact uP
                refine uPu 15 177 u_t6f1t1f5t1f1t1f11 (v := ?_) (a' := ?_) rfl rfl HT_ ?_ ?_ ?_
                rotate_left
                ·intro w'
                 go_simp
                 with_reducible rfl
                rotate_left
                ·exact uP
                refine uTk 6 168 u_t8f5t1f1t1f11 (v := ?_) (a' := ?_) rfl rfl HT_ HW_ hHeld ?_ ?_ ?_
                rotate_left
                ·rintro w' ⟨s0, s1, s2, s3, s4, s5, s6, s7, s8, s9⟩
                 go_simp
                 with_reducible rfl
                rotate_left
                ·exact uP
                refine uTk 8 170 u_t9f4t1f1t1f11 (v := ?_) (a' := ?_) rfl rfl HT_ HW_ hHeld ?_ ?_ ?_
                rotate_left
                ·rintro w' ⟨s0, s1, s2, s3, s4, s5, s6, s7, s8, s9⟩
                 go_simp
                 with_reducible rfl
                rotate_left
                ·exact uP
                refine uPu 9 171 u_t10f3t1f1t1f11 (v := ?_) (a' := ?_) rfl rfl HT_ ?_ ?_ ?_
                rotate_left
                ·intro w'
                 go_simp
                 with_reducible rfl
                rotate_left
                ·exact uP
                refine uPu 10 172 u_t11f2t1f1t1f11 (v := ?_) (a' := ?_) rfl rfl HT_ ?_ ?_ ?_
                rotate_left
                ·intro w'
                 go_simp
                 with_reducible rfl
                rotate_left
                ·exact uP
                refine uPu 11 173 u_t12f1t1f1t1f11 (v := ?_) (a' := ?_) rfl rfl HT_ ?_ ?_ ?_
                rotate_left
                ·intro w'
                 go_simp
                 with_reducible rfl
                rotate_left
                ·exact uP
                refine uTk 12 174 u_t14f1t1f11 (v := ?_) (a' := ?_) rfl rfl HT_ HW_ hHeld ?_ ?_ ?_
                rotate_left
                ·rintro w' ⟨s0, s1, s2, s3, s4, s5, s6, s7, s8, s9⟩
                 go_simp
                 with_reducible rfl
                rotate_left
                ·exact uP
                refine uTk 14 176 u_t16f11 (v := ?_) (a' := ?_) rfl rfl HT_ HW_ hHeld ?_ ?_ ?_
                rotate_left
                ·rintro w' ⟨s0, s1, s2, s3, s4, s5, s6, s7, s8, s9⟩
                 go_simp
                 with_reducible rfl
                rotate_left
                ·exact uP
                refine uTk 16 178 u_t17f10 (v := ?_) (a' := ?_) rfl rfl HT_ HW_ hHeld ?_ ?_ ?_
                rotate_left
                ·rintro w' ⟨s0, s1, s2, s3, s4, s5, s6, s7, s8, s9⟩
                 go_simp
                 with_reducible rfl
                rotate_left
                ·exact uP
                refine uPu 17 179 u_t18f9 (v := ?_) (a' := ?_) rfl rfl HT_ ?_ ?_ ?_
                rotate_left
                ·intro w'
                 go_simp
                 with_reducible rfl
                rotate_left
                ·exact uP
                refine uPu 18 180 u_t19f8 (v := ?_) (a' := ?_) rfl rfl HT_ ?_ ?_ ?_
                rotate_left
                ·intro w'
                 go_simp
                 with_reducible rfl
                rotate_left
                ·exact uP
                refine uPu 19 181 u_t20f7 (v := ?_) (a' := ?_) rfl rfl HT_ ?_ ?_ ?_
                rotate_left
                ·intro w'
                 go_simp
                 with_reducible rfl
                rotate_left
                ·exact uP
                refine uTk 20 182 u_t21f6 (v := ?_) (a' := ?_) rfl rfl HT_ HW_ hHeld ?_ ?_ ?_
                rotate_left
                ·rintro w' ⟨s0, s1, s2, s3, s4, s5, s6, s7, s8, s9⟩
                 go_simp
                 with_reducible rfl
                rotate_left
                ·exact uP
                refine uPu 21 183 u_t22f5 (v := ?_) (a' := ?_) rfl rfl HT_ ?_ ?_ ?_
                rotate_left
                ·intro w'
                 go_simp
                 with_reducible rfl
                rotate_left
                ·exact uP
                refine uPu 22 184 u_t23f4 (v := ?_) (a' := ?_) rfl rfl HT_ ?_ ?_ ?_
                rotate_left
                ·intro w'
                 go_simp
                 with_reducible rfl
                rotate_left
                ·exact uP
                refine uPu 23 185 u_t24f3 (v := ?_) (a' := ?_) rfl rfl HT_ ?_ ?_ ?_
                rotate_left
                ·intro w'
                 go_simp
                 with_reducible rfl
                rotate_left
                ·exact uP
                refine one_ (i := 24) (N := some 186) u_t25f2 rfl rfl (one_of HT_.out (by kernel_rfl)) (by decide) (fun K hK => ?_)
                refine goes_ Tryd.func7 (by kernel_rfl) rfl #[] (by rfl) rfl rfl uC ?_
                with_reducible refine (colloquylaw20_sure.calls k4  t316 _ ?side1 A198.out).mono ?_
                (case side1 => exact HG.out.below (uB7 HB GE266 GE273 GE278 GE283 GE294 GE301 GE312))
                rintro e w241 ⟨rfl, hb⟩
                have HS4_ := (hb.cell (World.block_lt_of_cell? _ _ (hHeld.2.2.2.2.1))).trans (hHeld.2.2.2.2.1)
                have HS5_ := (hb.cell (World.block_lt_of_cell? _ _ (hHeld.2.2.2.2.2.1))).trans (hHeld.2.2.2.2.2.1)
                have HS6_ := (hb.cell (World.block_lt_of_cell? _ _ (hHeld.2.2.2.2.2.2.1))).trans (hHeld.2.2.2.2.2.2.1)
                have HS7_ := (hb.cell (World.block_lt_of_cell? _ _ (hHeld.2.2.2.2.2.2.2.1))).trans (hHeld.2.2.2.2.2.2.2.1)
                have HS8_ := (hb.cell (World.block_lt_of_cell? _ _ (hHeld.2.2.2.2.2.2.2.2.1))).trans (hHeld.2.2.2.2.2.2.2.2.1)
                have HS9_ := (hb.cell (World.block_lt_of_cell? _ _ (hHeld.2.2.2.2.2.2.2.2.2))).trans (hHeld.2.2.2.2.2.2.2.2.2)
                refine ⟨_, rfl, ?_⟩
                replace HO_274000 := uRd HO_274000 hb
                replace HO_279001 := uRd HO_279001 hb
                replace HO_295001 := uRd HO_295001 hb
                replace HO305 := uRd HO305 hb
                replace HO311 := uRd HO311 hb
                replace BK266 := uD BK266 hb
                replace BK273 := uD BK273 hb
                replace BK278 := uD BK278 hb
                replace BK283 := uD BK283 hb
                replace BK294 := uD BK294 hb
                replace BK301 := uD BK301 hb
                replace BK312 := uD BK312 hb
                replace HB := Aside0.mk (below_step (uB7 HB GE266 GE273 GE278 GE283 GE294 GE301 GE312) hb)
                (try clear hb)
                (try clear hb2)
                (try clear hk)
                (try clear hi)
                refine hK.out _ _ ⟨uF BK312 0, uF BK312 1, uF BK294 0, uF BK294 1, HS4_, HS5_, HS6_, HS7_, HS8_, HS9_⟩ (fun hHeld => ?_)
                clear hK K
                refine norm_ (a' := ?_) ?_ ?_
                rotate_left
                ·show Act.put _ (some 186) _ = _
                 exact uP
                refine uPu 25 187 u_t26f1 (v := ?_) (a' := ?_) rfl rfl HT_ ?_ ?_ ?_
                rotate_left
                ·intro w'
                 go_simp
                 with_reducible rfl
                rotate_left
                ·exact uP
                refine uPu 26 6 u_t27 (v := ?_) (a' := ?_) rfl rfl HT_ ?_ ?_ ?_
                rotate_left
                ·intro w'
                 go_simp
                 with_reducible rfl
                rotate_left
                ·exact uP
                refine done_ (done_of HT_.out (by kernel_rfl)) ?_
                try go_wp2
                go_ret
                exact ⟨by first | rfl | (simp [errW_none, errW_some] <;> rfl) | (simp only [← hji193]; first | rfl | (simp [errW_none, errW_some] <;> rfl)) | (simp [*, errW_none, errW_some] <;> rfl), uB7 HB GE266 GE273 GE278 GE283 GE294 GE301 GE312⟩
               rw [if_neg c197] at H
               have c197b0 : (((rd_T58 t303 (ji193)).f0) == ((rd_T58 t309 (ji193)).f0) && (((rd_T58 t303 (ji193)).f1) == ((rd_T58 t309 (ji193)).f1) && (((rd_T58 t303 (ji193)).f2) == ((rd_T58 t309 (ji193)).f2)))) = false := by simpa using c197
               (try (have c197b1 : decide (((rd_T58 t303 (ji193)).f0) = ((rd_T58 t309 (ji193)).f0) && (((rd_T58 t303 (ji193)).f1) == ((rd_T58 t309 (ji193)).f1) && (((rd_T58 t303 (ji193)).f2) == ((rd_T58 t309 (ji193)).f2)))) = false := by simpa using c197))
               (try (have c197b2 : (((rd_T58 t303 (ji193)).f0) == ((rd_T58 t309 (ji193)).f0) && (((rd_T58 t303 (ji193)).f1) == ((rd_T58 t309 (ji193)).f1) && (((rd_T58 t303 (ji193)).f2) == ((rd_T58 t309 (ji193)).f2)))) = false := by simpa using c197))
               (try (have c197b3 : ¬ (((rd_T58 t303 (ji193)).f0) = ((rd_T58 t309 (ji193)).f0) && (((rd_T58 t303 (ji193)).f1) == ((rd_T58 t309 (ji193)).f1) && (((rd_T58 t303 (ji193)).f2) == ((rd_T58 t309 (ji193)).f2)))) := by simpa using c197))
               clear c197
               exact absurd H (by simp)
              rw [if_neg c196] at H
              exact absurd H (by simp)
             rw [if_neg c195] at H
             exact absurd H (by simp)
            rw [if_neg c194] at H
            exact absurd H (by simp)
           rw [if_neg c147] at H
           exact absurd H (by simp)
          rw [if_neg c146] at H
          exact absurd H (by simp)
         rw [if_neg c145] at H
         exact absurd H (by simp)
        replace c143 := Bool.eq_false_iff.mpr c143
        subst c143
        have H1 : (colloquylaw20_MonBack.l0 k4 l0 l2 ((rd_T28 l2 0).f2) (wrap64 (x12_2 + 1)) y270 t274 t275 ((rd_T28 l2 0).f0) ((rd_T28 l2 0).f1) ((rd_T28 l2 0).f2) ((rd_T28 l2 0).f3) t302 t303) = some r := by rw [if_neg (show ¬ (false = true) by decide)] at H; exact H
        clear H
        have H := H1
        clear H1
        have H' := Aside0.mk H
        clear H
        have hnb242 := NB278_266.out
        have hnc242 := NB266_278.out
        have hnb243 := NB278_273.out
        have hnc243 := NB273_278.out
        have hnb244 := NB278_283.out
        have hnc244 := NB283_278.out
        have hnb245 := NB278_294.out
        have hnc245 := NB294_278.out
        have hcz246_0 : wr.cell? ⟨gb278, 0, none⟩ = some (.int .i64 t274) := uF BK278 0
        have hcz246_1 : wr.cell? ⟨gb278, 1, none⟩ = some (.slice Ao21 t275.length co21) := uF BK278 1
        have hfz246_0 := blk_frozen BK278.out 0
        have hfz246_1 := blk_frozen BK278.out 1
        have p300 : 0 ≤ (x12_2 : Int) := of_decide_eq_true (by first | (with_reducible assumption) | assumption)
        have q300 : x12_2 < (l2.length : Int) := of_decide_eq_true (by first | (with_reducible assumption) | assumption)
        obtain ⟨ad300, A300_3, c300_3, e300, hx300_0, hx300_1, hx300_2, hx300_3, hl300_3, hi300_3⟩ := at_T28 HR2.out x12_2 p300 q300
        obtain rfl : ad282 = ad300 := (by injection e300)
        replace hx300_0 := (HB.out.cell (World.block_lt_of_cell? w _ hx300_0)).trans hx300_0
        replace hx300_1 := (HB.out.cell (World.block_lt_of_cell? w _ hx300_1)).trans hx300_1
        replace hx300_2 := (HB.out.cell (World.block_lt_of_cell? w _ hx300_2)).trans hx300_2
        replace hx300_3 := (HB.out.cell (World.block_lt_of_cell? w _ hx300_3)).trans hx300_3
        have HR300_3 := Aside0.mk hi300_3
        have HC300_3 := Aside0.mk hl300_3
        clear hi300_3 hl300_3
        replace p300 := eq_true p300
        replace q300 := eq_true q300
        try go_wp2_with (first | ((with_reducible refine gate_dst (N := 14) rfl ?_); (try (refine gate_guard (by rfl) ?_; dsimp only)); refine box_event ?hg (N := 14) ?hd (cs := #[.int .i64 0, .int .i64 0, .int .i64 0, .slice none 0 0]) (t := 28) ?hr ?_; (case hd => rfl); (case hg => rfl); (case hr => first | (go_simp; done) | (go_simp; rfl)); intro gb301 hg w247 hbox hb; replace HO_274000 := uRd HO_274000 hb; replace HO_279001 := uRd HO_279001 hb; replace HO_295001 := uRd HO_295001 hb; have BK301 := Aside0.mk (hbox); have GW301 := Aside0.mk ((by rw [hg]; exact (below_size (uB5 HB GE266 GE273 GE278 GE283 GE294)) : w.heap.size ≤ gb301)); have GE301 := Aside0.mk ((by rw [hg]; exact (below_size (uB5 HB GE266 GE273 GE278 GE283 GE294)) : w.heap.size ≤ gb301)); replace HB := Aside0.mk (below_step (uB5 HB GE266 GE273 GE278 GE283 GE294) hb); have NB266_301 := uN1 BK266 hg; have NB301_266 := uN2 BK266 hg; replace BK266 := uD BK266 hb; have NB273_301 := uN1 BK273 hg; have NB301_273 := uN2 BK273 hg; replace BK273 := uD BK273 hb; have NB278_301 := uN1 BK278 hg; have NB301_278 := uN2 BK278 hg; replace BK278 := uD BK278 hb; have NB283_301 := uN1 BK283 hg; have NB301_283 := uN2 BK283 hg; replace BK283 := uD BK283 hb; have NB294_301 := uN1 BK294 hg; have NB301_294 := uN2 BK294 hg; replace BK294 := uD BK294 hb; clear hb hbox hg; have hnb248 := NB301_266.out; have hnc248 := NB266_301.out; have hnb249 := NB301_273.out; have hnc249 := NB273_301.out; have hnb250 := NB301_278.out; have hnc250 := NB278_301.out; have hnb251 := NB301_283.out; have hnc251 := NB283_301.out; have hnb252 := NB301_294.out; have hnc252 := NB294_301.out; have hcz253_0 : w247.cell? ⟨gb301, 0, none⟩ = some (.int .i64 0) := uF BK301 0; have hcz253_1 : w247.cell? ⟨gb301, 1, none⟩ = some (.int .i64 0) := uF BK301 1; have hcz253_2 : w247.cell? ⟨gb301, 2, none⟩ = some (.int .i64 0) := uF BK301 2; have hcz253_3 : w247.cell? ⟨gb301, 3, none⟩ = some (.slice none 0 0) := uF BK301 3; have hfz253_0 := blk_frozen BK301.out 0; have hfz253_1 := blk_frozen BK301.out 1; have hfz253_2 := blk_frozen BK301.out 2; have hfz253_3 := blk_frozen BK301.out 3; have hnb254 := NB294_266.out; have hnc254 := NB266_294.out; have hnb255 := NB294_273.out; have hnc255 := NB273_294.out; have hnb256 := NB294_283.out; have hnc256 := NB283_294.out; have hcz257_0 : w247.cell? ⟨gb294, 0, none⟩ = some (.int .i64 x295000_2) := uF BK294 0; have hcz257_1 : w247.cell? ⟨gb294, 1, none⟩ = some (.slice Ao123 x295001_2.length co123) := uF BK294 1; have hfz257_0 := blk_frozen BK294.out 0; have hfz257_1 := blk_frozen BK294.out 1) | ((with_reducible refine gate_callee (f := 19) rfl ?_); refine goesL_ (some 131) rfl rfl Tryd.func19 (by kernel_rfl) rfl #[.agg #[.int .i64 x295000_2, .slice Ao123 x295001_2.length co123], .int .i64 ((rd_T28 l2 x12_2).f0)] rfl uC ?_; (with_reducible refine (mon_Join.calls k4 x295000_2 _ _ x295001_2 ((rd_T28 l2 x12_2).f0) t302 t303 _ ?side1 ?side2 A140.out).mono ?_); (case side1 => refine (Kd.R_reads' (e := 58) (base := w.heap.size) (ok := fun k_ => some k_ ≠ (.slice Ao21 t275.length co21 : Value).ownBlock) (n := x295001_2.length) (c := co123) ?_).2.2; exact (uT HO_295001 BK301)); (case side2 => exact (Kd.R_reads' HO_295001.out).2.1); rintro e w258 ⟨v304, rfl, ho0, hb⟩; refine ⟨_, rfl, ?_⟩; replace HO_274000 := Aside0.mk (Kd.R_below (uT HO_274000 BK301) hb); have HO305 := Aside0.mk (Kd.R_lower (Kd.R_new' (Kd.R_new' ho0 (Kd.R_lt (uT HO_279001 BK301))) (Kd.R_lt (uT HO_295001 BK301))) (below_size (uB6 HB GE266 GE273 GE278 GE283 GE294 GE301))); replace HO_279001 := Aside0.mk (Kd.R_elder' (uT HO_279001 BK301) (Kd.R_base ho0) hb); replace HO_295001 := Aside0.mk (Kd.R_elder' (uT HO_295001 BK301) (Kd.R_base ho0) hb); replace BK266 := uX BK266 NB266_301 hb; replace BK273 := uX BK273 NB273_301 hb; replace BK278 := uX BK278 NB278_301 hb; replace BK283 := uX BK283 NB283_301 hb; replace BK294 := uX BK294 NB294_301 hb; replace BK301 := Aside0.mk (blk_below (g := gb301) (o := .cells #[.int .i64 ((rd_T28 l2 x12_2).f0), .int .i64 ((rd_T28 l2 x12_2).f1), .int .i64 ((rd_T28 l2 x12_2).f2), .slice A300_3 ((rd_T28 l2 x12_2).f3).length c300_3] 28 (0, 0)) (by (with_reducible repeat (first | refine blk_drewN ?_ _ | refine blk_drew ?_ | refine blk_alloc ?_ _)); refine blk_put (cs := #[.int .i64 ((rd_T28 l2 x12_2).f0), .int .i64 ((rd_T28 l2 x12_2).f1), .int .i64 ((rd_T28 l2 x12_2).f2), .slice none 0 0]) ?_ 3 _ rfl; (with_reducible repeat (first | refine blk_drewN ?_ _ | refine blk_drew ?_ | refine blk_alloc ?_ _)); refine blk_put (cs := #[.int .i64 ((rd_T28 l2 x12_2).f0), .int .i64 ((rd_T28 l2 x12_2).f1), .int .i64 0, .slice none 0 0]) ?_ 2 _ rfl; (with_reducible repeat (first | refine blk_drewN ?_ _ | refine blk_drew ?_ | refine blk_alloc ?_ _)); refine blk_put (cs := #[.int .i64 ((rd_T28 l2 x12_2).f0), .int .i64 0, .int .i64 0, .slice none 0 0]) ?_ 1 _ rfl; (with_reducible repeat (first | refine blk_drewN ?_ _ | refine blk_drew ?_ | refine blk_alloc ?_ _)); refine blk_put (cs := #[.int .i64 0, .int .i64 0, .int .i64 0, .slice none 0 0]) ?_ 0 _ rfl; (with_reducible repeat (first | refine blk_drewN ?_ _ | refine blk_drew ?_ | refine blk_alloc ?_ _)); exact BK301.out) hb); replace HB := Aside0.mk (below_step (uB6 HB GE266 GE273 GE278 GE283 GE294 GE301) hb); (try clear hb); (try clear hb2); (try clear hk); (try clear hi); (try clear ho0); have hcz259_0 : w258.cell? ⟨gb294, 0, none⟩ = some (.int .i64 x295000_2) := uF BK294 0; have hcz259_1 : w258.cell? ⟨gb294, 1, none⟩ = some (.slice Ao123 x295001_2.length co123) := uF BK294 1; have hfz259_0 := blk_frozen BK294.out 0; have hfz259_1 := blk_frozen BK294.out 1; obtain ⟨Ao260, co260, eo260⟩ := Kd.R_slice HO305.out; subst eo260))
        obtain ⟨w261, hW_⟩ : ∃ w_, w_ = ((w258.setCell ⟨gb294, 0, none⟩ (.int .i64 t302)).setCell ⟨gb294, 1, none⟩ (.slice Ao260 t303.length co260)) := ⟨_, rfl⟩
        replace HO_274000 : Aside0 (Kd.R (Kd.int .u8) 5 w261 w.heap.size (fun _ => True) (.slice Ao11 y270.length co11) y270) := ⟨by rw [hW_]; exact uT2 HO_274000 BK294 (fun _ hk => trivial)⟩
        replace HO_279001 : Aside0 (Kd.R k58 58 w261 w.heap.size (fun k_ => some k_ ≠ (.slice Ao123 x295001_2.length co123 : Value).ownBlock ∧ some k_ ≠ (.slice Ao260 t303.length co260 : Value).ownBlock) (.slice Ao21 t275.length co21) t275) := ⟨by rw [hW_]; exact uT2 HO_279001 BK294 (fun _ hk => ⟨hk.1.1, hk.1.2⟩)⟩
        replace HO_295001 : Aside0 (Kd.R k58 58 w261 w.heap.size (fun k_ => some k_ ≠ (.slice Ao21 t275.length co21 : Value).ownBlock ∧ some k_ ≠ (.slice Ao260 t303.length co260 : Value).ownBlock) (.slice Ao123 x295001_2.length co123) x295001_2) := ⟨by rw [hW_]; exact uT2 HO_295001 BK294 (fun _ hk => ⟨hk.1.1, hk.1.2⟩)⟩
        replace HO305 : Aside0 (Kd.R k58 58 w261 w.heap.size (fun k_ => some k_ ≠ (.slice Ao21 t275.length co21 : Value).ownBlock ∧ some k_ ≠ (.slice Ao123 x295001_2.length co123 : Value).ownBlock) (.slice Ao260 t303.length co260) t303) := ⟨by rw [hW_]; exact uT2 HO305 BK294 (fun _ hk => ⟨hk.1.1.2, hk.1.2⟩)⟩
        replace BK266 := uY BK266 NB266_294 hW_
        replace BK273 := uY BK273 NB273_294 hW_
        replace BK278 := uY BK278 NB278_294 hW_
        replace BK283 := uY BK283 NB283_294 hW_
        replace BK294 : Aside0 (w261.heap[gb294]? = some (.cells #[.int .i64 t302, .slice Ao260 t303.length co260] 34 (0, 0))) := ⟨by rw [hW_]; (with_reducible repeat (first | refine blk_drewN ?_ _ | refine blk_drew ?_ | refine blk_alloc ?_ _)); refine blk_put (cs := #[.int .i64 t302, .slice Ao123 x295001_2.length co123]) ?_ 1 _ rfl; (with_reducible repeat (first | refine blk_drewN ?_ _ | refine blk_drew ?_ | refine blk_alloc ?_ _)); refine blk_put (cs := #[.int .i64 x295000_2, .slice Ao123 x295001_2.length co123]) ?_ 0 _ rfl; (with_reducible repeat (first | refine blk_drewN ?_ _ | refine blk_drew ?_ | refine blk_alloc ?_ _)); exact BK294.out⟩
        replace BK301 := uY BK301 NB301_294 hW_
        replace HB : Aside0 (Below w.heap.size w w261) := ⟨by rw [hW_]; exact uB6 HB GE266 GE273 GE278 GE283 GE294 GE301⟩
        rw [← hW_]
        clear hW_
        replace HO_274000 := Aside0.mk (Kd.R_drew HO_274000.out)
        replace HO_279001 := Aside0.mk (Kd.R_drew HO_279001.out)
        replace HO_295001 := Aside0.mk (Kd.R_drew HO_295001.out)
        replace HO305 := Aside0.mk (Kd.R_drew HO305.out)
        replace BK266 := Aside0.mk (blk_drew BK266.out)
        replace BK273 := Aside0.mk (blk_drew BK273.out)
        replace BK278 := Aside0.mk (blk_drew BK278.out)
        replace BK283 := Aside0.mk (blk_drew BK283.out)
        replace BK294 := Aside0.mk (blk_drew BK294.out)
        replace BK301 := Aside0.mk (blk_drew BK301.out)
        replace HB := Aside0.mk (below_drew1 HB.out)
        refine start_ (n := 5) (S := fun w' => w'.cell? ⟨gb273, 0, none⟩ = some (.slice Ao11 y270.length co11) ∧ w'.cell? ⟨gb294, 0, none⟩ = some (.int .i64 t302) ∧ w'.cell? ⟨gb294, 1, none⟩ = some (.slice Ao260 t303.length co260)) (ds := []) #[false, false, false, false, false] (by kernel_rfl) rfl rfl ⟨uF BK273 0, uF BK294 0, uF BK294 1⟩ (fun hHeld => ?_)
        generalize w261.drew = w262 at HO_274000 HO_279001 HO_295001 HO305 BK266 BK273 BK278 BK283 BK294 BK301 HB hHeld ⊢
        refine pure_ (i := 3) (N := some 135) (v := ?_) (a' := ?_) #[false, false, false, true, false] rfl rfl (by kernel_rfl) (fun _ _ _ h => h) (Or.inl ⟨by rfl, ?_⟩) ?_ ?_
        rotate_left
        ·intro w'
         go_simp
         with_reducible rfl
        rotate_left
        ·exact uP
        refine take_ (i := 0) (N := some 132) (v := ?_) (a' := ?_) #[true, false, false, true, false] rfl rfl (by kernel_rfl) (fun _ _ _ h => h) (Or.inl ⟨by rfl, ?_⟩) hHeld ?_ ?_
        rotate_left
        ·rintro w' ⟨s0, s1, s2⟩
         go_simp
         with_reducible rfl
        rotate_left
        ·exact uP
        refine take_ (i := 1) (N := some 133) (v := ?_) (a' := ?_) #[true, true, false, true, false] rfl rfl (by kernel_rfl) (fun _ _ _ h => h) (Or.inl ⟨by rfl, ?_⟩) hHeld ?_ ?_
        rotate_left
        ·rintro w' ⟨s0, s1, s2⟩
         go_simp
         with_reducible rfl
        rotate_left
        ·exact uP
        refine one_ (i := 2) (N := some 134) #[true, true, true, true, false] rfl rfl (by kernel_rfl) (by decide) (fun K hK => ?_)
        refine goes_ Tryd.func12 (by kernel_rfl) rfl #[.agg #[.int .i64 t302, .slice Ao260 t303.length co260]] (by rfl) rfl rfl uC ?_
        with_reducible refine (mon_Mon_Pc.calls t302 _ _ t303 t306 _ ?side1 ?side2 A141.out).mono ?_
        (case side1 => exact uS (Kd.R_reads' HO305.out).2.2)
        (case side2 => exact (Kd.R_reads' HO305.out).2.1)
        rintro e w263 ⟨rfl, hb⟩
        refine ⟨_, rfl, ?_⟩
        replace HO_274000 := uRd HO_274000 hb
        replace HO_279001 := uRd HO_279001 hb
        replace HO_295001 := uRd HO_295001 hb
        replace HO305 := uRd HO305 hb
        replace BK266 := uD BK266 hb
        replace BK273 := uD BK273 hb
        replace BK278 := uD BK278 hb
        replace BK283 := uD BK283 hb
        replace BK294 := uD BK294 hb
        replace BK301 := uD BK301 hb
        replace HB := Aside0.mk (below_step (uB6 HB GE266 GE273 GE278 GE283 GE294 GE301) hb)
        (try clear hb)
        (try clear hb2)
        (try clear hk)
        (try clear hi)
        refine hK.out _ _ ⟨uF BK273 0, uF BK294 0, uF BK294 1⟩ (fun hHeld => ?_)
        clear hK K
        refine norm_ (a' := ?_) ?_ ?_
        rotate_left
        ·show Act.put _ (some 134) _ = _
         exact uP
        refine one_ (i := 4) (N := some 136) #[true, true, true, true, true] rfl rfl (by kernel_rfl) (by decide) (fun K hK => ?_)
        refine goes_ Tryd.func25 (by kernel_rfl) rfl #[.agg #[.slice Ao11 y270.length co11], .int .i64 t306, .int .i64 ((rd_T28 l2 0).f2)] (by rfl) rfl rfl uC ?_
        with_reducible refine (lattice_Lat_Leq.calls k4 _ _ y270 t306 ((rd_T28 l2 0).f2) false _ ?side1 ?side2 A142.out).mono ?_
        (case side1 => exact uS (Kd.R_reads' HO_274000.out).2.2)
        (case side2 => exact (Kd.R_reads' HO_274000.out).2.1)
        rintro e w264 ⟨rfl, hb⟩
        refine ⟨_, rfl, ?_⟩
        replace HO_274000 := uRd HO_274000 hb
        replace HO_279001 := uRd HO_279001 hb
        replace HO_295001 := uRd HO_295001 hb
        replace HO305 := uRd HO305 hb
        replace BK266 := uD BK266 hb
        replace BK273 := uD BK273 hb
        replace BK278 := uD BK278 hb
        replace BK283 := uD BK283 hb
        replace BK294 := uD BK294 hb
        replace BK301 := uD BK301 hb
        replace HB := Aside0.mk (below_step (uB6 HB GE266 GE273 GE278 GE283 GE294 GE301) hb)
        (try clear hb)
        (try clear hb2)
        (try clear hk)
        (try clear hi)
        refine hK.out _ _ ⟨uF BK273 0, uF BK294 0, uF BK294 1⟩ (fun hHeld => ?_)
        clear hK K
        refine norm_ (a' := ?_) ?_ ?_
        rotate_left
        ·show Act.put _ (some 136) _ = _
         exact uP
        refine done_ (by kernel_rfl) ?_
        try go_wp2
        go_roundg k4
        case measure => have := HJ5.out; have := HK2.out; have := HJ115.out; have := HK4.out; omega
        case rel => exact ⟨(wrap64 (x12_2 + 1)), (t302), (t303), (.slice Ao260 t303.length co260), (by first | rfl | (simp; done) | (simp [*]; done)), H', ⟨by have := HJ5.out; have := HK2.out; have := HJ115.out; have := HK4.out; omega⟩, ⟨uR HO_274000⟩, ⟨by (with_reducible repeat (first | apply Kd.R_alloc | apply Kd.R_drewN | apply Kd.R_drew)); exact Kd.R_mono HO_279001.out (fun _ hk => hk.2)⟩, ⟨by (with_reducible repeat (first | apply Kd.R_alloc | apply Kd.R_drewN | apply Kd.R_drew)); exact Kd.R_mono HO305.out (fun _ hk => hk.1)⟩, ⟨uK BK266⟩, ⟨uK BK273⟩, ⟨uK BK278⟩, ⟨uK BK283⟩, ⟨uK BK294⟩, ⟨uB6 HB GE266 GE273 GE278 GE283 GE294 GE301⟩⟩
       as_aux_lemma =>
       rw [if_neg c139] at H
       have c139b0 : decide (((rd_T28 l2 x12_2).f2) < 0) = false := decide_eq_false c139
       clear c139
       by_cases c265 : ((rd_T28 l2 x12_2).f1) ≥ 0
       ·as_aux_lemma =>
        rw [if_pos c265] at H
        have c265b0 : decide (0 ≤ ((rd_T28 l2 x12_2).f1)) = true := decide_eq_true c265
        clear c265
        by_cases c266 : ((rd_T28 l2 x12_2).f1) < (l0.length : Int)
        ·as_aux_lemma =>
         rw [if_pos c266] at H
         have c266b0 : decide (((rd_T28 l2 x12_2).f1) < (l0.length : Int)) = true := decide_eq_true c266
         clear c266
         replace H := Option.bind_eq_some_iff.mp H
         obtain ⟨⟨t317, t318⟩, A2670, H⟩ := H
         replace H : (colloquylaw20_MonBack.l0 k4 l0 l2 ((rd_T28 l2 0).f2) (wrap64 (x12_2 + 1)) y270 t274 t275 ((rd_T28 l2 0).f0) ((rd_T28 l2 0).f1) ((rd_T28 l2 0).f2) ((rd_T28 l2 0).f3) t317 t318) = some r := H
         have A267 := Aside0.mk A2670
         clear A2670
         have H' := Aside0.mk H
         clear H
         have hnb268 := NB278_266.out
         have hnc268 := NB266_278.out
         have hnb269 := NB278_273.out
         have hnc269 := NB273_278.out
         have hnb270 := NB278_283.out
         have hnc270 := NB283_278.out
         have hnb271 := NB278_294.out
         have hnc271 := NB294_278.out
         have hcz272_0 : wr.cell? ⟨gb278, 0, none⟩ = some (.int .i64 t274) := uF BK278 0
         have hcz272_1 : wr.cell? ⟨gb278, 1, none⟩ = some (.slice Ao21 t275.length co21) := uF BK278 1
         have hfz272_0 := blk_frozen BK278.out 0
         have hfz272_1 := blk_frozen BK278.out 1
         have p300 : 0 ≤ (x12_2 : Int) := of_decide_eq_true (by first | (with_reducible assumption) | assumption)
         have q300 : x12_2 < (l2.length : Int) := of_decide_eq_true (by first | (with_reducible assumption) | assumption)
         obtain ⟨ad300, A300_3, c300_3, e300, hx300_0, hx300_1, hx300_2, hx300_3, hl300_3, hi300_3⟩ := at_T28 HR2.out x12_2 p300 q300
         obtain rfl : ad282 = ad300 := (by injection e300)
         replace hx300_0 := (HB.out.cell (World.block_lt_of_cell? w _ hx300_0)).trans hx300_0
         replace hx300_1 := (HB.out.cell (World.block_lt_of_cell? w _ hx300_1)).trans hx300_1
         replace hx300_2 := (HB.out.cell (World.block_lt_of_cell? w _ hx300_2)).trans hx300_2
         replace hx300_3 := (HB.out.cell (World.block_lt_of_cell? w _ hx300_3)).trans hx300_3
         have HR300_3 := Aside0.mk hi300_3
         have HC300_3 := Aside0.mk hl300_3
         clear hi300_3 hl300_3
         replace p300 := eq_true p300
         replace q300 := eq_true q300
         go_wp2_with (first | ((with_reducible refine gate_dst (N := 14) rfl ?_); (try (refine gate_guard (by rfl) ?_; dsimp only)); refine box_event ?hg (N := 14) ?hd (cs := #[.int .i64 0, .int .i64 0, .int .i64 0, .slice none 0 0]) (t := 28) ?hr ?_; (case hd => rfl); (case hg => rfl); (case hr => first | (go_simp; done) | (go_simp; rfl)); intro gb301 hg w273 hbox hb; replace HO_274000 := uRd HO_274000 hb; replace HO_279001 := uRd HO_279001 hb; replace HO_295001 := uRd HO_295001 hb; have BK301 := Aside0.mk (hbox); have GW301 := Aside0.mk ((by rw [hg]; exact (below_size (uB5 HB GE266 GE273 GE278 GE283 GE294)) : w.heap.size ≤ gb301)); have GE301 := Aside0.mk ((by rw [hg]; exact (below_size (uB5 HB GE266 GE273 GE278 GE283 GE294)) : w.heap.size ≤ gb301)); replace HB := Aside0.mk (below_step (uB5 HB GE266 GE273 GE278 GE283 GE294) hb); have NB266_301 := uN1 BK266 hg; have NB301_266 := uN2 BK266 hg; replace BK266 := uD BK266 hb; have NB273_301 := uN1 BK273 hg; have NB301_273 := uN2 BK273 hg; replace BK273 := uD BK273 hb; have NB278_301 := uN1 BK278 hg; have NB301_278 := uN2 BK278 hg; replace BK278 := uD BK278 hb; have NB283_301 := uN1 BK283 hg; have NB301_283 := uN2 BK283 hg; replace BK283 := uD BK283 hb; have NB294_301 := uN1 BK294 hg; have NB301_294 := uN2 BK294 hg; replace BK294 := uD BK294 hb; clear hb hbox hg; have hnb274 := NB301_266.out; have hnc274 := NB266_301.out; have hnb275 := NB301_273.out; have hnc275 := NB273_301.out; have hnb276 := NB301_278.out; have hnc276 := NB278_301.out; have hnb277 := NB301_283.out; have hnc277 := NB283_301.out; have hnb278 := NB301_294.out; have hnc278 := NB294_301.out; have hcz279_0 : w273.cell? ⟨gb301, 0, none⟩ = some (.int .i64 0) := uF BK301 0; have hcz279_1 : w273.cell? ⟨gb301, 1, none⟩ = some (.int .i64 0) := uF BK301 1; have hcz279_2 : w273.cell? ⟨gb301, 2, none⟩ = some (.int .i64 0) := uF BK301 2; have hcz279_3 : w273.cell? ⟨gb301, 3, none⟩ = some (.slice none 0 0) := uF BK301 3; have hfz279_0 := blk_frozen BK301.out 0; have hfz279_1 := blk_frozen BK301.out 1; have hfz279_2 := blk_frozen BK301.out 2; have hfz279_3 := blk_frozen BK301.out 3; have hnb280 := NB273_266.out; have hnc280 := NB266_273.out; have hnb281 := NB273_283.out; have hnc281 := NB283_273.out; have hnb282 := NB273_294.out; have hnc282 := NB294_273.out; have hcz283_0 : w273.cell? ⟨gb273, 0, none⟩ = some (.slice Ao11 y270.length co11) := uF BK273 0; have hfz283_0 := blk_frozen BK273.out 0; have hnb284 := NB294_266.out; have hnc284 := NB266_294.out; have hnb285 := NB294_283.out; have hnc285 := NB283_294.out; have hcz286_0 : w273.cell? ⟨gb294, 0, none⟩ = some (.int .i64 x295000_2) := uF BK294 0; have hcz286_1 : w273.cell? ⟨gb294, 1, none⟩ = some (.slice Ao123 x295001_2.length co123) := uF BK294 1; have hfz286_0 := blk_frozen BK294.out 0; have hfz286_1 := blk_frozen BK294.out 1) | ((with_reducible refine gate_callee (f := 17) rfl ?_); refine goesL_ (some 206) rfl rfl Tryd.func17 (by kernel_rfl) rfl #[.agg #[.slice Ao11 y270.length co11], .agg #[.int .i64 x295000_2, .slice Ao123 x295001_2.length co123], .int .i64 ((rd_T28 l2 x12_2).f0), .int .i64 ((rd_T28 l2 x12_2).f1), .int .i64 ((rd_T28 l2 x12_2).f2)] rfl uC ?_; (with_reducible refine (mon_Else.calls k4 _ _ y270 x295000_2 _ _ x295001_2 ((rd_T28 l2 x12_2).f0) ((rd_T28 l2 x12_2).f1) ((rd_T28 l2 x12_2).f2) t317 t318 _ ?side1 ?side2 ?side3 ?side4 A267.out).mono ?_); (case side1 => refine (Kd.R_reads' (e := 5) (base := w.heap.size) (ok := fun k_ => True) (n := y270.length) (c := co11) ?_).2.2; exact (uT HO_274000 BK301)); (case side2 => exact (Kd.R_reads' HO_274000.out).2.1); (case side3 => refine (Kd.R_reads' (e := 58) (base := w.heap.size) (ok := fun k_ => some k_ ≠ (.slice Ao21 t275.length co21 : Value).ownBlock) (n := x295001_2.length) (c := co123) ?_).2.2; exact (uT HO_295001 BK301)); (case side4 => exact (Kd.R_reads' HO_295001.out).2.1); rintro e w287 ⟨v319, rfl, ho0, hb⟩; refine ⟨_, rfl, ?_⟩; replace HO_274000 := Aside0.mk (Kd.R_below (uT HO_274000 BK301) hb); have HO320 := Aside0.mk (Kd.R_lower (Kd.R_new' (Kd.R_new' ho0 (Kd.R_lt (uT HO_279001 BK301))) (Kd.R_lt (uT HO_295001 BK301))) (below_size (uB6 HB GE266 GE273 GE278 GE283 GE294 GE301))); replace HO_279001 := Aside0.mk (Kd.R_elder' (uT HO_279001 BK301) (Kd.R_base ho0) hb); replace HO_295001 := Aside0.mk (Kd.R_elder' (uT HO_295001 BK301) (Kd.R_base ho0) hb); replace BK266 := uX BK266 NB266_301 hb; replace BK273 := uX BK273 NB273_301 hb; replace BK278 := uX BK278 NB278_301 hb; replace BK283 := uX BK283 NB283_301 hb; replace BK294 := uX BK294 NB294_301 hb; replace BK301 := Aside0.mk (blk_below (g := gb301) (o := .cells #[.int .i64 ((rd_T28 l2 x12_2).f0), .int .i64 ((rd_T28 l2 x12_2).f1), .int .i64 ((rd_T28 l2 x12_2).f2), .slice A300_3 ((rd_T28 l2 x12_2).f3).length c300_3] 28 (0, 0)) (by (with_reducible repeat (first | refine blk_drewN ?_ _ | refine blk_drew ?_ | refine blk_alloc ?_ _)); refine blk_put (cs := #[.int .i64 ((rd_T28 l2 x12_2).f0), .int .i64 ((rd_T28 l2 x12_2).f1), .int .i64 ((rd_T28 l2 x12_2).f2), .slice none 0 0]) ?_ 3 _ rfl; (with_reducible repeat (first | refine blk_drewN ?_ _ | refine blk_drew ?_ | refine blk_alloc ?_ _)); refine blk_put (cs := #[.int .i64 ((rd_T28 l2 x12_2).f0), .int .i64 ((rd_T28 l2 x12_2).f1), .int .i64 0, .slice none 0 0]) ?_ 2 _ rfl; (with_reducible repeat (first | refine blk_drewN ?_ _ | refine blk_drew ?_ | refine blk_alloc ?_ _)); refine blk_put (cs := #[.int .i64 ((rd_T28 l2 x12_2).f0), .int .i64 0, .int .i64 0, .slice none 0 0]) ?_ 1 _ rfl; (with_reducible repeat (first | refine blk_drewN ?_ _ | refine blk_drew ?_ | refine blk_alloc ?_ _)); refine blk_put (cs := #[.int .i64 0, .int .i64 0, .int .i64 0, .slice none 0 0]) ?_ 0 _ rfl; (with_reducible repeat (first | refine blk_drewN ?_ _ | refine blk_drew ?_ | refine blk_alloc ?_ _)); exact BK301.out) hb); replace HB := Aside0.mk (below_step (uB6 HB GE266 GE273 GE278 GE283 GE294 GE301) hb); (try clear hb); (try clear hb2); (try clear hk); (try clear hi); (try clear ho0); have hcz288_0 : w287.cell? ⟨gb294, 0, none⟩ = some (.int .i64 x295000_2) := uF BK294 0; have hcz288_1 : w287.cell? ⟨gb294, 1, none⟩ = some (.slice Ao123 x295001_2.length co123) := uF BK294 1; have hfz288_0 := blk_frozen BK294.out 0; have hfz288_1 := blk_frozen BK294.out 1; obtain ⟨Ao289, co289, eo289⟩ := Kd.R_slice HO320.out; subst eo289))
         go_roundg k4
         case measure => have := HJ5.out; have := HK2.out; have := HJ115.out; have := HK4.out; omega
         case rel => exact ⟨(wrap64 (x12_2 + 1)), (t317), (t318), (.slice Ao289 t318.length co289), (by first | rfl | (simp; done) | (simp [*]; done)), H', ⟨by have := HJ5.out; have := HK2.out; have := HJ115.out; have := HK4.out; omega⟩, ⟨uT2 HO_274000 BK294 (fun _ hk => trivial)⟩, ⟨uT2 HO_279001 BK294 (fun _ hk => hk.1.2)⟩, ⟨uT2 HO320 BK294 (fun _ hk => hk.1.1.2)⟩, ⟨uZ BK266 NB266_294⟩, ⟨uZ BK273 NB273_294⟩, ⟨uZ BK278 NB278_294⟩, ⟨uZ BK283 NB283_294⟩, ⟨by (with_reducible repeat (first | refine blk_drewN ?_ _ | refine blk_drew ?_ | refine blk_alloc ?_ _)); refine blk_put (cs := #[.int .i64 t317, .slice Ao123 x295001_2.length co123]) ?_ 1 _ rfl; (with_reducible repeat (first | refine blk_drewN ?_ _ | refine blk_drew ?_ | refine blk_alloc ?_ _)); refine blk_put (cs := #[.int .i64 x295000_2, .slice Ao123 x295001_2.length co123]) ?_ 0 _ rfl; (with_reducible repeat (first | refine blk_drewN ?_ _ | refine blk_drew ?_ | refine blk_alloc ?_ _)); exact BK294.out⟩, ⟨uB6 HB GE266 GE273 GE278 GE283 GE294 GE301⟩⟩
        as_aux_lemma =>
        rw [if_neg c266] at H
        have c266b0 : decide (((rd_T28 l2 x12_2).f1) < (l0.length : Int)) = false := decide_eq_false c266
        clear c266
        have H' := Aside0.mk H
        clear H
        have hnb290 := NB278_266.out
        have hnc290 := NB266_278.out
        have hnb291 := NB278_273.out
        have hnc291 := NB273_278.out
        have hnb292 := NB278_283.out
        have hnc292 := NB283_278.out
        have hnb293 := NB278_294.out
        have hnc293 := NB294_278.out
        have hcz294_0 : wr.cell? ⟨gb278, 0, none⟩ = some (.int .i64 t274) := uF BK278 0
        have hcz294_1 : wr.cell? ⟨gb278, 1, none⟩ = some (.slice Ao21 t275.length co21) := uF BK278 1
        have hfz294_0 := blk_frozen BK278.out 0
        have hfz294_1 := blk_frozen BK278.out 1
        have p300 : 0 ≤ (x12_2 : Int) := of_decide_eq_true (by first | (with_reducible assumption) | assumption)
        have q300 : x12_2 < (l2.length : Int) := of_decide_eq_true (by first | (with_reducible assumption) | assumption)
        obtain ⟨ad300, A300_3, c300_3, e300, hx300_0, hx300_1, hx300_2, hx300_3, hl300_3, hi300_3⟩ := at_T28 HR2.out x12_2 p300 q300
        obtain rfl : ad282 = ad300 := (by injection e300)
        replace hx300_0 := (HB.out.cell (World.block_lt_of_cell? w _ hx300_0)).trans hx300_0
        replace hx300_1 := (HB.out.cell (World.block_lt_of_cell? w _ hx300_1)).trans hx300_1
        replace hx300_2 := (HB.out.cell (World.block_lt_of_cell? w _ hx300_2)).trans hx300_2
        replace hx300_3 := (HB.out.cell (World.block_lt_of_cell? w _ hx300_3)).trans hx300_3
        have HR300_3 := Aside0.mk hi300_3
        have HC300_3 := Aside0.mk hl300_3
        clear hi300_3 hl300_3
        replace p300 := eq_true p300
        replace q300 := eq_true q300
        go_wp2_with (first | ((with_reducible refine gate_dst (N := 14) rfl ?_); (try (refine gate_guard (by rfl) ?_; dsimp only)); refine box_event ?hg (N := 14) ?hd (cs := #[.int .i64 0, .int .i64 0, .int .i64 0, .slice none 0 0]) (t := 28) ?hr ?_; (case hd => rfl); (case hg => rfl); (case hr => first | (go_simp; done) | (go_simp; rfl)); intro gb301 hg w295 hbox hb; replace HO_274000 := uRd HO_274000 hb; replace HO_279001 := uRd HO_279001 hb; replace HO_295001 := uRd HO_295001 hb; have BK301 := Aside0.mk (hbox); have GW301 := Aside0.mk ((by rw [hg]; exact (below_size (uB5 HB GE266 GE273 GE278 GE283 GE294)) : w.heap.size ≤ gb301)); have GE301 := Aside0.mk ((by rw [hg]; exact (below_size (uB5 HB GE266 GE273 GE278 GE283 GE294)) : w.heap.size ≤ gb301)); replace HB := Aside0.mk (below_step (uB5 HB GE266 GE273 GE278 GE283 GE294) hb); have NB266_301 := uN1 BK266 hg; have NB301_266 := uN2 BK266 hg; replace BK266 := uD BK266 hb; have NB273_301 := uN1 BK273 hg; have NB301_273 := uN2 BK273 hg; replace BK273 := uD BK273 hb; have NB278_301 := uN1 BK278 hg; have NB301_278 := uN2 BK278 hg; replace BK278 := uD BK278 hb; have NB283_301 := uN1 BK283 hg; have NB301_283 := uN2 BK283 hg; replace BK283 := uD BK283 hb; have NB294_301 := uN1 BK294 hg; have NB301_294 := uN2 BK294 hg; replace BK294 := uD BK294 hb; clear hb hbox hg; have hnb296 := NB301_266.out; have hnc296 := NB266_301.out; have hnb297 := NB301_273.out; have hnc297 := NB273_301.out; have hnb298 := NB301_278.out; have hnc298 := NB278_301.out; have hnb299 := NB301_283.out; have hnc299 := NB283_301.out; have hnb300 := NB301_294.out; have hnc300 := NB294_301.out; have hcz301_0 : w295.cell? ⟨gb301, 0, none⟩ = some (.int .i64 0) := uF BK301 0; have hcz301_1 : w295.cell? ⟨gb301, 1, none⟩ = some (.int .i64 0) := uF BK301 1; have hcz301_2 : w295.cell? ⟨gb301, 2, none⟩ = some (.int .i64 0) := uF BK301 2; have hcz301_3 : w295.cell? ⟨gb301, 3, none⟩ = some (.slice none 0 0) := uF BK301 3; have hfz301_0 := blk_frozen BK301.out 0; have hfz301_1 := blk_frozen BK301.out 1; have hfz301_2 := blk_frozen BK301.out 2; have hfz301_3 := blk_frozen BK301.out 3))
        go_roundg k4
        case measure => have := HJ5.out; have := HK2.out; have := HJ115.out; have := HK4.out; omega
        case rel => exact ⟨(wrap64 (x12_2 + 1)), (x295000_2), (x295001_2), (.slice Ao123 x295001_2.length co123), (by first | rfl | (simp; done) | (simp [*]; done)), H', ⟨by have := HJ5.out; have := HK2.out; have := HJ115.out; have := HK4.out; omega⟩, ⟨uT2 HO_274000 BK301 (fun _ hk => trivial)⟩, ⟨uT2 HO_279001 BK301 (fun _ hk => hk.1)⟩, ⟨uT2 HO_295001 BK301 (fun _ hk => hk.1)⟩, ⟨uZ BK266 NB266_301⟩, ⟨uZ BK273 NB273_301⟩, ⟨uZ BK278 NB278_301⟩, ⟨uZ BK283 NB283_301⟩, ⟨uZ BK294 NB294_301⟩, ⟨uB6 HB GE266 GE273 GE278 GE283 GE294 GE301⟩⟩
       as_aux_lemma =>
       rw [if_neg c265] at H
       have c265b0 : decide (0 ≤ ((rd_T28 l2 x12_2).f1)) = false := decide_eq_false c265
       clear c265
       have H' := Aside0.mk H
       clear H
       have hnb302 := NB278_266.out
       have hnc302 := NB266_278.out
       have hnb303 := NB278_273.out
       have hnc303 := NB273_278.out
       have hnb304 := NB278_283.out
       have hnc304 := NB283_278.out
       have hnb305 := NB278_294.out
       have hnc305 := NB294_278.out
       have hcz306_0 : wr.cell? ⟨gb278, 0, none⟩ = some (.int .i64 t274) := uF BK278 0
       have hcz306_1 : wr.cell? ⟨gb278, 1, none⟩ = some (.slice Ao21 t275.length co21) := uF BK278 1
       have hfz306_0 := blk_frozen BK278.out 0
       have hfz306_1 := blk_frozen BK278.out 1
       have p300 : 0 ≤ (x12_2 : Int) := of_decide_eq_true (by first | (with_reducible assumption) | assumption)
       have q300 : x12_2 < (l2.length : Int) := of_decide_eq_true (by first | (with_reducible assumption) | assumption)
       obtain ⟨ad300, A300_3, c300_3, e300, hx300_0, hx300_1, hx300_2, hx300_3, hl300_3, hi300_3⟩ := at_T28 HR2.out x12_2 p300 q300
       obtain rfl : ad282 = ad300 := (by injection e300)
       replace hx300_0 := (HB.out.cell (World.block_lt_of_cell? w _ hx300_0)).trans hx300_0
       replace hx300_1 := (HB.out.cell (World.block_lt_of_cell? w _ hx300_1)).trans hx300_1
       replace hx300_2 := (HB.out.cell (World.block_lt_of_cell? w _ hx300_2)).trans hx300_2
       replace hx300_3 := (HB.out.cell (World.block_lt_of_cell? w _ hx300_3)).trans hx300_3
       have HR300_3 := Aside0.mk hi300_3
       have HC300_3 := Aside0.mk hl300_3
       clear hi300_3 hl300_3
       replace p300 := eq_true p300
       replace q300 := eq_true q300
       go_wp2_with (first | ((with_reducible refine gate_dst (N := 14) rfl ?_); (try (refine gate_guard (by rfl) ?_; dsimp only)); refine box_event ?hg (N := 14) ?hd (cs := #[.int .i64 0, .int .i64 0, .int .i64 0, .slice none 0 0]) (t := 28) ?hr ?_; (case hd => rfl); (case hg => rfl); (case hr => first | (go_simp; done) | (go_simp; rfl)); intro gb301 hg w307 hbox hb; replace HO_274000 := uRd HO_274000 hb; replace HO_279001 := uRd HO_279001 hb; replace HO_295001 := uRd HO_295001 hb; have BK301 := Aside0.mk (hbox); have GW301 := Aside0.mk ((by rw [hg]; exact (below_size (uB5 HB GE266 GE273 GE278 GE283 GE294)) : w.heap.size ≤ gb301)); have GE301 := Aside0.mk ((by rw [hg]; exact (below_size (uB5 HB GE266 GE273 GE278 GE283 GE294)) : w.heap.size ≤ gb301)); replace HB := Aside0.mk (below_step (uB5 HB GE266 GE273 GE278 GE283 GE294) hb); have NB266_301 := uN1 BK266 hg; have NB301_266 := uN2 BK266 hg; replace BK266 := uD BK266 hb; have NB273_301 := uN1 BK273 hg; have NB301_273 := uN2 BK273 hg; replace BK273 := uD BK273 hb; have NB278_301 := uN1 BK278 hg; have NB301_278 := uN2 BK278 hg; replace BK278 := uD BK278 hb; have NB283_301 := uN1 BK283 hg; have NB301_283 := uN2 BK283 hg; replace BK283 := uD BK283 hb; have NB294_301 := uN1 BK294 hg; have NB301_294 := uN2 BK294 hg; replace BK294 := uD BK294 hb; clear hb hbox hg; have hnb308 := NB301_266.out; have hnc308 := NB266_301.out; have hnb309 := NB301_273.out; have hnc309 := NB273_301.out; have hnb310 := NB301_278.out; have hnc310 := NB278_301.out; have hnb311 := NB301_283.out; have hnc311 := NB283_301.out; have hnb312 := NB301_294.out; have hnc312 := NB294_301.out; have hcz313_0 : w307.cell? ⟨gb301, 0, none⟩ = some (.int .i64 0) := uF BK301 0; have hcz313_1 : w307.cell? ⟨gb301, 1, none⟩ = some (.int .i64 0) := uF BK301 1; have hcz313_2 : w307.cell? ⟨gb301, 2, none⟩ = some (.int .i64 0) := uF BK301 2; have hcz313_3 : w307.cell? ⟨gb301, 3, none⟩ = some (.slice none 0 0) := uF BK301 3; have hfz313_0 := blk_frozen BK301.out 0; have hfz313_1 := blk_frozen BK301.out 1; have hfz313_2 := blk_frozen BK301.out 2; have hfz313_3 := blk_frozen BK301.out 3))
       go_roundg k4
       case measure => have := HJ5.out; have := HK2.out; have := HJ115.out; have := HK4.out; omega
       case rel => exact ⟨(wrap64 (x12_2 + 1)), (x295000_2), (x295001_2), (.slice Ao123 x295001_2.length co123), (by first | rfl | (simp; done) | (simp [*]; done)), H', ⟨by have := HJ5.out; have := HK2.out; have := HJ115.out; have := HK4.out; omega⟩, ⟨uT2 HO_274000 BK301 (fun _ hk => trivial)⟩, ⟨uT2 HO_279001 BK301 (fun _ hk => hk.1)⟩, ⟨uT2 HO_295001 BK301 (fun _ hk => hk.1)⟩, ⟨uZ BK266 NB266_301⟩, ⟨uZ BK273 NB273_301⟩, ⟨uZ BK278 NB278_301⟩, ⟨uZ BK283 NB283_301⟩, ⟨uZ BK294 NB294_301⟩, ⟨uB6 HB GE266 GE273 GE278 GE283 GE294 GE301⟩⟩
      rw [if_neg c138] at H
      exact absurd H (by simp)
     rw [if_neg c137] at H
     exact absurd H (by simp)
    replace c118 := Bool.eq_false_iff.mpr c118
    subst c118
    have H1 : ((colloquylaw20_sure.f kj115).bind fun t295 => (some t295)) = some r := by rw [if_neg (show ¬ (false = true) by decide)] at H; exact H
    clear H
    have H := H1
    clear H1
    replace H := Option.bind_eq_some_iff.mp H
    obtain ⟨t295, A3140, H⟩ := H
    replace H : (some t295) = some r := H
    have A314 := Aside0.mk A3140
    clear A3140
    obtain rfl := Option.some.inj H
    go_wp2_with (first | ((with_reducible refine gate_callee (f := 7) rfl ?_); refine goesL_ (some 207) rfl rfl Tryd.func7 (by kernel_rfl) rfl #[] rfl uC ?_; (with_reducible refine (colloquylaw20_sure.calls kj115  t295 _ ?side1 A314.out).mono ?_); (case side1 => exact HG.out.below (uB5 HB GE266 GE273 GE278 GE283 GE294)); rintro e w315 ⟨rfl, hb⟩; refine ⟨_, rfl, ?_⟩; replace BK266 := uD BK266 hb; replace BK273 := uD BK273 hb; replace BK278 := uD BK278 hb; replace BK283 := uD BK283 hb; replace BK294 := uD BK294 hb; replace HB := Aside0.mk (below_step (uB5 HB GE266 GE273 GE278 GE283 GE294) hb); (try clear hb); (try clear hb2); (try clear hk); (try clear hi)))
    go_ret
    exact ⟨by first | rfl | (simp [errW_none, errW_some] <;> rfl) | (simp [*, errW_none, errW_some] <;> rfl), uB5 HB GE266 GE273 GE278 GE283 GE294⟩
   replace c52 := Bool.eq_false_iff.mpr c52
   subst c52
   have H1 : ((colloquylaw20_sure.f kj5).bind fun t321 => (some t321)) = some r := by rw [if_neg (show ¬ (false = true) by decide)] at H; exact H
   clear H
   have H := H1
   clear H1
   replace H := Option.bind_eq_some_iff.mp H
   obtain ⟨t321, A3160, H⟩ := H
   replace H : (some t321) = some r := H
   have A316 := Aside0.mk A3160
   clear A3160
   obtain rfl := Option.some.inj H
   have p282 : 0 ≤ (0 : Int) := (by omega)
   have q282 : 0 < (l2.length : Int) := of_decide_eq_true (by first | (with_reducible assumption) | assumption)
   obtain ⟨ad282, A282_3, c282_3, e282, hx282_0, hx282_1, hx282_2, hx282_3, hl282_3, hi282_3⟩ := at_T28 HR2.out 0 p282 q282
   cases e282
   have qi282 : (0 < l2.length) = True := eq_true (by omega)
   (try rw [show ((0 : Int)).toNat = 0 from rfl] at hx282_0)
   (try rw [show 0 * 4 = 0 from rfl] at hx282_0)
   (try rw [Addr.add_zero'] at hx282_0)
   (try rw [show ((0 : Int)).toNat = 0 from rfl] at hx282_1)
   (try rw [show 0 * 4 = 0 from rfl] at hx282_1)
   (try rw [Addr.add_zero'] at hx282_1)
   (try rw [show ((0 : Int)).toNat = 0 from rfl] at hx282_2)
   (try rw [show 0 * 4 = 0 from rfl] at hx282_2)
   (try rw [Addr.add_zero'] at hx282_2)
   (try rw [show ((0 : Int)).toNat = 0 from rfl] at hx282_3)
   (try rw [show 0 * 4 = 0 from rfl] at hx282_3)
   (try rw [Addr.add_zero'] at hx282_3)
   replace hx282_0 := (HB.out.cell (World.block_lt_of_cell? w _ hx282_0)).trans hx282_0
   replace hx282_1 := (HB.out.cell (World.block_lt_of_cell? w _ hx282_1)).trans hx282_1
   replace hx282_2 := (HB.out.cell (World.block_lt_of_cell? w _ hx282_2)).trans hx282_2
   replace hx282_3 := (HB.out.cell (World.block_lt_of_cell? w _ hx282_3)).trans hx282_3
   have HR282_3 := Aside0.mk hi282_3
   have HC282_3 := Aside0.mk hl282_3
   clear hi282_3 hl282_3
   replace p282 := eq_true p282
   replace q282 := eq_true q282
   try go_wp2_with (first | ((with_reducible refine gate_dst (N := 9) rfl ?_); (try (refine gate_guard (by rfl) ?_; dsimp only)); refine box_event ?hg (N := 9) ?hd (cs := #[.int .i64 0, .int .i64 0, .int .i64 0, .slice none 0 0]) (t := 28) ?hr ?_; (case hd => rfl); (case hg => rfl); (case hr => first | (go_simp; done) | (go_simp; rfl)); intro gb283 hg w317 hbox hb; replace HO_274000 := uRd HO_274000 hb; replace HO_279001 := uRd HO_279001 hb; have BK283 := Aside0.mk (hbox); have GW283 := Aside0.mk ((by rw [hg]; exact (below_size (uB3 HB GE266 GE273 GE278)) : w.heap.size ≤ gb283)); have GE283 := Aside0.mk ((by rw [hg]; exact (below_size (uB3 HB GE266 GE273 GE278)) : w.heap.size ≤ gb283)); replace HB := Aside0.mk (below_step (uB3 HB GE266 GE273 GE278) hb); have NB266_283 := uN1 BK266 hg; have NB283_266 := uN2 BK266 hg; replace BK266 := uD BK266 hb; have NB273_283 := uN1 BK273 hg; have NB283_273 := uN2 BK273 hg; replace BK273 := uD BK273 hb; have NB278_283 := uN1 BK278 hg; have NB283_278 := uN2 BK278 hg; replace BK278 := uD BK278 hb; clear hb hbox hg; have hnb318 := NB283_266.out; have hnc318 := NB266_283.out; have hnb319 := NB283_273.out; have hnc319 := NB273_283.out; have hnb320 := NB283_278.out; have hnc320 := NB278_283.out; have hcz321_0 : w317.cell? ⟨gb283, 0, none⟩ = some (.int .i64 0) := uF BK283 0; have hcz321_1 : w317.cell? ⟨gb283, 1, none⟩ = some (.int .i64 0) := uF BK283 1; have hcz321_2 : w317.cell? ⟨gb283, 2, none⟩ = some (.int .i64 0) := uF BK283 2; have hcz321_3 : w317.cell? ⟨gb283, 3, none⟩ = some (.slice none 0 0) := uF BK283 3; have hfz321_0 := blk_frozen BK283.out 0; have hfz321_1 := blk_frozen BK283.out 1; have hfz321_2 := blk_frozen BK283.out 2; have hfz321_3 := blk_frozen BK283.out 3))
   obtain ⟨w322, hW_⟩ : ∃ w_, w_ = ((((w317.setCell ⟨gb283, 0, none⟩ (.int .i64 ((rd_T28 l2 0).f0))).setCell ⟨gb283, 1, none⟩ (.int .i64 ((rd_T28 l2 0).f1))).setCell ⟨gb283, 2, none⟩ (.int .i64 ((rd_T28 l2 0).f2))).setCell ⟨gb283, 3, none⟩ (.slice A282_3 ((rd_T28 l2 0).f3).length c282_3)) := ⟨_, rfl⟩
   replace HO_274000 : Aside0 (Kd.R (Kd.int .u8) 5 w322 w.heap.size (fun _ => True) (.slice Ao11 y270.length co11) y270) := ⟨by rw [hW_]; exact uT2 HO_274000 BK283 (fun _ hk => trivial)⟩
   replace HO_279001 : Aside0 (Kd.R k58 58 w322 w.heap.size (fun _ => True) (.slice Ao21 t275.length co21) t275) := ⟨by rw [hW_]; exact uT2 HO_279001 BK283 (fun _ hk => trivial)⟩
   replace BK266 := uY BK266 NB266_283 hW_
   replace BK273 := uY BK273 NB273_283 hW_
   replace BK278 := uY BK278 NB278_283 hW_
   replace BK283 : Aside0 (w322.heap[gb283]? = some (.cells #[.int .i64 ((rd_T28 l2 0).f0), .int .i64 ((rd_T28 l2 0).f1), .int .i64 ((rd_T28 l2 0).f2), .slice A282_3 ((rd_T28 l2 0).f3).length c282_3] 28 (0, 0))) := ⟨by rw [hW_]; (with_reducible repeat (first | refine blk_drewN ?_ _ | refine blk_drew ?_ | refine blk_alloc ?_ _)); refine blk_put (cs := #[.int .i64 ((rd_T28 l2 0).f0), .int .i64 ((rd_T28 l2 0).f1), .int .i64 ((rd_T28 l2 0).f2), .slice none 0 0]) ?_ 3 _ rfl; (with_reducible repeat (first | refine blk_drewN ?_ _ | refine blk_drew ?_ | refine blk_alloc ?_ _)); refine blk_put (cs := #[.int .i64 ((rd_T28 l2 0).f0), .int .i64 ((rd_T28 l2 0).f1), .int .i64 0, .slice none 0 0]) ?_ 2 _ rfl; (with_reducible repeat (first | refine blk_drewN ?_ _ | refine blk_drew ?_ | refine blk_alloc ?_ _)); refine blk_put (cs := #[.int .i64 ((rd_T28 l2 0).f0), .int .i64 0, .int .i64 0, .slice none 0 0]) ?_ 1 _ rfl; (with_reducible repeat (first | refine blk_drewN ?_ _ | refine blk_drew ?_ | refine blk_alloc ?_ _)); refine blk_put (cs := #[.int .i64 0, .int .i64 0, .int .i64 0, .slice none 0 0]) ?_ 0 _ rfl; (with_reducible repeat (first | refine blk_drewN ?_ _ | refine blk_drew ?_ | refine blk_alloc ?_ _)); exact BK283.out⟩
   replace HB : Aside0 (Below w.heap.size w w322) := ⟨by rw [hW_]; exact uB4 HB GE266 GE273 GE278 GE283⟩
   rw [← hW_]
   clear hW_
   replace HO_274000 := Aside0.mk (Kd.R_drew HO_274000.out)
   replace HO_279001 := Aside0.mk (Kd.R_drew HO_279001.out)
   replace BK266 := Aside0.mk (blk_drew BK266.out)
   replace BK273 := Aside0.mk (blk_drew BK273.out)
   replace BK278 := Aside0.mk (blk_drew BK278.out)
   replace BK283 := Aside0.mk (blk_drew BK283.out)
   replace HB := Aside0.mk (below_drew1 HB.out)
   refine start_ (n := 25) (S := fun w' => w'.cell? ⟨gb273, 0, none⟩ = some (.slice Ao11 y270.length co11) ∧ w'.cell? ⟨gb278, 0, none⟩ = some (.int .i64 t274) ∧ w'.cell? ⟨gb278, 1, none⟩ = some (.slice Ao21 t275.length co21)) (ds := []) u_f25 (by kernel_rfl) rfl rfl ⟨uF BK273 0, uF BK278 0, uF BK278 1⟩ (fun hHeld => ?_); refine with_tabW colloquylaw20_MonBack.tab7 colloquylaw20_MonBack.bits7 (fun HT_ HW_ => ?_)
   generalize w322.drew = w323 at HO_274000 HO_279001 BK266 BK273 BK278 BK283 HB hHeld ⊢
   refine uPu 3 51 u_f3t1f21 (v := ?_) (a' := ?_) rfl rfl HT_ ?_ ?_ ?_
   rotate_left
   ·intro w'
    go_simp
    with_reducible rfl
   rotate_left
   ·exact uP
   refine uTk 0 48 u_t1f2t1f21 (v := ?_) (a' := ?_) rfl rfl HT_ HW_ hHeld ?_ ?_ ?_
   rotate_left
   ·rintro w' ⟨s0, s1, s2⟩
    go_simp
    with_reducible rfl
   rotate_left
   ·exact uP
   refine uTk 1 49 u_t2f1t1f21 (v := ?_) (a' := ?_) rfl rfl HT_ HW_ hHeld ?_ ?_ ?_
   rotate_left
   ·rintro w' ⟨s0, s1, s2⟩
    go_simp
    with_reducible rfl
   rotate_left
   ·exact uP
   refine one_ (i := 2) (N := some 50) u_t4f21 rfl rfl (one_of HT_.out (by kernel_rfl)) (by decide) (fun K hK => ?_)
   refine goes_ Tryd.func12 (by kernel_rfl) rfl #[.agg #[.int .i64 t274, .slice Ao21 t275.length co21]] (by rfl) rfl rfl uC ?_
   with_reducible refine (mon_Mon_Pc.calls t274 _ _ t275 t284 _ ?side1 ?side2 A50.out).mono ?_
   (case side1 => exact uS (Kd.R_reads' HO_279001.out).2.2)
   (case side2 => exact (Kd.R_reads' HO_279001.out).2.1)
   rintro e w324 ⟨rfl, hb⟩
   refine ⟨_, rfl, ?_⟩
   replace HO_274000 := uRd HO_274000 hb
   replace HO_279001 := uRd HO_279001 hb
   replace BK266 := uD BK266 hb
   replace BK273 := uD BK273 hb
   replace BK278 := uD BK278 hb
   replace BK283 := uD BK283 hb
   replace HB := Aside0.mk (below_step (uB4 HB GE266 GE273 GE278 GE283) hb)
   (try clear hb)
   (try clear hb2)
   (try clear hk)
   (try clear hi)
   refine hK.out _ _ ⟨uF BK273 0, uF BK278 0, uF BK278 1⟩ (fun hHeld => ?_)
   clear hK K
   refine norm_ (a' := ?_) ?_ ?_
   rotate_left
   ·show Act.put _ (some 50) _ = _
    exact uP
   refine one_ (i := 4) (N := some 52) u_t5f20 rfl rfl (one_of HT_.out (by kernel_rfl)) (by decide) (fun K hK => ?_)
   refine goes_ Tryd.func25 (by kernel_rfl) rfl #[.agg #[.slice Ao11 y270.length co11], .int .i64 t284, .int .i64 ((rd_T28 l2 0).f2)] (by rfl) rfl rfl uC ?_
   with_reducible refine (lattice_Lat_Leq.calls kj5 _ _ y270 t284 ((rd_T28 l2 0).f2) false _ ?side1 ?side2 A51.out).mono ?_
   (case side1 => exact uS (Kd.R_reads' HO_274000.out).2.2)
   (case side2 => exact (Kd.R_reads' HO_274000.out).2.1)
   rintro e w325 ⟨rfl, hb⟩
   refine ⟨_, rfl, ?_⟩
   replace HO_274000 := uRd HO_274000 hb
   replace HO_279001 := uRd HO_279001 hb
   replace BK266 := uD BK266 hb
   replace BK273 := uD BK273 hb
   replace BK278 := uD BK278 hb
   replace BK283 := uD BK283 hb
   replace HB := Aside0.mk (below_step (uB4 HB GE266 GE273 GE278 GE283) hb)
   (try clear hb)
   (try clear hb2)
   (try clear hk)
   (try clear hi)
   refine hK.out _ _ ⟨uF BK273 0, uF BK278 0, uF BK278 1⟩ (fun hHeld => ?_)
   clear hK K
   refine norm_ (a' := ?_) ?_ ?_
   rotate_left
   ·show Act.put _ (some 52) _ = _
    exact uP
   refine uPu 5 53 u_t6f19 (v := ?_) (a' := ?_) rfl rfl HT_ ?_ ?_ ?_
   rotate_left
   ·intro w'
    go_simp
    with_reducible rfl
   rotate_left
   ·exact uP
   refine uPu 6 54 u_t7f18 (v := ?_) (a' := ?_) rfl rfl HT_ ?_ ?_ ?_
   rotate_left
   ·intro w'
    go_simp
    with_reducible rfl
   rotate_left
   ·exact uP
   refine uPn 7 55 u_t8f17 (a' := ?_) rfl rfl HT_ ?_ ?_
   rotate_left
   ·exact uP
   refine uPn 8 56 u_t9f16 (a' := ?_) rfl rfl HT_ ?_ ?_
   rotate_left
   ·exact uP
   refine uPn 9 57 u_t10f15 (a' := ?_) rfl rfl HT_ ?_ ?_
   rotate_left
   ·exact uP
   refine uPu 10 58 u_t11f14 (v := ?_) (a' := ?_) rfl rfl HT_ ?_ ?_ ?_
   rotate_left
   ·intro w'
    go_simp
    with_reducible rfl
   rotate_left
   ·exact uP
   refine uPu 11 59 u_t12f13 (v := ?_) (a' := ?_) rfl rfl HT_ ?_ ?_ ?_
   rotate_left
   ·intro w'
    go_simp
    with_reducible rfl
   rotate_left
   ·exact uP
   refine uPn 12 60 u_t13f12 (a' := ?_) rfl rfl HT_ ?_ ?_
   rotate_left
   ·exact uP
   refine uPn 13 61 u_t14f11 (a' := ?_) rfl rfl HT_ ?_ ?_
   rotate_left
   ·exact uP
   refine uPn 14 62 u_t15f10 (a' := ?_) rfl rfl HT_ ?_ ?_
   rotate_left
   ·exact uP
   refine uPn 15 63 u_t16f9 (a' := ?_) rfl rfl HT_ ?_ ?_
   rotate_left
   ·exact uP
   refine uPn 16 64 u_t17f8 (a' := ?_) rfl rfl HT_ ?_ ?_
   rotate_left
   ·exact uP
   refine uPu 17 65 u_t18f7 (v := ?_) (a' := ?_) rfl rfl HT_ ?_ ?_ ?_
   rotate_left
   ·intro w'
    go_simp
    with_reducible rfl
   rotate_left
   ·exact uP
   refine uPu 18 66 u_t19f6 (v := ?_) (a' := ?_) rfl rfl HT_ ?_ ?_ ?_
   rotate_left
   ·intro w'
    go_simp
    with_reducible rfl
   rotate_left
   ·exact uP
   refine uPn 19 67 u_t20f5 (a' := ?_) rfl rfl HT_ ?_ ?_
   rotate_left
   ·exact uP
   refine uPn 20 68 u_t21f4 (a' := ?_) rfl rfl HT_ ?_ ?_
   rotate_left
   ·exact uP
   refine uPn 21 69 u_t22f3 (a' := ?_) rfl rfl HT_ ?_ ?_
   rotate_left
   ·exact uP
   refine uPn 22 70 u_t23f2 (a' := ?_) rfl rfl HT_ ?_ ?_
   rotate_left
   ·exact uP
   refine uPn 23 71 u_t24f1 (a' := ?_) rfl rfl HT_ ?_ ?_
   rotate_left
   ·exact uP
   refine uPu 24 72 u_t25 (v := ?_) (a' := ?_) rfl rfl HT_ ?_ ?_ ?_
   rotate_left
   ·intro w'
    go_simp
    with_reducible rfl
   rotate_left
   ·exact uP
   refine done_ (done_of HT_.out (by kernel_rfl)) ?_
   try go_wp2_with (first | ((with_reducible refine gate_callee (f := 7) rfl ?_); refine goesL_ (some 73) rfl rfl Tryd.func7 (by kernel_rfl) rfl #[] rfl uC ?_; (with_reducible refine (colloquylaw20_sure.calls kj5  t321 _ ?side1 A316.out).mono ?_); (case side1 => exact HG.out.below (uB4 HB GE266 GE273 GE278 GE283)); rintro e w326 ⟨rfl, hb⟩; refine ⟨_, rfl, ?_⟩; replace BK266 := uD BK266 hb; replace BK273 := uD BK273 hb; replace BK278 := uD BK278 hb; replace BK283 := uD BK283 hb; replace HB := Aside0.mk (below_step (uB4 HB GE266 GE273 GE278 GE283) hb); (try clear hb); (try clear hb2); (try clear hk); (try clear hi)))
   go_ret
   exact ⟨by first | rfl | (simp [errW_none, errW_some] <;> rfl) | (simp [*, errW_none, errW_some] <;> rfl), uB4 HB GE266 GE273 GE278 GE283⟩
  rw [if_neg c49] at H
  exact absurd H (by simp)
 rw [if_neg c4] at H
 exact absurd H (by simp)

/-- THE ONE PURE STATEMENT of colloquylaw20_MonBack: yours. -/
def colloquylaw20_MonBack.Pure : Prop := ∀ (l0 : List Int) (a1_0 : Int) (l1_1 : List (S62)) (l2 : List (S28)), l0.length ≤ maxLen → l0.length * 1 ≤ 140737488351232 → (∀ x ∈ l0, (Lit.int .u8 x).wf = true) → (Lit.int .i64 a1_0).wf = true → l1_1.length ≤ maxLen → l1_1.length * 24 ≤ 140737488351232 → (∀ y_ ∈ l1_1, ((Lit.int .i64 y_.f0).wf = true) ∧ ((Lit.int .i64 y_.f1).wf = true) ∧ ((Lit.int .i64 y_.f2).wf = true)) → l2.length ≤ maxLen → l2.length * 48 ≤ 140737488351232 → (∀ y_ ∈ l2, ((Lit.int .i64 y_.f0).wf = true) ∧ ((Lit.int .i64 y_.f1).wf = true) ∧ ((Lit.int .i64 y_.f2).wf = true) ∧ (y_.f3.length ≤ maxLen ∧ y_.f3.length * 8 ≤ 140737488351232 ∧ ∀ y1_ ∈ y_.f3, (Lit.int .i64 y1_).wf = true)) → ∃ k, colloquylaw20_MonBack.f k l0 a1_0 l1_1 l2 = some true
theorem colloquylaw20_MonBack.walk (P : colloquylaw20_MonBack.Pure) (a0 : Option Addr) (len0 cap0 : Nat) (z0 : List Int) (a1_0 : Int) (A1_1 : Option Addr) (c1_1 : Nat) (l1_1 : List (S62)) (A2 : Option Addr) (c2 : Nat) (l2 : List (S28)) (w : World) (hg : Go.Proofs.YtodfomkhhfcnhaaDoor.AsNum.GP w) (w0 : (a0 = none ∧ len0 = 0 ∧ cap0 = 0 ∧ z0 = []) ∨ ∃ x, a0 = some x ∧ len0 ≤ cap0 ∧ cap0 ≤ maxLen ∧ z0.length = cap0 ∧ (∀ i, i < z0.length → w.cell? (x.add i) = some (.int .u8 (z0.getD i 0))) ∧ ∀ n ∈ z0, (Lit.int .u8 n).wf = true) (y0 : len0 * 1 ≤ 140737488351232) (w1_0 : (Lit.int .i64 a1_0).wf = true) (hr1_1 : Kd.C k62 w A1_1 l1_1.length l1_1) (hc1_1 : l1_1.length ≤ c1_1) (m1_1 : l1_1.length ≤ maxLen) (z1_1 : l1_1.length * 24 ≤ 140737488351232) (e1_1 : ∀ y_ ∈ l1_1, ((Lit.int .i64 y_.f0).wf = true) ∧ ((Lit.int .i64 y_.f1).wf = true) ∧ ((Lit.int .i64 y_.f2).wf = true)) (hr2 : Kd.C k28 w A2 l2.length l2) (hc2 : l2.length ≤ c2) (m2 : l2.length ≤ maxLen) (z2 : l2.length * 48 ≤ 140737488351232) (e2 : ∀ y_ ∈ l2, ((Lit.int .i64 y_.f0).wf = true) ∧ ((Lit.int .i64 y_.f1).wf = true) ∧ ((Lit.int .i64 y_.f2).wf = true) ∧ (y_.f3.length ≤ maxLen ∧ y_.f3.length * 8 ≤ 140737488351232 ∧ ∀ y1_ ∈ y_.f3, (Lit.int .i64 y1_).wf = true)) :
  Calls Tryd.prog 4 #[.slice a0 len0 cap0, .agg #[.int .i64 a1_0, .slice A1_1 l1_1.length c1_1], .slice A2 l2.length c2] w fun e w' => e = .returned (.bool true) ∧ Below w.heap.size w w' := by
 obtain ⟨l0, rfl, hr0, hm0, hw0, hc0⟩ := ReadsInt.ofRowC w0
 obtain ⟨k, h⟩ := P l0 a1_0 l1_1 l2 hm0 y0 hw0 w1_0 m1_1 z1_1 e1_1 m2 z2 e2
 refine (colloquylaw20_MonBack.calls k _ _ l0 a1_0 A1_1 c1_1 l1_1 A2 c2 l2 true w (Kd.C_of_reads (d := (0 : Int)) (h1 := fun _ => rfl) hr0) hc0 hr1_1 hc1_1 hr2 hc2 hg h).mono ?_
 rintro e w' ⟨rfl, hd⟩
 exact ⟨rfl, hd⟩

end Go.Proofs.YtodfomkhhfcnhaaDoor.PMonBack
