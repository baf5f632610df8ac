/- The functions that the law reaches, as plain functions of lists and numbers, and that a call of the Go code comes to just their answers; laid by this repo's own program over the seat's translation. Conditions: each contract's own premises. -/
import Derived.Test.YtodfomkhhfcnhaaDoorPMonRisesx0
import Derived.Test.YtodfomkhhfcnhaaDoorPMonRisesx3
import Derived.Test.YtodfomkhhfcnhaaDoorPMonRisesx4
import Derived.Test.YtodfomkhhfcnhaaDoorPMonRisesx5
import Derived.Test.YtodfomkhhfcnhaaDoorPMonRisesx6
import Derived.Test.YtodfomkhhfcnhaaDoorPMonRisesx7
namespace Go.Proofs.YtodfomkhhfcnhaaDoor.PMonRises
open Go.RowKit Go.Proofs.YtodfomkhhfcnhaaDoorW.PrintWords Go.Proofs.YtodfomkhhfcnhaaDoorW.PrintLast Go.Proofs.YtodfomkhhfcnhaaDoorW.PrintMore
set_option linter.unnecessarySimpa false
attribute [local go_sem] max2_int min2_int max_two min_two max_three min_three max_four min_four   -- for this text's walks alone
set_option linter.unusedVariables false
set_option linter.unusedSimpArgs false

/-! ### colloquylaw20_MonRises: function 5 -/
mutual
def colloquylaw20_MonRises.j0 : Nat → List Int → Bool → Int → Int → Int → List Int → List Int → Int → List (S58) → Option (Bool)
 | 0, _, _, _, _, _, _, _, _, _ => none
 | k + 1, x0, x63, x268000, x268001, x268002, x268003, x275000, x280000, x280001 => if x63 = true then ((colloquylaw20_sure.f k).bind fun t282 => (some t282)) else ((mon_Else.f k x275000 x280000 x280001 x268000 x268001 x268002).bind fun bt283 => ((mon_Check.f k x275000 bt283.1 bt283.2).bind fun t288 => (if t288.isNone = true then ((mon_Mon_Pc.f x280000 x280001).bind fun t290 => ((mon_Mon_Pc.f bt283.1 bt283.2).bind fun t291 => ((lattice_Lat_Leq.f k x275000 t290 t291).bind fun t292 => (if t292 = true then ((mon_Mon_Pc.f bt283.1 bt283.2).bind fun t293 => ((lattice_Lat_Leq.f k x275000 x268001 t293).bind fun t294 => (if t294 = true then ((mon_Raise.f k x275000 x280000 x280001 (([x268001] : List Int))).bind fun t298 => ((mon_Mon_Pc.f bt283.1 bt283.2).bind fun t299 => (if t298 = t299 then (colloquylaw20_MonRises.l0 k x0 0 x268000 x268001 x268002 x268003 x275000 x280000 x280001 bt283.1 bt283.2) else (none)))) else (none)))) else (none))))) else (none))))
def colloquylaw20_MonRises.l0 : Nat → List Int → Int → Int → Int → Int → List Int → List Int → Int → List (S58) → Int → List (S58) → Option (Bool)
 | 0, _, _, _, _, _, _, _, _, _, _, _ => none
 | k + 1, x0, x10, x268000, x268001, x268002, x268003, x275000, x280000, x280001, x288000, x288001 => if x10 < (x0.length : Int) then ((mon_Mon_Pc.f x288000 x288001).bind fun t301 => ((mon_May.f k x275000 t301 x10).bind fun t302 => (if t302.isNone = true then ((mon_Mon_Pc.f x280000 x280001).bind fun t304 => ((mon_May.f k x275000 t304 x10).bind fun t305 => (if t305.isNone = true then ((mon_May.f k x275000 x268001 x10).bind fun t307 => (if t307.isNone = true then (if (true != true) = true then (none) else (colloquylaw20_MonRises.l0 k x0 (wrap64 (x10 + 1)) x268000 x268001 x268002 x268003 x275000 x280000 x280001 x288000 x288001)) else (if (true != false) = true then (none) else (colloquylaw20_MonRises.l0 k x0 (wrap64 (x10 + 1)) x268000 x268001 x268002 x268003 x275000 x280000 x280001 x288000 x288001)))) else (if (true != false) = true then (none) else (colloquylaw20_MonRises.l0 k x0 (wrap64 (x10 + 1)) x268000 x268001 x268002 x268003 x275000 x280000 x280001 x288000 x288001))))) else ((mon_Mon_Pc.f x280000 x280001).bind fun t309 => ((mon_May.f k x275000 t309 x10).bind fun t310 => (if t310.isNone = true then ((mon_May.f k x275000 x268001 x10).bind fun t312 => (if t312.isNone = true then (if (false != true) = true then (none) else (colloquylaw20_MonRises.l0 k x0 (wrap64 (x10 + 1)) x268000 x268001 x268002 x268003 x275000 x280000 x280001 x288000 x288001)) else (if (false != false) = true then (none) else (colloquylaw20_MonRises.l0 k x0 (wrap64 (x10 + 1)) x268000 x268001 x268002 x268003 x275000 x280000 x280001 x288000 x288001)))) else (if (false != false) = true then (none) else (colloquylaw20_MonRises.l0 k x0 (wrap64 (x10 + 1)) x268000 x268001 x268002 x268003 x275000 x280000 x280001 x288000 x288001)))))))) else ((colloquylaw20_sure.f k).bind fun t300 => (some t300))
end
def colloquylaw20_MonRises.f (k : Nat) (l0 : List Int) (a1_0 : Int) (l1_1 : List (S62)) (a2_0 : Int) (a2_1 : Int) (a2_2 : Int) (l2_3 : List Int) : Option (Bool) := (some (([] : List Int) : List Int)).bind fun y268 => (if y268.length + l0.length < 140737488355328 then ((some (y268 ++ l0 : List Int)).bind fun y271 => ((colloquylaw20_giveMon.f k a1_0 l1_1).bind fun bt275 => (if (l0.length : Int) > 20 then (colloquylaw20_MonRises.j0 k l0 true a2_0 a2_1 a2_2 l2_3 y271 bt275.1 bt275.2) else (if (l1_1.length : Int) > 40 then (colloquylaw20_MonRises.j0 k l0 true a2_0 a2_1 a2_2 l2_3 y271 bt275.1 bt275.2) else ((mon_Check.f k y271 bt275.1 bt275.2).bind fun t280 => (if t280.isNone = true then (if a2_1 < 0 then (colloquylaw20_MonRises.j0 k l0 true a2_0 a2_1 a2_2 l2_3 y271 bt275.1 bt275.2) else (if a2_1 ≥ (l0.length : Int) then (colloquylaw20_MonRises.j0 k l0 true a2_0 a2_1 a2_2 l2_3 y271 bt275.1 bt275.2) else (if a2_0 < 0 then (colloquylaw20_MonRises.j0 k l0 true a2_0 a2_1 a2_2 l2_3 y271 bt275.1 bt275.2) else (if a2_0 > 511 then (colloquylaw20_MonRises.j0 k l0 true a2_0 a2_1 a2_2 l2_3 y271 bt275.1 bt275.2) else (if a2_2 < 0 then (colloquylaw20_MonRises.j0 k l0 true a2_0 a2_1 a2_2 l2_3 y271 bt275.1 bt275.2) else (colloquylaw20_MonRises.j0 k l0 (decide (a2_2 > 32)) a2_0 a2_1 a2_2 l2_3 y271 bt275.1 bt275.2)))))) else (colloquylaw20_MonRises.j0 k l0 true a2_0 a2_1 a2_2 l2_3 y271 bt275.1 bt275.2))))))) else (none))
theorem colloquylaw20_MonRises.mono_l : ∀ k, (∀ y0 y1 y2 y3 y4 y5 y6 y7 y8, LeO (colloquylaw20_MonRises.j0 k y0 y1 y2 y3 y4 y5 y6 y7 y8) (colloquylaw20_MonRises.j0 (k + 1) y0 y1 y2 y3 y4 y5 y6 y7 y8)) ∧ (∀ y0 y1 y2 y3 y4 y5 y6 y7 y8 y9 y10, LeO (colloquylaw20_MonRises.l0 k y0 y1 y2 y3 y4 y5 y6 y7 y8 y9 y10) (colloquylaw20_MonRises.l0 (k + 1) y0 y1 y2 y3 y4 y5 y6 y7 y8 y9 y10))
 | 0 => ⟨fun _ _ _ _ _ _ _ _ _ r h => by simp [colloquylaw20_MonRises.j0] at h, fun _ _ _ _ _ _ _ _ _ _ _ r h => by simp [colloquylaw20_MonRises.l0] at h⟩
 | k + 1 => by
  obtain ⟨ih0, ih1⟩ := colloquylaw20_MonRises.mono_l k
  refine ⟨?_, ?_⟩
  ·intro y0 y1 y2 y3 y4 y5 y6 y7 y8
   unfold colloquylaw20_MonRises.j0
   repeat' first
   | (with_reducible exact ih0 _ _ _ _ _ _ _ _ _)
   | (with_reducible exact ih1 _ _ _ _ _ _ _ _ _ _ _)
   | (with_reducible exact colloquylaw20_giveMon.mono _ _ _)
   | (with_reducible exact colloquylaw20_sure.mono _)
   | (with_reducible exact lattice_Lat_Leq.mono _ _ _ _)
   | (with_reducible exact mon_Check.mono _ _ _ _)
   | (with_reducible exact mon_Else.mono _ _ _ _ _ _ _)
   | (with_reducible exact mon_May.mono _ _ _ _)
   | (with_reducible exact mon_Raise.mono _ _ _ _ _)
   | (with_reducible exact LeO.refl _)
   | (with_reducible exact LeO.none _)
   | (with_reducible refine LeO.ite ?_ ?_)
   | (with_reducible refine LeO.bind ?_ (fun _ => ?_))
   | exact ih0 _ _ _ _ _ _ _ _ _
   | exact ih1 _ _ _ _ _ _ _ _ _ _ _
   | exact colloquylaw20_giveMon.mono _ _ _
   | exact colloquylaw20_sure.mono _
   | exact lattice_Lat_Leq.mono _ _ _ _
   | exact mon_Check.mono _ _ _ _
   | exact mon_Else.mono _ _ _ _ _ _ _
   | exact mon_May.mono _ _ _ _
   | exact mon_Raise.mono _ _ _ _ _
   | exact LeO.none _
   | refine LeO.ite ?_ ?_
   | refine LeO.bind ?_ (fun _ => ?_)
  intro y0 y1 y2 y3 y4 y5 y6 y7 y8 y9 y10
  unfold colloquylaw20_MonRises.l0
  repeat' first
  | (with_reducible exact ih0 _ _ _ _ _ _ _ _ _)
  | (with_reducible exact ih1 _ _ _ _ _ _ _ _ _ _ _)
  | (with_reducible exact colloquylaw20_giveMon.mono _ _ _)
  | (with_reducible exact colloquylaw20_sure.mono _)
  | (with_reducible exact lattice_Lat_Leq.mono _ _ _ _)
  | (with_reducible exact mon_Check.mono _ _ _ _)
  | (with_reducible exact mon_Else.mono _ _ _ _ _ _ _)
  | (with_reducible exact mon_May.mono _ _ _ _)
  | (with_reducible exact mon_Raise.mono _ _ _ _ _)
  | (with_reducible exact LeO.refl _)
  | (with_reducible exact LeO.none _)
  | (with_reducible refine LeO.ite ?_ ?_)
  | (with_reducible refine LeO.bind ?_ (fun _ => ?_))
  | exact ih0 _ _ _ _ _ _ _ _ _
  | exact ih1 _ _ _ _ _ _ _ _ _ _ _
  | exact colloquylaw20_giveMon.mono _ _ _
  | exact colloquylaw20_sure.mono _
  | exact lattice_Lat_Leq.mono _ _ _ _
  | exact mon_Check.mono _ _ _ _
  | exact mon_Else.mono _ _ _ _ _ _ _
  | exact mon_May.mono _ _ _ _
  | exact mon_Raise.mono _ _ _ _ _
  | exact LeO.none _
  | refine LeO.ite ?_ ?_
  | refine LeO.bind ?_ (fun _ => ?_)
theorem colloquylaw20_MonRises.mono : ∀ a0 a1 a2 a3 a4 a5 a6 k, LeO (colloquylaw20_MonRises.f k a0 a1 a2 a3 a4 a5 a6) (colloquylaw20_MonRises.f (k + 1) a0 a1 a2 a3 a4 a5 a6) := by
 intro a0 a1 a2 a3 a4 a5 a6 k
 obtain ⟨ih0, ih1⟩ := colloquylaw20_MonRises.mono_l k
 unfold colloquylaw20_MonRises.f
 repeat' first
   | (with_reducible exact ih0 _ _ _ _ _ _ _ _ _)
   | (with_reducible exact ih1 _ _ _ _ _ _ _ _ _ _ _)
   | (with_reducible exact colloquylaw20_giveMon.mono _ _ _)
   | (with_reducible exact colloquylaw20_sure.mono _)
   | (with_reducible exact lattice_Lat_Leq.mono _ _ _ _)
   | (with_reducible exact mon_Check.mono _ _ _ _)
   | (with_reducible exact mon_Else.mono _ _ _ _ _ _ _)
   | (with_reducible exact mon_May.mono _ _ _ _)
   | (with_reducible exact mon_Raise.mono _ _ _ _ _)
   | (with_reducible exact LeO.refl _)
   | (with_reducible exact LeO.none _)
   | (with_reducible refine LeO.ite ?_ ?_)
   | (with_reducible refine LeO.bind ?_ (fun _ => ?_))
   | exact ih0 _ _ _ _ _ _ _ _ _
   | exact ih1 _ _ _ _ _ _ _ _ _ _ _
   | exact colloquylaw20_giveMon.mono _ _ _
   | exact colloquylaw20_sure.mono _
   | exact lattice_Lat_Leq.mono _ _ _ _
   | exact mon_Check.mono _ _ _ _
   | exact mon_Else.mono _ _ _ _ _ _ _
   | exact mon_May.mono _ _ _ _
   | exact mon_Raise.mono _ _ _ _ _
   | exact LeO.none _
   | refine LeO.ite ?_ ?_
   | refine LeO.bind ?_ (fun _ => ?_)
def colloquylaw20_MonRises.T6 : Bool × List (List Nat × List Nat) := (true, [([], []), ([], []), ([0, 1], [0, 1]), ([2], [2]), ([3, 2], [3]), ([4], [4]), ([4], [4]), ([6, 4, 4], [4, 6]), ([4], [4]), ([8, 7, 4], [4, 8]), ([5, 7, 9, 9, 4], [4, 5, 7, 9]), ([10, 4], [4, 10]), ([4, 11], [4, 11]), ([12, 10], [12]), ([13], [13]), ([13], [13]), ([15, 13], [13, 15]), ([13], [13]), ([17, 13, 13], [13, 17]), ([14, 16, 18, 18, 13], [13, 14, 16, 18]), ([19, 13], [13, 19]), ([13, 20], [13, 20]), ([21, 19], [21]), ([22], [22]), ([22], [22]), ([22], [22]), ([25, 22], [22, 25]), ([26, 22], [22, 26]), ([23, 24, 27, 22, 22], [22, 23, 24, 27]), ([22], [22]), ([29, 28, 22], [22, 29]), ([28, 30, 22], [22, 28, 30]), ([22, 31], [22, 31])])
def colloquylaw20_MonRises.B6 : List Nat := [0, 0, 3, 7, 15, 31, 31, 95, 31, 479, 1023, 2047, 4095, 8191, 16383, 16383, 49151, 16383, 147455, 524287, 1048575, 2097151, 4194303, 8388607, 8388607, 8388607, 41943039, 109051903, 268435455, 8388607, 1073741823, 2147483647, 4294967295]
theorem colloquylaw20_MonRises.tab6 : rtab .any (opsOf Tryd.f5 6) = colloquylaw20_MonRises.T6 := by kernel_rfl
theorem colloquylaw20_MonRises.bits6 : waitsOk colloquylaw20_MonRises.T6.2 colloquylaw20_MonRises.B6 = true := by kernel_rfl
def colloquylaw20_MonRises.T11 : Bool × List (List Nat × List Nat) := (true, [([], []), ([], []), ([1], [1]), ([], []), ([0, 2, 3, 2], [0, 2, 3]), ([4], [4]), ([], []), ([], []), ([7, 4], [7]), ([], []), ([6, 8, 9, 8], [6, 8, 9]), ([10], [10]), ([11, 10], [11]), ([12], [12]), ([12], [12]), ([14, 12], [12, 14]), ([12], [12]), ([13, 15, 16, 12, 12], [12, 13, 15, 16]), ([17, 12], [12, 17]), ([12, 18], [12, 18]), ([5, 19], [5, 19])])
def colloquylaw20_MonRises.B11 : List Nat := [0, 0, 2, 0, 15, 31, 0, 0, 159, 0, 991, 2015, 4063, 8159, 8159, 24543, 8159, 131039, 262111, 524255, 1048575]
theorem colloquylaw20_MonRises.tab11 : rtab .any (opsOf Tryd.f5 11) = colloquylaw20_MonRises.T11 := by kernel_rfl
theorem colloquylaw20_MonRises.bits11 : waitsOk colloquylaw20_MonRises.T11.2 colloquylaw20_MonRises.B11 = true := by kernel_rfl
set_option maxHeartbeats 8000000 in
set_option maxRecDepth 100000 in
theorem colloquylaw20_MonRises.calls (k : Nat) (A0 : Option Addr) (c0 : Nat) (l0 : List Int) (a1_0 : Int) (A1_1 : Option Addr) (c1_1 : Nat) (l1_1 : List (S62)) (a2_0 : Int) (a2_1 : Int) (a2_2 : Int) (A2_3 : Option Addr) (c2_3 : Nat) (l2_3 : List Int) (r : Bool) (w : World) (hr0 : Kd.C (Kd.int .u8) w A0 l0.length l0) (hc0 : l0.length ≤ c0) (hr1_1 : Kd.C k62 w A1_1 l1_1.length l1_1) (hc1_1 : l1_1.length ≤ c1_1) (hr2_3 : Kd.C (Kd.int .i64) w A2_3 l2_3.length l2_3) (hc2_3 : l2_3.length ≤ c2_3) (hg : Go.Proofs.YtodfomkhhfcnhaaDoor.AsNum.GP w) (h : colloquylaw20_MonRises.f k l0 a1_0 l1_1 a2_0 a2_1 a2_2 l2_3 = some r) :
  Calls Tryd.prog 5 #[.slice A0 l0.length c0, .agg #[.int .i64 a1_0, .slice A1_1 l1_1.length c1_1], .agg #[.int .i64 a2_0, .int .i64 a2_1, .int .i64 a2_2, .slice A2_3 l2_3.length c2_3]] w fun e w' => e = .returned (.bool r) ∧ Below w.heap.size w w' := by
 have hu25 := Tryd.underlying25
 have hu28 := Tryd.underlying28
 have hu31 := Tryd.underlying31
 have hu34 := Tryd.underlying34
 have hu38 := Tryd.underlying38
 have hu63 := Tryd.underlying63
 have HG := Aside0.mk hg
 clear hg
 have HR0 := Aside0.mk hr0
 have HC0 := Aside0.mk hc0
 clear hr0 hc0
 have HR1_1 := Aside0.mk hr1_1
 have HC1_1 := Aside0.mk hc1_1
 clear hr1_1 hc1_1
 have HR2_3 := Aside0.mk hr2_3
 have HC2_3 := Aside0.mk hc2_3
 clear hr2_3 hc2_3
 have HB := Aside0.mk (Below.refl w.heap.size w)
 have H : ((some (([] : List Int) : List Int)).bind fun y268 => (if y268.length + l0.length < 140737488355328 then ((some (y268 ++ l0 : List Int)).bind fun y271 => ((colloquylaw20_giveMon.f k a1_0 l1_1).bind fun bt275 => (if (l0.length : Int) > 20 then (colloquylaw20_MonRises.j0 k l0 true a2_0 a2_1 a2_2 l2_3 y271 bt275.1 bt275.2) else (if (l1_1.length : Int) > 40 then (colloquylaw20_MonRises.j0 k l0 true a2_0 a2_1 a2_2 l2_3 y271 bt275.1 bt275.2) else ((mon_Check.f k y271 bt275.1 bt275.2).bind fun t280 => (if t280.isNone = true then (if a2_1 < 0 then (colloquylaw20_MonRises.j0 k l0 true a2_0 a2_1 a2_2 l2_3 y271 bt275.1 bt275.2) else (if a2_1 ≥ (l0.length : Int) then (colloquylaw20_MonRises.j0 k l0 true a2_0 a2_1 a2_2 l2_3 y271 bt275.1 bt275.2) else (if a2_0 < 0 then (colloquylaw20_MonRises.j0 k l0 true a2_0 a2_1 a2_2 l2_3 y271 bt275.1 bt275.2) else (if a2_0 > 511 then (colloquylaw20_MonRises.j0 k l0 true a2_0 a2_1 a2_2 l2_3 y271 bt275.1 bt275.2) else (if a2_2 < 0 then (colloquylaw20_MonRises.j0 k l0 true a2_0 a2_1 a2_2 l2_3 y271 bt275.1 bt275.2) else (colloquylaw20_MonRises.j0 k l0 (decide (a2_2 > 32)) a2_0 a2_1 a2_2 l2_3 y271 bt275.1 bt275.2)))))) else (colloquylaw20_MonRises.j0 k l0 true a2_0 a2_1 a2_2 l2_3 y271 bt275.1 bt275.2))))))) else (none))) = some r := h
 clear h
 obtain ⟨y268, hy268⟩ : ∃ y_ : List Int, y_ = (([] : List Int)) := ⟨_, rfl⟩
 replace H : (if y268.length + l0.length < 140737488355328 then ((some (y268 ++ l0 : List Int)).bind fun y271 => ((colloquylaw20_giveMon.f k a1_0 l1_1).bind fun bt275 => (if (l0.length : Int) > 20 then (colloquylaw20_MonRises.j0 k l0 true a2_0 a2_1 a2_2 l2_3 y271 bt275.1 bt275.2) else (if (l1_1.length : Int) > 40 then (colloquylaw20_MonRises.j0 k l0 true a2_0 a2_1 a2_2 l2_3 y271 bt275.1 bt275.2) else ((mon_Check.f k y271 bt275.1 bt275.2).bind fun t280 => (if t280.isNone = true then (if a2_1 < 0 then (colloquylaw20_MonRises.j0 k l0 true a2_0 a2_1 a2_2 l2_3 y271 bt275.1 bt275.2) else (if a2_1 ≥ (l0.length : Int) then (colloquylaw20_MonRises.j0 k l0 true a2_0 a2_1 a2_2 l2_3 y271 bt275.1 bt275.2) else (if a2_0 < 0 then (colloquylaw20_MonRises.j0 k l0 true a2_0 a2_1 a2_2 l2_3 y271 bt275.1 bt275.2) else (if a2_0 > 511 then (colloquylaw20_MonRises.j0 k l0 true a2_0 a2_1 a2_2 l2_3 y271 bt275.1 bt275.2) else (if a2_2 < 0 then (colloquylaw20_MonRises.j0 k l0 true a2_0 a2_1 a2_2 l2_3 y271 bt275.1 bt275.2) else (colloquylaw20_MonRises.j0 k l0 (decide (a2_2 > 32)) a2_0 a2_1 a2_2 l2_3 y271 bt275.1 bt275.2)))))) else (colloquylaw20_MonRises.j0 k l0 true a2_0 a2_1 a2_2 l2_3 y271 bt275.1 bt275.2))))))) else (none)) = some r := by first | (rw [hy268]; with_reducible exact H) | (have H2_ := (Option.bind_some _ _).symm.trans H; rw [hy268]; with_reducible exact H2_) | (have H2_ := (Option.bind_some _ _).symm.trans H; with_reducible exact H2_) | with_reducible exact H | (rw [hy268]; exact H) | exact H
 have Ny268 := Aside0.mk hy268
 clear hy268
 by_cases c4 : y268.length + l0.length < 140737488355328
 ·rw [if_pos c4] at H
  have LMc4 := Aside0.mk c4
  clear c4
  obtain ⟨y271, hy271⟩ : ∃ y_ : List Int, y_ = (y268 ++ l0) := ⟨_, rfl⟩
  replace H : ((colloquylaw20_giveMon.f k a1_0 l1_1).bind fun bt275 => (if (l0.length : Int) > 20 then (colloquylaw20_MonRises.j0 k l0 true a2_0 a2_1 a2_2 l2_3 y271 bt275.1 bt275.2) else (if (l1_1.length : Int) > 40 then (colloquylaw20_MonRises.j0 k l0 true a2_0 a2_1 a2_2 l2_3 y271 bt275.1 bt275.2) else ((mon_Check.f k y271 bt275.1 bt275.2).bind fun t280 => (if t280.isNone = true then (if a2_1 < 0 then (colloquylaw20_MonRises.j0 k l0 true a2_0 a2_1 a2_2 l2_3 y271 bt275.1 bt275.2) else (if a2_1 ≥ (l0.length : Int) then (colloquylaw20_MonRises.j0 k l0 true a2_0 a2_1 a2_2 l2_3 y271 bt275.1 bt275.2) else (if a2_0 < 0 then (colloquylaw20_MonRises.j0 k l0 true a2_0 a2_1 a2_2 l2_3 y271 bt275.1 bt275.2) else (if a2_0 > 511 then (colloquylaw20_MonRises.j0 k l0 true a2_0 a2_1 a2_2 l2_3 y271 bt275.1 bt275.2) else (if a2_2 < 0 then (colloquylaw20_MonRises.j0 k l0 true a2_0 a2_1 a2_2 l2_3 y271 bt275.1 bt275.2) else (colloquylaw20_MonRises.j0 k l0 (decide (a2_2 > 32)) a2_0 a2_1 a2_2 l2_3 y271 bt275.1 bt275.2)))))) else (colloquylaw20_MonRises.j0 k l0 true a2_0 a2_1 a2_2 l2_3 y271 bt275.1 bt275.2)))))) = some r := by first | (rw [hy271]; with_reducible exact H) | (have H2_ := (Option.bind_some _ _).symm.trans H; rw [hy271]; with_reducible exact H2_) | (have H2_ := (Option.bind_some _ _).symm.trans H; with_reducible exact H2_) | with_reducible exact H | (rw [hy271]; exact H) | exact H
  have Ny271 := Aside0.mk hy271
  clear hy271
  replace H := Option.bind_eq_some_iff.mp H
  obtain ⟨⟨t275, t276⟩, A50, H⟩ := H
  replace H : (if (l0.length : Int) > 20 then (colloquylaw20_MonRises.j0 k l0 true a2_0 a2_1 a2_2 l2_3 y271 t275 t276) else (if (l1_1.length : Int) > 40 then (colloquylaw20_MonRises.j0 k l0 true a2_0 a2_1 a2_2 l2_3 y271 t275 t276) else ((mon_Check.f k y271 t275 t276).bind fun t280 => (if t280.isNone = true then (if a2_1 < 0 then (colloquylaw20_MonRises.j0 k l0 true a2_0 a2_1 a2_2 l2_3 y271 t275 t276) else (if a2_1 ≥ (l0.length : Int) then (colloquylaw20_MonRises.j0 k l0 true a2_0 a2_1 a2_2 l2_3 y271 t275 t276) else (if a2_0 < 0 then (colloquylaw20_MonRises.j0 k l0 true a2_0 a2_1 a2_2 l2_3 y271 t275 t276) else (if a2_0 > 511 then (colloquylaw20_MonRises.j0 k l0 true a2_0 a2_1 a2_2 l2_3 y271 t275 t276) else (if a2_2 < 0 then (colloquylaw20_MonRises.j0 k l0 true a2_0 a2_1 a2_2 l2_3 y271 t275 t276) else (colloquylaw20_MonRises.j0 k l0 (decide (a2_2 > 32)) a2_0 a2_1 a2_2 l2_3 y271 t275 t276)))))) else (colloquylaw20_MonRises.j0 k l0 true a2_0 a2_1 a2_2 l2_3 y271 t275 t276))))) = some r := H
  have A5 := Aside0.mk A50
  clear A50
  have HC6 := Aside0.mk H
  clear H
  go_enter Tryd.func5, Tryd.ntmps5
  try simp only [List.append_eq, List.cons_append, List.nil_append]
  go_upto_region 3 with (first | ((with_reducible refine gate_dst (N := 4) rfl ?_); (try (refine gate_guard (by rfl) ?_; dsimp only)); refine box_event ?hg (N := 4) ?hd (cs := #[.int .i64 a1_0, .slice A1_1 l1_1.length c1_1]) (t := 25) ?hr ?_; (case hd => rfl); (case hg => rfl); (case hr => first | (go_simp; done) | (go_simp; rfl)); intro gb266 hg w7 hbox hb; have BK266 := Aside0.mk (hbox); have GW266 := Aside0.mk ((by rw [hg]; exact (below_size (uB0 HB)) : w.heap.size ≤ gb266)); have GE266 := Aside0.mk ((by rw [hg]; exact (below_size (uB0 HB)) : w.heap.size ≤ gb266)); replace HB := Aside0.mk (below_step (uB0 HB) hb); clear hb hbox hg) | ((with_reducible refine gate_dst (N := 5) rfl ?_); (try (refine gate_guard (by rfl) ?_; dsimp only)); refine box_event ?hg (N := 5) ?hd (cs := #[.int .i64 a2_0, .int .i64 a2_1, .int .i64 a2_2, .slice A2_3 l2_3.length c2_3]) (t := 28) ?hr ?_; (case hd => rfl); (case hg => rfl); (case hr => first | (go_simp; done) | (go_simp; rfl)); intro gb267 hg w8 hbox hb; have BK267 := Aside0.mk (hbox); have GW267 := Aside0.mk ((by rw [hg]; exact (below_size (uB1 HB GE266)) : w.heap.size ≤ gb267)); have GE267 := Aside0.mk ((by rw [hg]; exact (below_size (uB1 HB GE266)) : w.heap.size ≤ gb267)); replace HB := Aside0.mk (below_step (uB1 HB GE266) hb); have NB266_267 := Aside0.mk ((by rw [hg]; exact Nat.ne_of_lt (blk_lt (g := gb266) (o := .cells #[.int .i64 a1_0, .slice A1_1 l1_1.length c1_1] 25 (0, 0)) (uK BK266)) : gb266 ≠ gb267)); have NB267_266 := Aside0.mk ((by rw [hg]; exact Nat.ne_of_gt (blk_lt (g := gb266) (o := .cells #[.int .i64 a1_0, .slice A1_1 l1_1.length c1_1] 25 (0, 0)) (uK BK266)) : gb267 ≠ gb266)); replace BK266 := uD BK266 hb; clear hb hbox hg) | ((with_reducible refine gate_dst (N := 11) rfl ?_); (try (refine gate_guard (by rfl) ?_; dsimp only)); refine Kd.R_lit (Kd.int .u8) _ 5 ?hg (N := 11) ?hd (xs := ([] : List Int)) (inner := []) (ok := fun _ => True) (okp := fun _ => True) ?hr ?hp (fun _ hk => hk) trivial (Below.refl _ _) (Nat.le_refl _) (by simp) ?_; (case hd => rfl); (case hg => rfl); (case hr => first | (go_simp; done) | (go_simp; rfl)); (case hp => exact (Reps.none _ _)); intro v269 w9 ho10 hb hg_ hnew_; clear hg_ hnew_; (first | rw [← Ny268.out] at ho10 | (simp only [Int.reduceToNat] at ho10; rw [← Ny268.out] at ho10)); have HO270 := Aside0.mk (Kd.R_lower ho10 (below_size (uB2 HB GE266 GE267))); replace BK266 := uD BK266 hb; replace BK267 := uD BK267 hb; replace HB := Aside0.mk (below_step (uB2 HB GE266 GE267) hb); clear hb ho10) | ((with_reducible refine gate_builtin (b := .append) (xs := #[.tmp 11, .tmp 12]) rfl ?_); (try (refine gate_guard (by rfl) ?_; dsimp only)); at_builtin; refine Kd.R_append_rows (Kd.int .u8) (w0 := w) w.heap.size rfl (.tmp 11) (.tmp 12) 22 5 (.int .u8 0) 1 rfl Tryd.underlying22 info5 rfl (by decide) (by omega) v269 y268 l0 _ _ _ (fun _ => True) (fun _ => False) rfl rfl ?aO ?aR (fun _ _ h => h) (fun _ h => h.elim) ?aF ?aB ?aS ?aL ?_; (case aR => exact uS (Kd.C_below HR0.out HB.out)); (case aB => exact (uB2 HB GE266 GE267)); (case aF => exact (fun _ _ => trivial)); (case aO => exact (uR HO270)); (case aS => exact (below_size (uB2 HB GE266 GE267))); (case aL => have := LMc4.out; omega); intro v272 w11 ho hb hg hat; rw [← Ny271.out] at ho; replace BK266 := Aside0.mk (blk_grown (g := gb266) (o := .cells #[.int .i64 a1_0, .slice A1_1 l1_1.length c1_1] 25 (0, 0)) (uK BK266) hg (Kd.R_ne HO270.out BK266.out (by decide))); replace BK267 := Aside0.mk (blk_grown (g := gb267) (o := .cells #[.int .i64 a2_0, .int .i64 a2_1, .int .i64 a2_2, .slice A2_3 l2_3.length c2_3] 28 (0, 0)) (uK BK267) hg (Kd.R_ne HO270.out BK267.out (by decide))); replace HB := Aside0.mk (hb); have HO273 := Aside0.mk (ho); clear HO270; clear ho hb hg hat; obtain ⟨Ao12, co12, eo12⟩ := Kd.R_slice HO273.out; subst eo12) | ((with_reducible refine gate_dst (N := 7) rfl ?_); (try (refine gate_guard (by rfl) ?_; dsimp only)); refine box_event ?hg (N := 7) ?hd (cs := #[.slice none 0 0]) (t := 31) ?hr ?_; (case hd => rfl); (case hg => rfl); (case hr => first | (go_simp; done) | (go_simp; rfl)); intro gb274 hg w13 hbox hb; replace HO273 := Aside0.mk (Kd.R_below (uR HO273) hb); have BK274 := Aside0.mk (hbox); have GW274 := Aside0.mk ((by rw [hg]; exact (below_size (uB2 HB GE266 GE267)) : w.heap.size ≤ gb274)); have GE274 := Aside0.mk ((by rw [hg]; exact (below_size (uB2 HB GE266 GE267)) : w.heap.size ≤ gb274)); replace HB := Aside0.mk (below_step (uB2 HB GE266 GE267) hb); have NB266_274 := Aside0.mk ((by rw [hg]; exact Nat.ne_of_lt (blk_lt (g := gb266) (o := .cells #[.int .i64 a1_0, .slice A1_1 l1_1.length c1_1] 25 (0, 0)) (uK BK266)) : gb266 ≠ gb274)); have NB274_266 := Aside0.mk ((by rw [hg]; exact Nat.ne_of_gt (blk_lt (g := gb266) (o := .cells #[.int .i64 a1_0, .slice A1_1 l1_1.length c1_1] 25 (0, 0)) (uK BK266)) : gb274 ≠ gb266)); replace BK266 := uD BK266 hb; have NB267_274 := Aside0.mk ((by rw [hg]; exact Nat.ne_of_lt (blk_lt (g := gb267) (o := .cells #[.int .i64 a2_0, .int .i64 a2_1, .int .i64 a2_2, .slice A2_3 l2_3.length c2_3] 28 (0, 0)) (uK BK267)) : gb267 ≠ gb274)); have NB274_267 := Aside0.mk ((by rw [hg]; exact Nat.ne_of_gt (blk_lt (g := gb267) (o := .cells #[.int .i64 a2_0, .int .i64 a2_1, .int .i64 a2_2, .slice A2_3 l2_3.length c2_3] 28 (0, 0)) (uK BK267)) : gb274 ≠ gb267)); replace BK267 := uD BK267 hb; clear hb hbox hg; have hnb14 := NB274_266.out; have hnc14 := NB266_274.out; have hnb15 := NB274_267.out; have hnc15 := NB267_274.out; have hcz16_0 : w13.cell? ⟨gb274, 0, none⟩ = some (.slice none 0 0) := uF BK274 0; have hfz16_0 := blk_frozen BK274.out 0; have hnb17 := NB266_267.out; have hnc17 := NB267_266.out; have hcz18_0 : w13.cell? ⟨gb266, 0, none⟩ = some (.int .i64 a1_0) := uF BK266 0; have hcz18_1 : w13.cell? ⟨gb266, 1, none⟩ = some (.slice A1_1 l1_1.length c1_1) := uF BK266 1; have hfz18_0 := blk_frozen BK266.out 0; have hfz18_1 := blk_frozen BK266.out 1) | ((with_reducible refine gate_callee (f := 8) rfl ?_); refine goesL_ (some 16) rfl rfl Tryd.func8 (by kernel_rfl) rfl #[.agg #[.int .i64 a1_0, .slice A1_1 l1_1.length c1_1]] rfl uC ?_; (with_reducible refine (colloquylaw20_giveMon.calls k a1_0 _ _ l1_1 t275 t276 _ ?side1 ?side2 A5.out).mono ?_); (case side1 => exact Kd.C_below HR1_1.out (uB3 HB GE266 GE267 GE274)); (case side2 => exact HC1_1.out); rintro e w19 ⟨v277, rfl, ho0, hb⟩; refine ⟨_, rfl, ?_⟩; replace HO273 := Aside0.mk (Kd.R_below (by (with_reducible repeat (first | apply Kd.R_alloc | apply Kd.R_drewN | apply Kd.R_drew)); exact (Kd.R_mono (Kd.R_far (p := ⟨gb274, 0, none⟩) (Kd.R_types HO273.out BK274.out (by decide)) (fun _ hk => hk.2) (.slice Ao12 y271.length co12)) (fun _ h_ => h_.1))) hb); have HO278 := Aside0.mk (Kd.R_lower ho0 (below_size (uB3 HB GE266 GE267 GE274))); replace BK266 := Aside0.mk (blk_below (g := gb266) (o := .cells #[.int .i64 a1_0, .slice A1_1 l1_1.length c1_1] 25 (0, 0)) (by (with_reducible repeat (first | refine blk_drewN ?_ _ | refine blk_drew ?_ | refine blk_alloc ?_ _)); refine blk_far ?_ NB266_274.out _; (with_reducible repeat (first | refine blk_drewN ?_ _ | refine blk_drew ?_ | refine blk_alloc ?_ _)); exact BK266.out) hb); replace BK267 := Aside0.mk (blk_below (g := gb267) (o := .cells #[.int .i64 a2_0, .int .i64 a2_1, .int .i64 a2_2, .slice A2_3 l2_3.length c2_3] 28 (0, 0)) (by (with_reducible repeat (first | refine blk_drewN ?_ _ | refine blk_drew ?_ | refine blk_alloc ?_ _)); refine blk_far ?_ NB267_274.out _; (with_reducible repeat (first | refine blk_drewN ?_ _ | refine blk_drew ?_ | refine blk_alloc ?_ _)); exact BK267.out) hb); replace BK274 := Aside0.mk (blk_below (g := gb274) (o := .cells #[.slice Ao12 y271.length co12] 31 (0, 0)) (by (with_reducible repeat (first | refine blk_drewN ?_ _ | refine blk_drew ?_ | refine blk_alloc ?_ _)); refine blk_put (cs := #[.slice none 0 0]) ?_ 0 _ rfl; (with_reducible repeat (first | refine blk_drewN ?_ _ | refine blk_drew ?_ | refine blk_alloc ?_ _)); exact BK274.out) hb); replace HB := Aside0.mk (below_step (uB3 HB GE266 GE267 GE274) hb); (try clear hb); (try clear hb2); (try clear hk); (try clear hi); (try clear ho0)) | ((with_reducible refine gate_dst (N := 8) rfl ?_); (try (refine gate_guard (by rfl) ?_; dsimp only)); refine box_event ?hg (N := 8) ?hd (cs := #[.int .i64 0, .slice none 0 0]) (t := 34) ?hr ?_; (case hd => rfl); (case hg => rfl); (case hr => first | (go_simp; done) | (go_simp; rfl)); intro gb279 hg w20 hbox hb; replace HO273 := Aside0.mk (Kd.R_below (uR HO273) hb); replace HO278 := Aside0.mk (Kd.R_below (uR HO278) hb); have BK279 := Aside0.mk (hbox); have GW279 := Aside0.mk ((by rw [hg]; exact (below_size (uB3 HB GE266 GE267 GE274)) : w.heap.size ≤ gb279)); have GE279 := Aside0.mk ((by rw [hg]; exact (below_size (uB3 HB GE266 GE267 GE274)) : w.heap.size ≤ gb279)); replace HB := Aside0.mk (below_step (uB3 HB GE266 GE267 GE274) hb); have NB266_279 := Aside0.mk ((by rw [hg]; exact Nat.ne_of_lt (blk_lt (g := gb266) (o := .cells #[.int .i64 a1_0, .slice A1_1 l1_1.length c1_1] 25 (0, 0)) (uK BK266)) : gb266 ≠ gb279)); have NB279_266 := Aside0.mk ((by rw [hg]; exact Nat.ne_of_gt (blk_lt (g := gb266) (o := .cells #[.int .i64 a1_0, .slice A1_1 l1_1.length c1_1] 25 (0, 0)) (uK BK266)) : gb279 ≠ gb266)); replace BK266 := uD BK266 hb; have NB267_279 := Aside0.mk ((by rw [hg]; exact Nat.ne_of_lt (blk_lt (g := gb267) (o := .cells #[.int .i64 a2_0, .int .i64 a2_1, .int .i64 a2_2, .slice A2_3 l2_3.length c2_3] 28 (0, 0)) (uK BK267)) : gb267 ≠ gb279)); have NB279_267 := Aside0.mk ((by rw [hg]; exact Nat.ne_of_gt (blk_lt (g := gb267) (o := .cells #[.int .i64 a2_0, .int .i64 a2_1, .int .i64 a2_2, .slice A2_3 l2_3.length c2_3] 28 (0, 0)) (uK BK267)) : gb279 ≠ gb267)); replace BK267 := uD BK267 hb; have NB274_279 := Aside0.mk ((by rw [hg]; exact Nat.ne_of_lt (blk_lt (g := gb274) (o := .cells #[.slice Ao12 y271.length co12] 31 (0, 0)) (uK BK274)) : gb274 ≠ gb279)); have NB279_274 := Aside0.mk ((by rw [hg]; exact Nat.ne_of_gt (blk_lt (g := gb274) (o := .cells #[.slice Ao12 y271.length co12] 31 (0, 0)) (uK BK274)) : gb279 ≠ gb274)); replace BK274 := uD BK274 hb; clear hb hbox hg; have hnb21 := NB279_266.out; have hnc21 := NB266_279.out; have hnb22 := NB279_267.out; have hnc22 := NB267_279.out; have hnb23 := NB279_274.out; have hnc23 := NB274_279.out; have hcz24_0 : w20.cell? ⟨gb279, 0, none⟩ = some (.int .i64 0) := uF BK279 0; have hcz24_1 : w20.cell? ⟨gb279, 1, none⟩ = some (.slice none 0 0) := uF BK279 1; have hfz24_0 := blk_frozen BK279.out 0; have hfz24_1 := blk_frozen BK279.out 1; obtain ⟨Ao25, co25, eo25⟩ := Kd.R_slice HO278.out; subst eo25))
  (try simp only [Act.put, List.setIfInBounds_toArray, List.set_cons_zero, List.set_cons_succ])
  go_cut [63] (fun v63 wc => ∃ (kq : Nat) (x63_5 : Bool), v63 = .bool x63_5 ∧ Aside0 (colloquylaw20_MonRises.j0 kq l0 x63_5 a2_0 a2_1 a2_2 l2_3 y271 t275 t276 = some r) ∧ Aside0 (kq ≤ k) ∧ Aside0 (Kd.R (Kd.int .u8) 5 wc w.heap.size (fun _ => True) (.slice Ao12 y271.length co12) y271) ∧ Aside0 (Kd.R k58 58 wc w.heap.size (fun _ => True) (.slice Ao25 t276.length co25) t276) ∧ Aside0 (wc.heap[gb266]? = some (.cells #[.int .i64 a1_0, (.slice A1_1 l1_1.length c1_1)] 25 (0, 0))) ∧ Aside0 (wc.heap[gb267]? = some (.cells #[.int .i64 a2_0, .int .i64 a2_1, .int .i64 a2_2, (.slice A2_3 l2_3.length c2_3)] 28 (0, 0))) ∧ Aside0 (wc.heap[gb274]? = some (.cells #[(.slice Ao12 y271.length co12)] 31 (0, 0))) ∧ Aside0 (wc.heap[gb279]? = some (.cells #[.int .i64 t275, (.slice Ao25 t276.length co25)] 34 (0, 0))) ∧ Aside0 (Below w.heap.size w wc))
  case first =>
   have H := HC6.out
   clear HC6
   by_cases c26 : (l0.length : Int) > 20
   ·rw [if_pos c26] at H
    have c26b0 : decide (20 < (l0.length : Int)) = true := decide_eq_true c26
    have c26b1 : decide (20 < l0.length) = true := decide_eq_true (by omega)
    clear c26
    (first | rw [c26b0] | (simp only [i64_w, i32_w]; rw [c26b0]) | skip)
    have H' := Aside0.mk H
    clear H
    go_wp2
    go_meet
    case rel => exact ⟨_, (true), (by first | rfl | (simp; done) | (simp [*]; done)), H', ⟨by first | omega | exact Nat.le_refl _⟩, ⟨by (with_reducible repeat (first | apply Kd.R_alloc | apply Kd.R_drewN | apply Kd.R_drew)); exact Kd.R_mono (Kd.R_far (p := ⟨gb279, 1, none⟩) (Kd.R_far (p := ⟨gb279, 0, none⟩) (Kd.R_types HO273.out BK279.out (by decide)) (fun _ hk => hk.2) (.int .i64 t275)) (fun _ hk => hk.2) (.slice Ao25 t276.length co25)) (fun _ hk => trivial)⟩, ⟨by (with_reducible repeat (first | apply Kd.R_alloc | apply Kd.R_drewN | apply Kd.R_drew)); exact Kd.R_mono (Kd.R_far (p := ⟨gb279, 1, none⟩) (Kd.R_far (p := ⟨gb279, 0, none⟩) (Kd.R_types HO278.out BK279.out (by decide)) (fun _ hk => hk.2) (.int .i64 t275)) (fun _ hk => hk.2) (.slice Ao25 t276.length co25)) (fun _ hk => trivial)⟩, ⟨by (with_reducible repeat (first | refine blk_drewN ?_ _ | refine blk_drew ?_ | refine blk_alloc ?_ _)); refine blk_far ?_ NB266_279.out _; (with_reducible repeat (first | refine blk_drewN ?_ _ | refine blk_drew ?_ | refine blk_alloc ?_ _)); refine blk_far ?_ NB266_279.out _; (with_reducible repeat (first | refine blk_drewN ?_ _ | refine blk_drew ?_ | refine blk_alloc ?_ _)); exact BK266.out⟩, ⟨by (with_reducible repeat (first | refine blk_drewN ?_ _ | refine blk_drew ?_ | refine blk_alloc ?_ _)); refine blk_far ?_ NB267_279.out _; (with_reducible repeat (first | refine blk_drewN ?_ _ | refine blk_drew ?_ | refine blk_alloc ?_ _)); refine blk_far ?_ NB267_279.out _; (with_reducible repeat (first | refine blk_drewN ?_ _ | refine blk_drew ?_ | refine blk_alloc ?_ _)); exact BK267.out⟩, ⟨by (with_reducible repeat (first | refine blk_drewN ?_ _ | refine blk_drew ?_ | refine blk_alloc ?_ _)); refine blk_far ?_ NB274_279.out _; (with_reducible repeat (first | refine blk_drewN ?_ _ | refine blk_drew ?_ | refine blk_alloc ?_ _)); refine blk_far ?_ NB274_279.out _; (with_reducible repeat (first | refine blk_drewN ?_ _ | refine blk_drew ?_ | refine blk_alloc ?_ _)); exact BK274.out⟩, ⟨by (with_reducible repeat (first | refine blk_drewN ?_ _ | refine blk_drew ?_ | refine blk_alloc ?_ _)); refine blk_put (cs := #[.int .i64 t275, .slice none 0 0]) ?_ 1 _ rfl; (with_reducible repeat (first | refine blk_drewN ?_ _ | refine blk_drew ?_ | refine blk_alloc ?_ _)); refine blk_put (cs := #[.int .i64 0, .slice none 0 0]) ?_ 0 _ rfl; (with_reducible repeat (first | refine blk_drewN ?_ _ | refine blk_drew ?_ | refine blk_alloc ?_ _)); exact BK279.out⟩, ⟨uB4 HB GE266 GE267 GE274 GE279⟩⟩
   rw [if_neg c26] at H
   have c26b0 : decide (20 < (l0.length : Int)) = false := decide_eq_false c26
   have c26b1 : decide (20 < l0.length) = false := decide_eq_false (by omega)
   clear c26
   (first | rw [c26b0] | (simp only [i64_w, i32_w]; rw [c26b0]) | skip)
   by_cases c27 : (l1_1.length : Int) > 40
   ·rw [if_pos c27] at H
    have c27b0 : decide (40 < (l1_1.length : Int)) = true := decide_eq_true c27
    have c27b1 : decide (40 < l1_1.length) = true := decide_eq_true (by omega)
    clear c27
    have H' := Aside0.mk H
    clear H
    have hnb28 := NB266_267.out
    have hnc28 := NB267_266.out
    have hnb29 := NB266_274.out
    have hnc29 := NB274_266.out
    have hnb30 := NB266_279.out
    have hnc30 := NB279_266.out
    have hcz31_0 : w20.cell? ⟨gb266, 0, none⟩ = some (.int .i64 a1_0) := uF BK266 0
    have hcz31_1 : w20.cell? ⟨gb266, 1, none⟩ = some (.slice A1_1 l1_1.length c1_1) := uF BK266 1
    have hfz31_0 := blk_frozen BK266.out 0
    have hfz31_1 := blk_frozen BK266.out 1
    go_wp2
    go_meet
    case rel => exact ⟨_, (true), (by first | rfl | (simp; done) | (simp [*]; done)), H', ⟨by first | omega | exact Nat.le_refl _⟩, ⟨by (with_reducible repeat (first | apply Kd.R_alloc | apply Kd.R_drewN | apply Kd.R_drew)); exact Kd.R_mono (Kd.R_far (p := ⟨gb279, 1, none⟩) (Kd.R_far (p := ⟨gb279, 0, none⟩) (Kd.R_types HO273.out BK279.out (by decide)) (fun _ hk => hk.2) (.int .i64 t275)) (fun _ hk => hk.2) (.slice Ao25 t276.length co25)) (fun _ hk => trivial)⟩, ⟨by (with_reducible repeat (first | apply Kd.R_alloc | apply Kd.R_drewN | apply Kd.R_drew)); exact Kd.R_mono (Kd.R_far (p := ⟨gb279, 1, none⟩) (Kd.R_far (p := ⟨gb279, 0, none⟩) (Kd.R_types HO278.out BK279.out (by decide)) (fun _ hk => hk.2) (.int .i64 t275)) (fun _ hk => hk.2) (.slice Ao25 t276.length co25)) (fun _ hk => trivial)⟩, ⟨by (with_reducible repeat (first | refine blk_drewN ?_ _ | refine blk_drew ?_ | refine blk_alloc ?_ _)); refine blk_far ?_ NB266_279.out _; (with_reducible repeat (first | refine blk_drewN ?_ _ | refine blk_drew ?_ | refine blk_alloc ?_ _)); refine blk_far ?_ NB266_279.out _; (with_reducible repeat (first | refine blk_drewN ?_ _ | refine blk_drew ?_ | refine blk_alloc ?_ _)); exact BK266.out⟩, ⟨by (with_reducible repeat (first | refine blk_drewN ?_ _ | refine blk_drew ?_ | refine blk_alloc ?_ _)); refine blk_far ?_ NB267_279.out _; (with_reducible repeat (first | refine blk_drewN ?_ _ | refine blk_drew ?_ | refine blk_alloc ?_ _)); refine blk_far ?_ NB267_279.out _; (with_reducible repeat (first | refine blk_drewN ?_ _ | refine blk_drew ?_ | refine blk_alloc ?_ _)); exact BK267.out⟩, ⟨by (with_reducible repeat (first | refine blk_drewN ?_ _ | refine blk_drew ?_ | refine blk_alloc ?_ _)); refine blk_far ?_ NB274_279.out _; (with_reducible repeat (first | refine blk_drewN ?_ _ | refine blk_drew ?_ | refine blk_alloc ?_ _)); refine blk_far ?_ NB274_279.out _; (with_reducible repeat (first | refine blk_drewN ?_ _ | refine blk_drew ?_ | refine blk_alloc ?_ _)); exact BK274.out⟩, ⟨by (with_reducible repeat (first | refine blk_drewN ?_ _ | refine blk_drew ?_ | refine blk_alloc ?_ _)); refine blk_put (cs := #[.int .i64 t275, .slice none 0 0]) ?_ 1 _ rfl; (with_reducible repeat (first | refine blk_drewN ?_ _ | refine blk_drew ?_ | refine blk_alloc ?_ _)); refine blk_put (cs := #[.int .i64 0, .slice none 0 0]) ?_ 0 _ rfl; (with_reducible repeat (first | refine blk_drewN ?_ _ | refine blk_drew ?_ | refine blk_alloc ?_ _)); exact BK279.out⟩, ⟨uB4 HB GE266 GE267 GE274 GE279⟩⟩
   rw [if_neg c27] at H
   have c27b0 : decide (40 < (l1_1.length : Int)) = false := decide_eq_false c27
   have c27b1 : decide (40 < l1_1.length) = false := decide_eq_false (by omega)
   clear c27
   replace H := Option.bind_eq_some_iff.mp H
   obtain ⟨t280, A320, H⟩ := H
   replace H : (if t280.isNone = true then (if a2_1 < 0 then (colloquylaw20_MonRises.j0 k l0 true a2_0 a2_1 a2_2 l2_3 y271 t275 t276) else (if a2_1 ≥ (l0.length : Int) then (colloquylaw20_MonRises.j0 k l0 true a2_0 a2_1 a2_2 l2_3 y271 t275 t276) else (if a2_0 < 0 then (colloquylaw20_MonRises.j0 k l0 true a2_0 a2_1 a2_2 l2_3 y271 t275 t276) else (if a2_0 > 511 then (colloquylaw20_MonRises.j0 k l0 true a2_0 a2_1 a2_2 l2_3 y271 t275 t276) else (if a2_2 < 0 then (colloquylaw20_MonRises.j0 k l0 true a2_0 a2_1 a2_2 l2_3 y271 t275 t276) else (colloquylaw20_MonRises.j0 k l0 (decide (a2_2 > 32)) a2_0 a2_1 a2_2 l2_3 y271 t275 t276)))))) else (colloquylaw20_MonRises.j0 k l0 true a2_0 a2_1 a2_2 l2_3 y271 t275 t276)) = some r := H
   have A32 := Aside0.mk A320
   clear A320
   rcases t280 with _ | q281
   ·have H1 : (if a2_1 < 0 then (colloquylaw20_MonRises.j0 k l0 true a2_0 a2_1 a2_2 l2_3 y271 t275 t276) else (if a2_1 ≥ (l0.length : Int) then (colloquylaw20_MonRises.j0 k l0 true a2_0 a2_1 a2_2 l2_3 y271 t275 t276) else (if a2_0 < 0 then (colloquylaw20_MonRises.j0 k l0 true a2_0 a2_1 a2_2 l2_3 y271 t275 t276) else (if a2_0 > 511 then (colloquylaw20_MonRises.j0 k l0 true a2_0 a2_1 a2_2 l2_3 y271 t275 t276) else (if a2_2 < 0 then (colloquylaw20_MonRises.j0 k l0 true a2_0 a2_1 a2_2 l2_3 y271 t275 t276) else (colloquylaw20_MonRises.j0 k l0 (decide (a2_2 > 32)) a2_0 a2_1 a2_2 l2_3 y271 t275 t276)))))) = some r := by rw [if_pos (show (none : Option Int).isNone = true by rfl)] at H; exact H
    clear H
    have H := H1
    clear H1
    try simp only [errW_none, errW_some]
    by_cases c33 : a2_1 < 0
    ·rw [if_pos c33] at H
     have c33b0 : decide (a2_1 < 0) = true := decide_eq_true c33
     clear c33
     have H' := Aside0.mk H
     clear H
     have hnb34 := NB266_267.out
     have hnc34 := NB267_266.out
     have hnb35 := NB266_274.out
     have hnc35 := NB274_266.out
     have hnb36 := NB266_279.out
     have hnc36 := NB279_266.out
     have hcz37_0 : w20.cell? ⟨gb266, 0, none⟩ = some (.int .i64 a1_0) := uF BK266 0
     have hcz37_1 : w20.cell? ⟨gb266, 1, none⟩ = some (.slice A1_1 l1_1.length c1_1) := uF BK266 1
     have hfz37_0 := blk_frozen BK266.out 0
     have hfz37_1 := blk_frozen BK266.out 1
     have hnb38 := NB274_267.out
     have hnc38 := NB267_274.out
     have hnb39 := NB274_279.out
     have hnc39 := NB279_274.out
     have hcz40_0 : w20.cell? ⟨gb274, 0, none⟩ = some (.slice Ao12 y271.length co12) := uF BK274 0
     have hfz40_0 := blk_frozen BK274.out 0
     have hnb41 := NB279_267.out
     have hnc41 := NB267_279.out
     have hcz42_0 : w20.cell? ⟨gb279, 0, none⟩ = some (.int .i64 0) := uF BK279 0
     have hcz42_1 : w20.cell? ⟨gb279, 1, none⟩ = some (.slice none 0 0) := uF BK279 1
     have hfz42_0 := blk_frozen BK279.out 0
     have hfz42_1 := blk_frozen BK279.out 1
     go_wp2_with (first | (go_at_call 10; (with_reducible refine (mon_Check.calls k _ _ y271 t275 _ _ t276 none _ ?side1 ?side2 ?side3 ?side4 A32.out).mono ?_); (case side1 => refine (Kd.R_reads' (e := 5) (base := w.heap.size) (ok := fun k_ => True) (n := y271.length) (c := co12) ?_).2.2; exact (by (with_reducible repeat (first | apply Kd.R_alloc | apply Kd.R_drewN | apply Kd.R_drew)); exact (Kd.R_mono (Kd.R_far (p := ⟨gb279, 1, none⟩) (Kd.R_far (p := ⟨gb279, 0, none⟩) (Kd.R_types HO273.out BK279.out (by decide)) (fun _ hk => hk.2) (.int .i64 t275)) (fun _ hk => hk.2) (.slice Ao25 t276.length co25)) (fun _ h_ => h_.1)))); (case side2 => exact (Kd.R_reads' HO273.out).2.1); (case side3 => refine (Kd.R_reads' (e := 58) (base := w.heap.size) (ok := fun k_ => True) (n := t276.length) (c := co25) ?_).2.2; exact (by (with_reducible repeat (first | apply Kd.R_alloc | apply Kd.R_drewN | apply Kd.R_drew)); exact (Kd.R_mono (Kd.R_far (p := ⟨gb279, 1, none⟩) (Kd.R_far (p := ⟨gb279, 0, none⟩) (Kd.R_types HO278.out BK279.out (by decide)) (fun _ hk => hk.2) (.int .i64 t275)) (fun _ hk => hk.2) (.slice Ao25 t276.length co25)) (fun _ h_ => h_.1)))); (case side4 => exact (Kd.R_reads' HO278.out).2.1); rintro e w43 ⟨rfl, hb⟩; replace HO273 := Aside0.mk (Kd.R_below (by (with_reducible repeat (first | apply Kd.R_alloc | apply Kd.R_drewN | apply Kd.R_drew)); exact (Kd.R_mono (Kd.R_far (p := ⟨gb279, 1, none⟩) (Kd.R_far (p := ⟨gb279, 0, none⟩) (Kd.R_types HO273.out BK279.out (by decide)) (fun _ hk => hk.2) (.int .i64 t275)) (fun _ hk => hk.2) (.slice Ao25 t276.length co25)) (fun _ h_ => h_.1))) hb); replace HO278 := Aside0.mk (Kd.R_below (by (with_reducible repeat (first | apply Kd.R_alloc | apply Kd.R_drewN | apply Kd.R_drew)); exact (Kd.R_mono (Kd.R_far (p := ⟨gb279, 1, none⟩) (Kd.R_far (p := ⟨gb279, 0, none⟩) (Kd.R_types HO278.out BK279.out (by decide)) (fun _ hk => hk.2) (.int .i64 t275)) (fun _ hk => hk.2) (.slice Ao25 t276.length co25)) (fun _ h_ => h_.1))) hb); replace BK266 := Aside0.mk (blk_below (g := gb266) (o := .cells #[.int .i64 a1_0, .slice A1_1 l1_1.length c1_1] 25 (0, 0)) (by (with_reducible repeat (first | refine blk_drewN ?_ _ | refine blk_drew ?_ | refine blk_alloc ?_ _)); refine blk_far ?_ NB266_279.out _; (with_reducible repeat (first | refine blk_drewN ?_ _ | refine blk_drew ?_ | refine blk_alloc ?_ _)); refine blk_far ?_ NB266_279.out _; (with_reducible repeat (first | refine blk_drewN ?_ _ | refine blk_drew ?_ | refine blk_alloc ?_ _)); exact BK266.out) hb); replace BK267 := Aside0.mk (blk_below (g := gb267) (o := .cells #[.int .i64 a2_0, .int .i64 a2_1, .int .i64 a2_2, .slice A2_3 l2_3.length c2_3] 28 (0, 0)) (by (with_reducible repeat (first | refine blk_drewN ?_ _ | refine blk_drew ?_ | refine blk_alloc ?_ _)); refine blk_far ?_ NB267_279.out _; (with_reducible repeat (first | refine blk_drewN ?_ _ | refine blk_drew ?_ | refine blk_alloc ?_ _)); refine blk_far ?_ NB267_279.out _; (with_reducible repeat (first | refine blk_drewN ?_ _ | refine blk_drew ?_ | refine blk_alloc ?_ _)); exact BK267.out) hb); replace BK274 := Aside0.mk (blk_below (g := gb274) (o := .cells #[.slice Ao12 y271.length co12] 31 (0, 0)) (by (with_reducible repeat (first | refine blk_drewN ?_ _ | refine blk_drew ?_ | refine blk_alloc ?_ _)); refine blk_far ?_ NB274_279.out _; (with_reducible repeat (first | refine blk_drewN ?_ _ | refine blk_drew ?_ | refine blk_alloc ?_ _)); refine blk_far ?_ NB274_279.out _; (with_reducible repeat (first | refine blk_drewN ?_ _ | refine blk_drew ?_ | refine blk_alloc ?_ _)); exact BK274.out) hb); replace BK279 := Aside0.mk (blk_below (g := gb279) (o := .cells #[.int .i64 t275, .slice Ao25 t276.length co25] 34 (0, 0)) (by (with_reducible repeat (first | refine blk_drewN ?_ _ | refine blk_drew ?_ | refine blk_alloc ?_ _)); refine blk_put (cs := #[.int .i64 t275, .slice none 0 0]) ?_ 1 _ rfl; (with_reducible repeat (first | refine blk_drewN ?_ _ | refine blk_drew ?_ | refine blk_alloc ?_ _)); refine blk_put (cs := #[.int .i64 0, .slice none 0 0]) ?_ 0 _ rfl; (with_reducible repeat (first | refine blk_drewN ?_ _ | refine blk_drew ?_ | refine blk_alloc ?_ _)); exact BK279.out) hb); replace HB := Aside0.mk (below_step (uB4 HB GE266 GE267 GE274 GE279) hb); (try clear hb); (try clear hb2); (try clear hk); (try clear hi); (try simp only [errW_none, errW_some]); have hcz44_0 : w43.cell? ⟨gb267, 0, none⟩ = some (.int .i64 a2_0) := uF BK267 0; have hcz44_1 : w43.cell? ⟨gb267, 1, none⟩ = some (.int .i64 a2_1) := uF BK267 1; have hcz44_2 : w43.cell? ⟨gb267, 2, none⟩ = some (.int .i64 a2_2) := uF BK267 2; have hcz44_3 : w43.cell? ⟨gb267, 3, none⟩ = some (.slice A2_3 l2_3.length c2_3) := uF BK267 3; have hfz44_0 := blk_frozen BK267.out 0; have hfz44_1 := blk_frozen BK267.out 1; have hfz44_2 := blk_frozen BK267.out 2; have hfz44_3 := blk_frozen BK267.out 3))
     go_meet
     case rel => exact ⟨_, (true), (by first | rfl | (simp; done) | (simp [*]; done)), H', ⟨by first | omega | exact Nat.le_refl _⟩, ⟨uR HO273⟩, ⟨uR HO278⟩, ⟨uK BK266⟩, ⟨uK BK267⟩, ⟨uK BK274⟩, ⟨uK BK279⟩, ⟨uB4 HB GE266 GE267 GE274 GE279⟩⟩
    rw [if_neg c33] at H
    have c33b0 : decide (a2_1 < 0) = false := decide_eq_false c33
    clear c33
    by_cases c45 : a2_1 ≥ (l0.length : Int)
    ·rw [if_pos c45] at H
     have c45b0 : decide ((l0.length : Int) ≤ a2_1) = true := decide_eq_true c45
     clear c45
     have H' := Aside0.mk H
     clear H
     have hnb46 := NB266_267.out
     have hnc46 := NB267_266.out
     have hnb47 := NB266_274.out
     have hnc47 := NB274_266.out
     have hnb48 := NB266_279.out
     have hnc48 := NB279_266.out
     have hcz49_0 : w20.cell? ⟨gb266, 0, none⟩ = some (.int .i64 a1_0) := uF BK266 0
     have hcz49_1 : w20.cell? ⟨gb266, 1, none⟩ = some (.slice A1_1 l1_1.length c1_1) := uF BK266 1
     have hfz49_0 := blk_frozen BK266.out 0
     have hfz49_1 := blk_frozen BK266.out 1
     have hnb50 := NB274_267.out
     have hnc50 := NB267_274.out
     have hnb51 := NB274_279.out
     have hnc51 := NB279_274.out
     have hcz52_0 : w20.cell? ⟨gb274, 0, none⟩ = some (.slice Ao12 y271.length co12) := uF BK274 0
     have hfz52_0 := blk_frozen BK274.out 0
     have hnb53 := NB279_267.out
     have hnc53 := NB267_279.out
     have hcz54_0 : w20.cell? ⟨gb279, 0, none⟩ = some (.int .i64 0) := uF BK279 0
     have hcz54_1 : w20.cell? ⟨gb279, 1, none⟩ = some (.slice none 0 0) := uF BK279 1
     have hfz54_0 := blk_frozen BK279.out 0
     have hfz54_1 := blk_frozen BK279.out 1
     go_wp2_with (first | (go_at_call 10; (with_reducible refine (mon_Check.calls k _ _ y271 t275 _ _ t276 none _ ?side1 ?side2 ?side3 ?side4 A32.out).mono ?_); (case side1 => refine (Kd.R_reads' (e := 5) (base := w.heap.size) (ok := fun k_ => True) (n := y271.length) (c := co12) ?_).2.2; exact (by (with_reducible repeat (first | apply Kd.R_alloc | apply Kd.R_drewN | apply Kd.R_drew)); exact (Kd.R_mono (Kd.R_far (p := ⟨gb279, 1, none⟩) (Kd.R_far (p := ⟨gb279, 0, none⟩) (Kd.R_types HO273.out BK279.out (by decide)) (fun _ hk => hk.2) (.int .i64 t275)) (fun _ hk => hk.2) (.slice Ao25 t276.length co25)) (fun _ h_ => h_.1)))); (case side2 => exact (Kd.R_reads' HO273.out).2.1); (case side3 => refine (Kd.R_reads' (e := 58) (base := w.heap.size) (ok := fun k_ => True) (n := t276.length) (c := co25) ?_).2.2; exact (by (with_reducible repeat (first | apply Kd.R_alloc | apply Kd.R_drewN | apply Kd.R_drew)); exact (Kd.R_mono (Kd.R_far (p := ⟨gb279, 1, none⟩) (Kd.R_far (p := ⟨gb279, 0, none⟩) (Kd.R_types HO278.out BK279.out (by decide)) (fun _ hk => hk.2) (.int .i64 t275)) (fun _ hk => hk.2) (.slice Ao25 t276.length co25)) (fun _ h_ => h_.1)))); (case side4 => exact (Kd.R_reads' HO278.out).2.1); rintro e w55 ⟨rfl, hb⟩; replace HO273 := Aside0.mk (Kd.R_below (by (with_reducible repeat (first | apply Kd.R_alloc | apply Kd.R_drewN | apply Kd.R_drew)); exact (Kd.R_mono (Kd.R_far (p := ⟨gb279, 1, none⟩) (Kd.R_far (p := ⟨gb279, 0, none⟩) (Kd.R_types HO273.out BK279.out (by decide)) (fun _ hk => hk.2) (.int .i64 t275)) (fun _ hk => hk.2) (.slice Ao25 t276.length co25)) (fun _ h_ => h_.1))) hb); replace HO278 := Aside0.mk (Kd.R_below (by (with_reducible repeat (first | apply Kd.R_alloc | apply Kd.R_drewN | apply Kd.R_drew)); exact (Kd.R_mono (Kd.R_far (p := ⟨gb279, 1, none⟩) (Kd.R_far (p := ⟨gb279, 0, none⟩) (Kd.R_types HO278.out BK279.out (by decide)) (fun _ hk => hk.2) (.int .i64 t275)) (fun _ hk => hk.2) (.slice Ao25 t276.length co25)) (fun _ h_ => h_.1))) hb); replace BK266 := Aside0.mk (blk_below (g := gb266) (o := .cells #[.int .i64 a1_0, .slice A1_1 l1_1.length c1_1] 25 (0, 0)) (by (with_reducible repeat (first | refine blk_drewN ?_ _ | refine blk_drew ?_ | refine blk_alloc ?_ _)); refine blk_far ?_ NB266_279.out _; (with_reducible repeat (first | refine blk_drewN ?_ _ | refine blk_drew ?_ | refine blk_alloc ?_ _)); refine blk_far ?_ NB266_279.out _; (with_reducible repeat (first | refine blk_drewN ?_ _ | refine blk_drew ?_ | refine blk_alloc ?_ _)); exact BK266.out) hb); replace BK267 := Aside0.mk (blk_below (g := gb267) (o := .cells #[.int .i64 a2_0, .int .i64 a2_1, .int .i64 a2_2, .slice A2_3 l2_3.length c2_3] 28 (0, 0)) (by (with_reducible repeat (first | refine blk_drewN ?_ _ | refine blk_drew ?_ | refine blk_alloc ?_ _)); refine blk_far ?_ NB267_279.out _; (with_reducible repeat (first | refine blk_drewN ?_ _ | refine blk_drew ?_ | refine blk_alloc ?_ _)); refine blk_far ?_ NB267_279.out _; (with_reducible repeat (first | refine blk_drewN ?_ _ | refine blk_drew ?_ | refine blk_alloc ?_ _)); exact BK267.out) hb); replace BK274 := Aside0.mk (blk_below (g := gb274) (o := .cells #[.slice Ao12 y271.length co12] 31 (0, 0)) (by (with_reducible repeat (first | refine blk_drewN ?_ _ | refine blk_drew ?_ | refine blk_alloc ?_ _)); refine blk_far ?_ NB274_279.out _; (with_reducible repeat (first | refine blk_drewN ?_ _ | refine blk_drew ?_ | refine blk_alloc ?_ _)); refine blk_far ?_ NB274_279.out _; (with_reducible repeat (first | refine blk_drewN ?_ _ | refine blk_drew ?_ | refine blk_alloc ?_ _)); exact BK274.out) hb); replace BK279 := Aside0.mk (blk_below (g := gb279) (o := .cells #[.int .i64 t275, .slice Ao25 t276.length co25] 34 (0, 0)) (by (with_reducible repeat (first | refine blk_drewN ?_ _ | refine blk_drew ?_ | refine blk_alloc ?_ _)); refine blk_put (cs := #[.int .i64 t275, .slice none 0 0]) ?_ 1 _ rfl; (with_reducible repeat (first | refine blk_drewN ?_ _ | refine blk_drew ?_ | refine blk_alloc ?_ _)); refine blk_put (cs := #[.int .i64 0, .slice none 0 0]) ?_ 0 _ rfl; (with_reducible repeat (first | refine blk_drewN ?_ _ | refine blk_drew ?_ | refine blk_alloc ?_ _)); exact BK279.out) hb); replace HB := Aside0.mk (below_step (uB4 HB GE266 GE267 GE274 GE279) hb); (try clear hb); (try clear hb2); (try clear hk); (try clear hi); (try simp only [errW_none, errW_some]); have hcz56_0 : w55.cell? ⟨gb267, 0, none⟩ = some (.int .i64 a2_0) := uF BK267 0; have hcz56_1 : w55.cell? ⟨gb267, 1, none⟩ = some (.int .i64 a2_1) := uF BK267 1; have hcz56_2 : w55.cell? ⟨gb267, 2, none⟩ = some (.int .i64 a2_2) := uF BK267 2; have hcz56_3 : w55.cell? ⟨gb267, 3, none⟩ = some (.slice A2_3 l2_3.length c2_3) := uF BK267 3; have hfz56_0 := blk_frozen BK267.out 0; have hfz56_1 := blk_frozen BK267.out 1; have hfz56_2 := blk_frozen BK267.out 2; have hfz56_3 := blk_frozen BK267.out 3))
     go_meet
     case rel => exact ⟨_, (true), (by first | rfl | (simp; done) | (simp [*]; done)), H', ⟨by first | omega | exact Nat.le_refl _⟩, ⟨uR HO273⟩, ⟨uR HO278⟩, ⟨uK BK266⟩, ⟨uK BK267⟩, ⟨uK BK274⟩, ⟨uK BK279⟩, ⟨uB4 HB GE266 GE267 GE274 GE279⟩⟩
    rw [if_neg c45] at H
    have c45b0 : decide ((l0.length : Int) ≤ a2_1) = false := decide_eq_false c45
    clear c45
    by_cases c57 : a2_0 < 0
    ·rw [if_pos c57] at H
     have c57b0 : decide (a2_0 < 0) = true := decide_eq_true c57
     clear c57
     have H' := Aside0.mk H
     clear H
     have hnb58 := NB266_267.out
     have hnc58 := NB267_266.out
     have hnb59 := NB266_274.out
     have hnc59 := NB274_266.out
     have hnb60 := NB266_279.out
     have hnc60 := NB279_266.out
     have hcz61_0 : w20.cell? ⟨gb266, 0, none⟩ = some (.int .i64 a1_0) := uF BK266 0
     have hcz61_1 : w20.cell? ⟨gb266, 1, none⟩ = some (.slice A1_1 l1_1.length c1_1) := uF BK266 1
     have hfz61_0 := blk_frozen BK266.out 0
     have hfz61_1 := blk_frozen BK266.out 1
     have hnb62 := NB274_267.out
     have hnc62 := NB267_274.out
     have hnb63 := NB274_279.out
     have hnc63 := NB279_274.out
     have hcz64_0 : w20.cell? ⟨gb274, 0, none⟩ = some (.slice Ao12 y271.length co12) := uF BK274 0
     have hfz64_0 := blk_frozen BK274.out 0
     have hnb65 := NB279_267.out
     have hnc65 := NB267_279.out
     have hcz66_0 : w20.cell? ⟨gb279, 0, none⟩ = some (.int .i64 0) := uF BK279 0
     have hcz66_1 : w20.cell? ⟨gb279, 1, none⟩ = some (.slice none 0 0) := uF BK279 1
     have hfz66_0 := blk_frozen BK279.out 0
     have hfz66_1 := blk_frozen BK279.out 1
     go_wp2_with (first | (go_at_call 10; (with_reducible refine (mon_Check.calls k _ _ y271 t275 _ _ t276 none _ ?side1 ?side2 ?side3 ?side4 A32.out).mono ?_); (case side1 => refine (Kd.R_reads' (e := 5) (base := w.heap.size) (ok := fun k_ => True) (n := y271.length) (c := co12) ?_).2.2; exact (by (with_reducible repeat (first | apply Kd.R_alloc | apply Kd.R_drewN | apply Kd.R_drew)); exact (Kd.R_mono (Kd.R_far (p := ⟨gb279, 1, none⟩) (Kd.R_far (p := ⟨gb279, 0, none⟩) (Kd.R_types HO273.out BK279.out (by decide)) (fun _ hk => hk.2) (.int .i64 t275)) (fun _ hk => hk.2) (.slice Ao25 t276.length co25)) (fun _ h_ => h_.1)))); (case side2 => exact (Kd.R_reads' HO273.out).2.1); (case side3 => refine (Kd.R_reads' (e := 58) (base := w.heap.size) (ok := fun k_ => True) (n := t276.length) (c := co25) ?_).2.2; exact (by (with_reducible repeat (first | apply Kd.R_alloc | apply Kd.R_drewN | apply Kd.R_drew)); exact (Kd.R_mono (Kd.R_far (p := ⟨gb279, 1, none⟩) (Kd.R_far (p := ⟨gb279, 0, none⟩) (Kd.R_types HO278.out BK279.out (by decide)) (fun _ hk => hk.2) (.int .i64 t275)) (fun _ hk => hk.2) (.slice Ao25 t276.length co25)) (fun _ h_ => h_.1)))); (case side4 => exact (Kd.R_reads' HO278.out).2.1); rintro e w67 ⟨rfl, hb⟩; replace HO273 := Aside0.mk (Kd.R_below (by (with_reducible repeat (first | apply Kd.R_alloc | apply Kd.R_drewN | apply Kd.R_drew)); exact (Kd.R_mono (Kd.R_far (p := ⟨gb279, 1, none⟩) (Kd.R_far (p := ⟨gb279, 0, none⟩) (Kd.R_types HO273.out BK279.out (by decide)) (fun _ hk => hk.2) (.int .i64 t275)) (fun _ hk => hk.2) (.slice Ao25 t276.length co25)) (fun _ h_ => h_.1))) hb); replace HO278 := Aside0.mk (Kd.R_below (by (with_reducible repeat (first | apply Kd.R_alloc | apply Kd.R_drewN | apply Kd.R_drew)); exact (Kd.R_mono (Kd.R_far (p := ⟨gb279, 1, none⟩) (Kd.R_far (p := ⟨gb279, 0, none⟩) (Kd.R_types HO278.out BK279.out (by decide)) (fun _ hk => hk.2) (.int .i64 t275)) (fun _ hk => hk.2) (.slice Ao25 t276.length co25)) (fun _ h_ => h_.1))) hb); replace BK266 := Aside0.mk (blk_below (g := gb266) (o := .cells #[.int .i64 a1_0, .slice A1_1 l1_1.length c1_1] 25 (0, 0)) (by (with_reducible repeat (first | refine blk_drewN ?_ _ | refine blk_drew ?_ | refine blk_alloc ?_ _)); refine blk_far ?_ NB266_279.out _; (with_reducible repeat (first | refine blk_drewN ?_ _ | refine blk_drew ?_ | refine blk_alloc ?_ _)); refine blk_far ?_ NB266_279.out _; (with_reducible repeat (first | refine blk_drewN ?_ _ | refine blk_drew ?_ | refine blk_alloc ?_ _)); exact BK266.out) hb); replace BK267 := Aside0.mk (blk_below (g := gb267) (o := .cells #[.int .i64 a2_0, .int .i64 a2_1, .int .i64 a2_2, .slice A2_3 l2_3.length c2_3] 28 (0, 0)) (by (with_reducible repeat (first | refine blk_drewN ?_ _ | refine blk_drew ?_ | refine blk_alloc ?_ _)); refine blk_far ?_ NB267_279.out _; (with_reducible repeat (first | refine blk_drewN ?_ _ | refine blk_drew ?_ | refine blk_alloc ?_ _)); refine blk_far ?_ NB267_279.out _; (with_reducible repeat (first | refine blk_drewN ?_ _ | refine blk_drew ?_ | refine blk_alloc ?_ _)); exact BK267.out) hb); replace BK274 := Aside0.mk (blk_below (g := gb274) (o := .cells #[.slice Ao12 y271.length co12] 31 (0, 0)) (by (with_reducible repeat (first | refine blk_drewN ?_ _ | refine blk_drew ?_ | refine blk_alloc ?_ _)); refine blk_far ?_ NB274_279.out _; (with_reducible repeat (first | refine blk_drewN ?_ _ | refine blk_drew ?_ | refine blk_alloc ?_ _)); refine blk_far ?_ NB274_279.out _; (with_reducible repeat (first | refine blk_drewN ?_ _ | refine blk_drew ?_ | refine blk_alloc ?_ _)); exact BK274.out) hb); replace BK279 := Aside0.mk (blk_below (g := gb279) (o := .cells #[.int .i64 t275, .slice Ao25 t276.length co25] 34 (0, 0)) (by (with_reducible repeat (first | refine blk_drewN ?_ _ | refine blk_drew ?_ | refine blk_alloc ?_ _)); refine blk_put (cs := #[.int .i64 t275, .slice none 0 0]) ?_ 1 _ rfl; (with_reducible repeat (first | refine blk_drewN ?_ _ | refine blk_drew ?_ | refine blk_alloc ?_ _)); refine blk_put (cs := #[.int .i64 0, .slice none 0 0]) ?_ 0 _ rfl; (with_reducible repeat (first | refine blk_drewN ?_ _ | refine blk_drew ?_ | refine blk_alloc ?_ _)); exact BK279.out) hb); replace HB := Aside0.mk (below_step (uB4 HB GE266 GE267 GE274 GE279) hb); (try clear hb); (try clear hb2); (try clear hk); (try clear hi); (try simp only [errW_none, errW_some]); have hcz68_0 : w67.cell? ⟨gb267, 0, none⟩ = some (.int .i64 a2_0) := uF BK267 0; have hcz68_1 : w67.cell? ⟨gb267, 1, none⟩ = some (.int .i64 a2_1) := uF BK267 1; have hcz68_2 : w67.cell? ⟨gb267, 2, none⟩ = some (.int .i64 a2_2) := uF BK267 2; have hcz68_3 : w67.cell? ⟨gb267, 3, none⟩ = some (.slice A2_3 l2_3.length c2_3) := uF BK267 3; have hfz68_0 := blk_frozen BK267.out 0; have hfz68_1 := blk_frozen BK267.out 1; have hfz68_2 := blk_frozen BK267.out 2; have hfz68_3 := blk_frozen BK267.out 3))
     go_meet
     case rel => exact ⟨_, (true), (by first | rfl | (simp; done) | (simp [*]; done)), H', ⟨by first | omega | exact Nat.le_refl _⟩, ⟨uR HO273⟩, ⟨uR HO278⟩, ⟨uK BK266⟩, ⟨uK BK267⟩, ⟨uK BK274⟩, ⟨uK BK279⟩, ⟨uB4 HB GE266 GE267 GE274 GE279⟩⟩
    rw [if_neg c57] at H
    have c57b0 : decide (a2_0 < 0) = false := decide_eq_false c57
    clear c57
    by_cases c69 : a2_0 > 511
    ·rw [if_pos c69] at H
     have c69b0 : decide (511 < a2_0) = true := decide_eq_true c69
     clear c69
     have H' := Aside0.mk H
     clear H
     have hnb70 := NB266_267.out
     have hnc70 := NB267_266.out
     have hnb71 := NB266_274.out
     have hnc71 := NB274_266.out
     have hnb72 := NB266_279.out
     have hnc72 := NB279_266.out
     have hcz73_0 : w20.cell? ⟨gb266, 0, none⟩ = some (.int .i64 a1_0) := uF BK266 0
     have hcz73_1 : w20.cell? ⟨gb266, 1, none⟩ = some (.slice A1_1 l1_1.length c1_1) := uF BK266 1
     have hfz73_0 := blk_frozen BK266.out 0
     have hfz73_1 := blk_frozen BK266.out 1
     have hnb74 := NB274_267.out
     have hnc74 := NB267_274.out
     have hnb75 := NB274_279.out
     have hnc75 := NB279_274.out
     have hcz76_0 : w20.cell? ⟨gb274, 0, none⟩ = some (.slice Ao12 y271.length co12) := uF BK274 0
     have hfz76_0 := blk_frozen BK274.out 0
     have hnb77 := NB279_267.out
     have hnc77 := NB267_279.out
     have hcz78_0 : w20.cell? ⟨gb279, 0, none⟩ = some (.int .i64 0) := uF BK279 0
     have hcz78_1 : w20.cell? ⟨gb279, 1, none⟩ = some (.slice none 0 0) := uF BK279 1
     have hfz78_0 := blk_frozen BK279.out 0
     have hfz78_1 := blk_frozen BK279.out 1
     go_wp2_with (first | (go_at_call 10; (with_reducible refine (mon_Check.calls k _ _ y271 t275 _ _ t276 none _ ?side1 ?side2 ?side3 ?side4 A32.out).mono ?_); (case side1 => refine (Kd.R_reads' (e := 5) (base := w.heap.size) (ok := fun k_ => True) (n := y271.length) (c := co12) ?_).2.2; exact (by (with_reducible repeat (first | apply Kd.R_alloc | apply Kd.R_drewN | apply Kd.R_drew)); exact (Kd.R_mono (Kd.R_far (p := ⟨gb279, 1, none⟩) (Kd.R_far (p := ⟨gb279, 0, none⟩) (Kd.R_types HO273.out BK279.out (by decide)) (fun _ hk => hk.2) (.int .i64 t275)) (fun _ hk => hk.2) (.slice Ao25 t276.length co25)) (fun _ h_ => h_.1)))); (case side2 => exact (Kd.R_reads' HO273.out).2.1); (case side3 => refine (Kd.R_reads' (e := 58) (base := w.heap.size) (ok := fun k_ => True) (n := t276.length) (c := co25) ?_).2.2; exact (by (with_reducible repeat (first | apply Kd.R_alloc | apply Kd.R_drewN | apply Kd.R_drew)); exact (Kd.R_mono (Kd.R_far (p := ⟨gb279, 1, none⟩) (Kd.R_far (p := ⟨gb279, 0, none⟩) (Kd.R_types HO278.out BK279.out (by decide)) (fun _ hk => hk.2) (.int .i64 t275)) (fun _ hk => hk.2) (.slice Ao25 t276.length co25)) (fun _ h_ => h_.1)))); (case side4 => exact (Kd.R_reads' HO278.out).2.1); rintro e w79 ⟨rfl, hb⟩; replace HO273 := Aside0.mk (Kd.R_below (by (with_reducible repeat (first | apply Kd.R_alloc | apply Kd.R_drewN | apply Kd.R_drew)); exact (Kd.R_mono (Kd.R_far (p := ⟨gb279, 1, none⟩) (Kd.R_far (p := ⟨gb279, 0, none⟩) (Kd.R_types HO273.out BK279.out (by decide)) (fun _ hk => hk.2) (.int .i64 t275)) (fun _ hk => hk.2) (.slice Ao25 t276.length co25)) (fun _ h_ => h_.1))) hb); replace HO278 := Aside0.mk (Kd.R_below (by (with_reducible repeat (first | apply Kd.R_alloc | apply Kd.R_drewN | apply Kd.R_drew)); exact (Kd.R_mono (Kd.R_far (p := ⟨gb279, 1, none⟩) (Kd.R_far (p := ⟨gb279, 0, none⟩) (Kd.R_types HO278.out BK279.out (by decide)) (fun _ hk => hk.2) (.int .i64 t275)) (fun _ hk => hk.2) (.slice Ao25 t276.length co25)) (fun _ h_ => h_.1))) hb); replace BK266 := Aside0.mk (blk_below (g := gb266) (o := .cells #[.int .i64 a1_0, .slice A1_1 l1_1.length c1_1] 25 (0, 0)) (by (with_reducible repeat (first | refine blk_drewN ?_ _ | refine blk_drew ?_ | refine blk_alloc ?_ _)); refine blk_far ?_ NB266_279.out _; (with_reducible repeat (first | refine blk_drewN ?_ _ | refine blk_drew ?_ | refine blk_alloc ?_ _)); refine blk_far ?_ NB266_279.out _; (with_reducible repeat (first | refine blk_drewN ?_ _ | refine blk_drew ?_ | refine blk_alloc ?_ _)); exact BK266.out) hb); replace BK267 := Aside0.mk (blk_below (g := gb267) (o := .cells #[.int .i64 a2_0, .int .i64 a2_1, .int .i64 a2_2, .slice A2_3 l2_3.length c2_3] 28 (0, 0)) (by (with_reducible repeat (first | refine blk_drewN ?_ _ | refine blk_drew ?_ | refine blk_alloc ?_ _)); refine blk_far ?_ NB267_279.out _; (with_reducible repeat (first | refine blk_drewN ?_ _ | refine blk_drew ?_ | refine blk_alloc ?_ _)); refine blk_far ?_ NB267_279.out _; (with_reducible repeat (first | refine blk_drewN ?_ _ | refine blk_drew ?_ | refine blk_alloc ?_ _)); exact BK267.out) hb); replace BK274 := Aside0.mk (blk_below (g := gb274) (o := .cells #[.slice Ao12 y271.length co12] 31 (0, 0)) (by (with_reducible repeat (first | refine blk_drewN ?_ _ | refine blk_drew ?_ | refine blk_alloc ?_ _)); refine blk_far ?_ NB274_279.out _; (with_reducible repeat (first | refine blk_drewN ?_ _ | refine blk_drew ?_ | refine blk_alloc ?_ _)); refine blk_far ?_ NB274_279.out _; (with_reducible repeat (first | refine blk_drewN ?_ _ | refine blk_drew ?_ | refine blk_alloc ?_ _)); exact BK274.out) hb); replace BK279 := Aside0.mk (blk_below (g := gb279) (o := .cells #[.int .i64 t275, .slice Ao25 t276.length co25] 34 (0, 0)) (by (with_reducible repeat (first | refine blk_drewN ?_ _ | refine blk_drew ?_ | refine blk_alloc ?_ _)); refine blk_put (cs := #[.int .i64 t275, .slice none 0 0]) ?_ 1 _ rfl; (with_reducible repeat (first | refine blk_drewN ?_ _ | refine blk_drew ?_ | refine blk_alloc ?_ _)); refine blk_put (cs := #[.int .i64 0, .slice none 0 0]) ?_ 0 _ rfl; (with_reducible repeat (first | refine blk_drewN ?_ _ | refine blk_drew ?_ | refine blk_alloc ?_ _)); exact BK279.out) hb); replace HB := Aside0.mk (below_step (uB4 HB GE266 GE267 GE274 GE279) hb); (try clear hb); (try clear hb2); (try clear hk); (try clear hi); (try simp only [errW_none, errW_some]); have hcz80_0 : w79.cell? ⟨gb267, 0, none⟩ = some (.int .i64 a2_0) := uF BK267 0; have hcz80_1 : w79.cell? ⟨gb267, 1, none⟩ = some (.int .i64 a2_1) := uF BK267 1; have hcz80_2 : w79.cell? ⟨gb267, 2, none⟩ = some (.int .i64 a2_2) := uF BK267 2; have hcz80_3 : w79.cell? ⟨gb267, 3, none⟩ = some (.slice A2_3 l2_3.length c2_3) := uF BK267 3; have hfz80_0 := blk_frozen BK267.out 0; have hfz80_1 := blk_frozen BK267.out 1; have hfz80_2 := blk_frozen BK267.out 2; have hfz80_3 := blk_frozen BK267.out 3))
     go_meet
     case rel => exact ⟨_, (true), (by first | rfl | (simp; done) | (simp [*]; done)), H', ⟨by first | omega | exact Nat.le_refl _⟩, ⟨uR HO273⟩, ⟨uR HO278⟩, ⟨uK BK266⟩, ⟨uK BK267⟩, ⟨uK BK274⟩, ⟨uK BK279⟩, ⟨uB4 HB GE266 GE267 GE274 GE279⟩⟩
    rw [if_neg c69] at H
    have c69b0 : decide (511 < a2_0) = false := decide_eq_false c69
    clear c69
    by_cases c81 : a2_2 < 0
    ·rw [if_pos c81] at H
     have c81b0 : decide (a2_2 < 0) = true := decide_eq_true c81
     clear c81
     have H' := Aside0.mk H
     clear H
     have hnb82 := NB266_267.out
     have hnc82 := NB267_266.out
     have hnb83 := NB266_274.out
     have hnc83 := NB274_266.out
     have hnb84 := NB266_279.out
     have hnc84 := NB279_266.out
     have hcz85_0 : w20.cell? ⟨gb266, 0, none⟩ = some (.int .i64 a1_0) := uF BK266 0
     have hcz85_1 : w20.cell? ⟨gb266, 1, none⟩ = some (.slice A1_1 l1_1.length c1_1) := uF BK266 1
     have hfz85_0 := blk_frozen BK266.out 0
     have hfz85_1 := blk_frozen BK266.out 1
     have hnb86 := NB274_267.out
     have hnc86 := NB267_274.out
     have hnb87 := NB274_279.out
     have hnc87 := NB279_274.out
     have hcz88_0 : w20.cell? ⟨gb274, 0, none⟩ = some (.slice Ao12 y271.length co12) := uF BK274 0
     have hfz88_0 := blk_frozen BK274.out 0
     have hnb89 := NB279_267.out
     have hnc89 := NB267_279.out
     have hcz90_0 : w20.cell? ⟨gb279, 0, none⟩ = some (.int .i64 0) := uF BK279 0
     have hcz90_1 : w20.cell? ⟨gb279, 1, none⟩ = some (.slice none 0 0) := uF BK279 1
     have hfz90_0 := blk_frozen BK279.out 0
     have hfz90_1 := blk_frozen BK279.out 1
     go_wp2_with (first | (go_at_call 10; (with_reducible refine (mon_Check.calls k _ _ y271 t275 _ _ t276 none _ ?side1 ?side2 ?side3 ?side4 A32.out).mono ?_); (case side1 => refine (Kd.R_reads' (e := 5) (base := w.heap.size) (ok := fun k_ => True) (n := y271.length) (c := co12) ?_).2.2; exact (by (with_reducible repeat (first | apply Kd.R_alloc | apply Kd.R_drewN | apply Kd.R_drew)); exact (Kd.R_mono (Kd.R_far (p := ⟨gb279, 1, none⟩) (Kd.R_far (p := ⟨gb279, 0, none⟩) (Kd.R_types HO273.out BK279.out (by decide)) (fun _ hk => hk.2) (.int .i64 t275)) (fun _ hk => hk.2) (.slice Ao25 t276.length co25)) (fun _ h_ => h_.1)))); (case side2 => exact (Kd.R_reads' HO273.out).2.1); (case side3 => refine (Kd.R_reads' (e := 58) (base := w.heap.size) (ok := fun k_ => True) (n := t276.length) (c := co25) ?_).2.2; exact (by (with_reducible repeat (first | apply Kd.R_alloc | apply Kd.R_drewN | apply Kd.R_drew)); exact (Kd.R_mono (Kd.R_far (p := ⟨gb279, 1, none⟩) (Kd.R_far (p := ⟨gb279, 0, none⟩) (Kd.R_types HO278.out BK279.out (by decide)) (fun _ hk => hk.2) (.int .i64 t275)) (fun _ hk => hk.2) (.slice Ao25 t276.length co25)) (fun _ h_ => h_.1)))); (case side4 => exact (Kd.R_reads' HO278.out).2.1); rintro e w91 ⟨rfl, hb⟩; replace HO273 := Aside0.mk (Kd.R_below (by (with_reducible repeat (first | apply Kd.R_alloc | apply Kd.R_drewN | apply Kd.R_drew)); exact (Kd.R_mono (Kd.R_far (p := ⟨gb279, 1, none⟩) (Kd.R_far (p := ⟨gb279, 0, none⟩) (Kd.R_types HO273.out BK279.out (by decide)) (fun _ hk => hk.2) (.int .i64 t275)) (fun _ hk => hk.2) (.slice Ao25 t276.length co25)) (fun _ h_ => h_.1))) hb); replace HO278 := Aside0.mk (Kd.R_below (by (with_reducible repeat (first | apply Kd.R_alloc | apply Kd.R_drewN | apply Kd.R_drew)); exact (Kd.R_mono (Kd.R_far (p := ⟨gb279, 1, none⟩) (Kd.R_far (p := ⟨gb279, 0, none⟩) (Kd.R_types HO278.out BK279.out (by decide)) (fun _ hk => hk.2) (.int .i64 t275)) (fun _ hk => hk.2) (.slice Ao25 t276.length co25)) (fun _ h_ => h_.1))) hb); replace BK266 := Aside0.mk (blk_below (g := gb266) (o := .cells #[.int .i64 a1_0, .slice A1_1 l1_1.length c1_1] 25 (0, 0)) (by (with_reducible repeat (first | refine blk_drewN ?_ _ | refine blk_drew ?_ | refine blk_alloc ?_ _)); refine blk_far ?_ NB266_279.out _; (with_reducible repeat (first | refine blk_drewN ?_ _ | refine blk_drew ?_ | refine blk_alloc ?_ _)); refine blk_far ?_ NB266_279.out _; (with_reducible repeat (first | refine blk_drewN ?_ _ | refine blk_drew ?_ | refine blk_alloc ?_ _)); exact BK266.out) hb); replace BK267 := Aside0.mk (blk_below (g := gb267) (o := .cells #[.int .i64 a2_0, .int .i64 a2_1, .int .i64 a2_2, .slice A2_3 l2_3.length c2_3] 28 (0, 0)) (by (with_reducible repeat (first | refine blk_drewN ?_ _ | refine blk_drew ?_ | refine blk_alloc ?_ _)); refine blk_far ?_ NB267_279.out _; (with_reducible repeat (first | refine blk_drewN ?_ _ | refine blk_drew ?_ | refine blk_alloc ?_ _)); refine blk_far ?_ NB267_279.out _; (with_reducible repeat (first | refine blk_drewN ?_ _ | refine blk_drew ?_ | refine blk_alloc ?_ _)); exact BK267.out) hb); replace BK274 := Aside0.mk (blk_below (g := gb274) (o := .cells #[.slice Ao12 y271.length co12] 31 (0, 0)) (by (with_reducible repeat (first | refine blk_drewN ?_ _ | refine blk_drew ?_ | refine blk_alloc ?_ _)); refine blk_far ?_ NB274_279.out _; (with_reducible repeat (first | refine blk_drewN ?_ _ | refine blk_drew ?_ | refine blk_alloc ?_ _)); refine blk_far ?_ NB274_279.out _; (with_reducible repeat (first | refine blk_drewN ?_ _ | refine blk_drew ?_ | refine blk_alloc ?_ _)); exact BK274.out) hb); replace BK279 := Aside0.mk (blk_below (g := gb279) (o := .cells #[.int .i64 t275, .slice Ao25 t276.length co25] 34 (0, 0)) (by (with_reducible repeat (first | refine blk_drewN ?_ _ | refine blk_drew ?_ | refine blk_alloc ?_ _)); refine blk_put (cs := #[.int .i64 t275, .slice none 0 0]) ?_ 1 _ rfl; (with_reducible repeat (first | refine blk_drewN ?_ _ | refine blk_drew ?_ | refine blk_alloc ?_ _)); refine blk_put (cs := #[.int .i64 0, .slice none 0 0]) ?_ 0 _ rfl; (with_reducible repeat (first | refine blk_drewN ?_ _ | refine blk_drew ?_ | refine blk_alloc ?_ _)); exact BK279.out) hb); replace HB := Aside0.mk (below_step (uB4 HB GE266 GE267 GE274 GE279) hb); (try clear hb); (try clear hb2); (try clear hk); (try clear hi); (try simp only [errW_none, errW_some]); have hcz92_0 : w91.cell? ⟨gb267, 0, none⟩ = some (.int .i64 a2_0) := uF BK267 0; have hcz92_1 : w91.cell? ⟨gb267, 1, none⟩ = some (.int .i64 a2_1) := uF BK267 1; have hcz92_2 : w91.cell? ⟨gb267, 2, none⟩ = some (.int .i64 a2_2) := uF BK267 2; have hcz92_3 : w91.cell? ⟨gb267, 3, none⟩ = some (.slice A2_3 l2_3.length c2_3) := uF BK267 3; have hfz92_0 := blk_frozen BK267.out 0; have hfz92_1 := blk_frozen BK267.out 1; have hfz92_2 := blk_frozen BK267.out 2; have hfz92_3 := blk_frozen BK267.out 3))
     go_meet
     case rel => exact ⟨_, (true), (by first | rfl | (simp; done) | (simp [*]; done)), H', ⟨by first | omega | exact Nat.le_refl _⟩, ⟨uR HO273⟩, ⟨uR HO278⟩, ⟨uK BK266⟩, ⟨uK BK267⟩, ⟨uK BK274⟩, ⟨uK BK279⟩, ⟨uB4 HB GE266 GE267 GE274 GE279⟩⟩
    rw [if_neg c81] at H
    have c81b0 : decide (a2_2 < 0) = false := decide_eq_false c81
    clear c81
    have H' := Aside0.mk H
    clear H
    have hnb93 := NB266_267.out
    have hnc93 := NB267_266.out
    have hnb94 := NB266_274.out
    have hnc94 := NB274_266.out
    have hnb95 := NB266_279.out
    have hnc95 := NB279_266.out
    have hcz96_0 : w20.cell? ⟨gb266, 0, none⟩ = some (.int .i64 a1_0) := uF BK266 0
    have hcz96_1 : w20.cell? ⟨gb266, 1, none⟩ = some (.slice A1_1 l1_1.length c1_1) := uF BK266 1
    have hfz96_0 := blk_frozen BK266.out 0
    have hfz96_1 := blk_frozen BK266.out 1
    have hnb97 := NB274_267.out
    have hnc97 := NB267_274.out
    have hnb98 := NB274_279.out
    have hnc98 := NB279_274.out
    have hcz99_0 : w20.cell? ⟨gb274, 0, none⟩ = some (.slice Ao12 y271.length co12) := uF BK274 0
    have hfz99_0 := blk_frozen BK274.out 0
    have hnb100 := NB279_267.out
    have hnc100 := NB267_279.out
    have hcz101_0 : w20.cell? ⟨gb279, 0, none⟩ = some (.int .i64 0) := uF BK279 0
    have hcz101_1 : w20.cell? ⟨gb279, 1, none⟩ = some (.slice none 0 0) := uF BK279 1
    have hfz101_0 := blk_frozen BK279.out 0
    have hfz101_1 := blk_frozen BK279.out 1
    go_wp2_with (first | (go_at_call 10; (with_reducible refine (mon_Check.calls k _ _ y271 t275 _ _ t276 none _ ?side1 ?side2 ?side3 ?side4 A32.out).mono ?_); (case side1 => refine (Kd.R_reads' (e := 5) (base := w.heap.size) (ok := fun k_ => True) (n := y271.length) (c := co12) ?_).2.2; exact (by (with_reducible repeat (first | apply Kd.R_alloc | apply Kd.R_drewN | apply Kd.R_drew)); exact (Kd.R_mono (Kd.R_far (p := ⟨gb279, 1, none⟩) (Kd.R_far (p := ⟨gb279, 0, none⟩) (Kd.R_types HO273.out BK279.out (by decide)) (fun _ hk => hk.2) (.int .i64 t275)) (fun _ hk => hk.2) (.slice Ao25 t276.length co25)) (fun _ h_ => h_.1)))); (case side2 => exact (Kd.R_reads' HO273.out).2.1); (case side3 => refine (Kd.R_reads' (e := 58) (base := w.heap.size) (ok := fun k_ => True) (n := t276.length) (c := co25) ?_).2.2; exact (by (with_reducible repeat (first | apply Kd.R_alloc | apply Kd.R_drewN | apply Kd.R_drew)); exact (Kd.R_mono (Kd.R_far (p := ⟨gb279, 1, none⟩) (Kd.R_far (p := ⟨gb279, 0, none⟩) (Kd.R_types HO278.out BK279.out (by decide)) (fun _ hk => hk.2) (.int .i64 t275)) (fun _ hk => hk.2) (.slice Ao25 t276.length co25)) (fun _ h_ => h_.1)))); (case side4 => exact (Kd.R_reads' HO278.out).2.1); rintro e w102 ⟨rfl, hb⟩; replace HO273 := Aside0.mk (Kd.R_below (by (with_reducible repeat (first | apply Kd.R_alloc | apply Kd.R_drewN | apply Kd.R_drew)); exact (Kd.R_mono (Kd.R_far (p := ⟨gb279, 1, none⟩) (Kd.R_far (p := ⟨gb279, 0, none⟩) (Kd.R_types HO273.out BK279.out (by decide)) (fun _ hk => hk.2) (.int .i64 t275)) (fun _ hk => hk.2) (.slice Ao25 t276.length co25)) (fun _ h_ => h_.1))) hb); replace HO278 := Aside0.mk (Kd.R_below (by (with_reducible repeat (first | apply Kd.R_alloc | apply Kd.R_drewN | apply Kd.R_drew)); exact (Kd.R_mono (Kd.R_far (p := ⟨gb279, 1, none⟩) (Kd.R_far (p := ⟨gb279, 0, none⟩) (Kd.R_types HO278.out BK279.out (by decide)) (fun _ hk => hk.2) (.int .i64 t275)) (fun _ hk => hk.2) (.slice Ao25 t276.length co25)) (fun _ h_ => h_.1))) hb); replace BK266 := Aside0.mk (blk_below (g := gb266) (o := .cells #[.int .i64 a1_0, .slice A1_1 l1_1.length c1_1] 25 (0, 0)) (by (with_reducible repeat (first | refine blk_drewN ?_ _ | refine blk_drew ?_ | refine blk_alloc ?_ _)); refine blk_far ?_ NB266_279.out _; (with_reducible repeat (first | refine blk_drewN ?_ _ | refine blk_drew ?_ | refine blk_alloc ?_ _)); refine blk_far ?_ NB266_279.out _; (with_reducible repeat (first | refine blk_drewN ?_ _ | refine blk_drew ?_ | refine blk_alloc ?_ _)); exact BK266.out) hb); replace BK267 := Aside0.mk (blk_below (g := gb267) (o := .cells #[.int .i64 a2_0, .int .i64 a2_1, .int .i64 a2_2, .slice A2_3 l2_3.length c2_3] 28 (0, 0)) (by (with_reducible repeat (first | refine blk_drewN ?_ _ | refine blk_drew ?_ | refine blk_alloc ?_ _)); refine blk_far ?_ NB267_279.out _; (with_reducible repeat (first | refine blk_drewN ?_ _ | refine blk_drew ?_ | refine blk_alloc ?_ _)); refine blk_far ?_ NB267_279.out _; (with_reducible repeat (first | refine blk_drewN ?_ _ | refine blk_drew ?_ | refine blk_alloc ?_ _)); exact BK267.out) hb); replace BK274 := Aside0.mk (blk_below (g := gb274) (o := .cells #[.slice Ao12 y271.length co12] 31 (0, 0)) (by (with_reducible repeat (first | refine blk_drewN ?_ _ | refine blk_drew ?_ | refine blk_alloc ?_ _)); refine blk_far ?_ NB274_279.out _; (with_reducible repeat (first | refine blk_drewN ?_ _ | refine blk_drew ?_ | refine blk_alloc ?_ _)); refine blk_far ?_ NB274_279.out _; (with_reducible repeat (first | refine blk_drewN ?_ _ | refine blk_drew ?_ | refine blk_alloc ?_ _)); exact BK274.out) hb); replace BK279 := Aside0.mk (blk_below (g := gb279) (o := .cells #[.int .i64 t275, .slice Ao25 t276.length co25] 34 (0, 0)) (by (with_reducible repeat (first | refine blk_drewN ?_ _ | refine blk_drew ?_ | refine blk_alloc ?_ _)); refine blk_put (cs := #[.int .i64 t275, .slice none 0 0]) ?_ 1 _ rfl; (with_reducible repeat (first | refine blk_drewN ?_ _ | refine blk_drew ?_ | refine blk_alloc ?_ _)); refine blk_put (cs := #[.int .i64 0, .slice none 0 0]) ?_ 0 _ rfl; (with_reducible repeat (first | refine blk_drewN ?_ _ | refine blk_drew ?_ | refine blk_alloc ?_ _)); exact BK279.out) hb); replace HB := Aside0.mk (below_step (uB4 HB GE266 GE267 GE274 GE279) hb); (try clear hb); (try clear hb2); (try clear hk); (try clear hi); (try simp only [errW_none, errW_some]); have hcz103_0 : w102.cell? ⟨gb267, 0, none⟩ = some (.int .i64 a2_0) := uF BK267 0; have hcz103_1 : w102.cell? ⟨gb267, 1, none⟩ = some (.int .i64 a2_1) := uF BK267 1; have hcz103_2 : w102.cell? ⟨gb267, 2, none⟩ = some (.int .i64 a2_2) := uF BK267 2; have hcz103_3 : w102.cell? ⟨gb267, 3, none⟩ = some (.slice A2_3 l2_3.length c2_3) := uF BK267 3; have hfz103_0 := blk_frozen BK267.out 0; have hfz103_1 := blk_frozen BK267.out 1; have hfz103_2 := blk_frozen BK267.out 2; have hfz103_3 := blk_frozen BK267.out 3))
    go_meet
    case rel => exact ⟨_, (decide (a2_2 > 32)), (by first | rfl | (simp; done) | (simp [*]; done)), H', ⟨by first | omega | exact Nat.le_refl _⟩, ⟨uR HO273⟩, ⟨uR HO278⟩, ⟨uK BK266⟩, ⟨uK BK267⟩, ⟨uK BK274⟩, ⟨uK BK279⟩, ⟨uB4 HB GE266 GE267 GE274 GE279⟩⟩
   have H1 : (colloquylaw20_MonRises.j0 k l0 true a2_0 a2_1 a2_2 l2_3 y271 t275 t276) = some r := by rw [if_neg (show ¬ (some q281).isNone = true by simp)] at H; exact H
   clear H
   have H := H1
   clear H1
   try simp only [errW_none, errW_some]
   have H' := Aside0.mk H
   clear H
   have hnb104 := NB266_267.out
   have hnc104 := NB267_266.out
   have hnb105 := NB266_274.out
   have hnc105 := NB274_266.out
   have hnb106 := NB266_279.out
   have hnc106 := NB279_266.out
   have hcz107_0 : w20.cell? ⟨gb266, 0, none⟩ = some (.int .i64 a1_0) := uF BK266 0
   have hcz107_1 : w20.cell? ⟨gb266, 1, none⟩ = some (.slice A1_1 l1_1.length c1_1) := uF BK266 1
   have hfz107_0 := blk_frozen BK266.out 0
   have hfz107_1 := blk_frozen BK266.out 1
   have hnb108 := NB274_267.out
   have hnc108 := NB267_274.out
   have hnb109 := NB274_279.out
   have hnc109 := NB279_274.out
   have hcz110_0 : w20.cell? ⟨gb274, 0, none⟩ = some (.slice Ao12 y271.length co12) := uF BK274 0
   have hfz110_0 := blk_frozen BK274.out 0
   have hnb111 := NB279_267.out
   have hnc111 := NB267_279.out
   have hcz112_0 : w20.cell? ⟨gb279, 0, none⟩ = some (.int .i64 0) := uF BK279 0
   have hcz112_1 : w20.cell? ⟨gb279, 1, none⟩ = some (.slice none 0 0) := uF BK279 1
   have hfz112_0 := blk_frozen BK279.out 0
   have hfz112_1 := blk_frozen BK279.out 1
   go_wp2_with (first | (go_at_call 10; (with_reducible refine (mon_Check.calls k _ _ y271 t275 _ _ t276 (some q281) _ ?side1 ?side2 ?side3 ?side4 A32.out).mono ?_); (case side1 => refine (Kd.R_reads' (e := 5) (base := w.heap.size) (ok := fun k_ => True) (n := y271.length) (c := co12) ?_).2.2; exact (by (with_reducible repeat (first | apply Kd.R_alloc | apply Kd.R_drewN | apply Kd.R_drew)); exact (Kd.R_mono (Kd.R_far (p := ⟨gb279, 1, none⟩) (Kd.R_far (p := ⟨gb279, 0, none⟩) (Kd.R_types HO273.out BK279.out (by decide)) (fun _ hk => hk.2) (.int .i64 t275)) (fun _ hk => hk.2) (.slice Ao25 t276.length co25)) (fun _ h_ => h_.1)))); (case side2 => exact (Kd.R_reads' HO273.out).2.1); (case side3 => refine (Kd.R_reads' (e := 58) (base := w.heap.size) (ok := fun k_ => True) (n := t276.length) (c := co25) ?_).2.2; exact (by (with_reducible repeat (first | apply Kd.R_alloc | apply Kd.R_drewN | apply Kd.R_drew)); exact (Kd.R_mono (Kd.R_far (p := ⟨gb279, 1, none⟩) (Kd.R_far (p := ⟨gb279, 0, none⟩) (Kd.R_types HO278.out BK279.out (by decide)) (fun _ hk => hk.2) (.int .i64 t275)) (fun _ hk => hk.2) (.slice Ao25 t276.length co25)) (fun _ h_ => h_.1)))); (case side4 => exact (Kd.R_reads' HO278.out).2.1); rintro e w113 ⟨rfl, hb⟩; replace HO273 := Aside0.mk (Kd.R_below (by (with_reducible repeat (first | apply Kd.R_alloc | apply Kd.R_drewN | apply Kd.R_drew)); exact (Kd.R_mono (Kd.R_far (p := ⟨gb279, 1, none⟩) (Kd.R_far (p := ⟨gb279, 0, none⟩) (Kd.R_types HO273.out BK279.out (by decide)) (fun _ hk => hk.2) (.int .i64 t275)) (fun _ hk => hk.2) (.slice Ao25 t276.length co25)) (fun _ h_ => h_.1))) hb); replace HO278 := Aside0.mk (Kd.R_below (by (with_reducible repeat (first | apply Kd.R_alloc | apply Kd.R_drewN | apply Kd.R_drew)); exact (Kd.R_mono (Kd.R_far (p := ⟨gb279, 1, none⟩) (Kd.R_far (p := ⟨gb279, 0, none⟩) (Kd.R_types HO278.out BK279.out (by decide)) (fun _ hk => hk.2) (.int .i64 t275)) (fun _ hk => hk.2) (.slice Ao25 t276.length co25)) (fun _ h_ => h_.1))) hb); replace BK266 := Aside0.mk (blk_below (g := gb266) (o := .cells #[.int .i64 a1_0, .slice A1_1 l1_1.length c1_1] 25 (0, 0)) (by (with_reducible repeat (first | refine blk_drewN ?_ _ | refine blk_drew ?_ | refine blk_alloc ?_ _)); refine blk_far ?_ NB266_279.out _; (with_reducible repeat (first | refine blk_drewN ?_ _ | refine blk_drew ?_ | refine blk_alloc ?_ _)); refine blk_far ?_ NB266_279.out _; (with_reducible repeat (first | refine blk_drewN ?_ _ | refine blk_drew ?_ | refine blk_alloc ?_ _)); exact BK266.out) hb); replace BK267 := Aside0.mk (blk_below (g := gb267) (o := .cells #[.int .i64 a2_0, .int .i64 a2_1, .int .i64 a2_2, .slice A2_3 l2_3.length c2_3] 28 (0, 0)) (by (with_reducible repeat (first | refine blk_drewN ?_ _ | refine blk_drew ?_ | refine blk_alloc ?_ _)); refine blk_far ?_ NB267_279.out _; (with_reducible repeat (first | refine blk_drewN ?_ _ | refine blk_drew ?_ | refine blk_alloc ?_ _)); refine blk_far ?_ NB267_279.out _; (with_reducible repeat (first | refine blk_drewN ?_ _ | refine blk_drew ?_ | refine blk_alloc ?_ _)); exact BK267.out) hb); replace BK274 := Aside0.mk (blk_below (g := gb274) (o := .cells #[.slice Ao12 y271.length co12] 31 (0, 0)) (by (with_reducible repeat (first | refine blk_drewN ?_ _ | refine blk_drew ?_ | refine blk_alloc ?_ _)); refine blk_far ?_ NB274_279.out _; (with_reducible repeat (first | refine blk_drewN ?_ _ | refine blk_drew ?_ | refine blk_alloc ?_ _)); refine blk_far ?_ NB274_279.out _; (with_reducible repeat (first | refine blk_drewN ?_ _ | refine blk_drew ?_ | refine blk_alloc ?_ _)); exact BK274.out) hb); replace BK279 := Aside0.mk (blk_below (g := gb279) (o := .cells #[.int .i64 t275, .slice Ao25 t276.length co25] 34 (0, 0)) (by (with_reducible repeat (first | refine blk_drewN ?_ _ | refine blk_drew ?_ | refine blk_alloc ?_ _)); refine blk_put (cs := #[.int .i64 t275, .slice none 0 0]) ?_ 1 _ rfl; (with_reducible repeat (first | refine blk_drewN ?_ _ | refine blk_drew ?_ | refine blk_alloc ?_ _)); refine blk_put (cs := #[.int .i64 0, .slice none 0 0]) ?_ 0 _ rfl; (with_reducible repeat (first | refine blk_drewN ?_ _ | refine blk_drew ?_ | refine blk_alloc ?_ _)); exact BK279.out) hb); replace HB := Aside0.mk (below_step (uB4 HB GE266 GE267 GE274 GE279) hb); (try clear hb); (try clear hb2); (try clear hk); (try clear hi); (try simp only [errW_none, errW_some])))
   go_meet
   case rel => exact ⟨_, (true), (by first | rfl | (simp; done) | (simp [*]; done)), H', ⟨by first | omega | exact Nat.le_refl _⟩, ⟨uR HO273⟩, ⟨uR HO278⟩, ⟨uK BK266⟩, ⟨uK BK267⟩, ⟨uK BK274⟩, ⟨uK BK279⟩, ⟨uB4 HB GE266 GE267 GE274 GE279⟩⟩
  case rest =>
   clear HC6
   try clear c1
   try clear c2
   try clear p2
   try clear q2
   try clear c3
   try clear c4
   try clear c5
   try clear c6
   try clear c7
   try clear c8
   try clear c9
   try clear c10
   try clear c11
   try clear c14
   try clear c15
   try clear c17
   try clear c21
   try clear c22
   try clear c23
   try clear c26
   try clear c26b0
   try clear c26b1
   try clear c27
   try clear c27b0
   try clear c27b1
   try clear c28
   try clear q28
   try clear c29
   try clear c30
   try clear c33
   try clear c33b0
   try clear c34
   try clear c35
   try clear c36
   try clear c38
   try clear c39
   try clear c41
   try clear c45
   try clear c45b0
   try clear c46
   try clear c47
   try clear c48
   try clear c50
   try clear c51
   try clear c53
   try clear c57
   try clear c57b0
   try clear c58
   try clear c59
   try clear c60
   try clear c62
   try clear c63
   try clear c65
   try clear c69
   try clear c69b0
   try clear c70
   try clear c71
   try clear c72
   try clear c74
   try clear c75
   try clear c77
   try clear c81
   try clear c81b0
   try clear c82
   try clear c83
   try clear c84
   try clear c86
   try clear c87
   try clear c89
   try clear c93
   try clear c94
   try clear c95
   try clear c97
   try clear c98
   try clear c100
   try clear c104
   try clear c105
   try clear c106
   try clear c108
   try clear c109
   try clear c111
   try clear hcz101_0
   try clear hcz101_1
   try clear hcz103_0
   try clear hcz103_1
   try clear hcz103_2
   try clear hcz103_3
   try clear hcz107_0
   try clear hcz107_1
   try clear hcz110_0
   try clear hcz112_0
   try clear hcz112_1
   try clear hcz16_0
   try clear hcz18_0
   try clear hcz18_1
   try clear hcz24_0
   try clear hcz24_1
   try clear hcz31_0
   try clear hcz31_1
   try clear hcz37_0
   try clear hcz37_1
   try clear hcz40_0
   try clear hcz42_0
   try clear hcz42_1
   try clear hcz44_0
   try clear hcz44_1
   try clear hcz44_2
   try clear hcz44_3
   try clear hcz49_0
   try clear hcz49_1
   try clear hcz52_0
   try clear hcz54_0
   try clear hcz54_1
   try clear hcz56_0
   try clear hcz56_1
   try clear hcz56_2
   try clear hcz56_3
   try clear hcz61_0
   try clear hcz61_1
   try clear hcz64_0
   try clear hcz66_0
   try clear hcz66_1
   try clear hcz68_0
   try clear hcz68_1
   try clear hcz68_2
   try clear hcz68_3
   try clear hcz73_0
   try clear hcz73_1
   try clear hcz76_0
   try clear hcz78_0
   try clear hcz78_1
   try clear hcz80_0
   try clear hcz80_1
   try clear hcz80_2
   try clear hcz80_3
   try clear hcz85_0
   try clear hcz85_1
   try clear hcz88_0
   try clear hcz90_0
   try clear hcz90_1
   try clear hcz92_0
   try clear hcz92_1
   try clear hcz92_2
   try clear hcz92_3
   try clear hcz96_0
   try clear hcz96_1
   try clear hcz99_0
   try clear hfz101_0
   try clear hfz101_1
   try clear hfz103_0
   try clear hfz103_1
   try clear hfz103_2
   try clear hfz103_3
   try clear hfz107_0
   try clear hfz107_1
   try clear hfz110_0
   try clear hfz112_0
   try clear hfz112_1
   try clear hfz16_0
   try clear hfz18_0
   try clear hfz18_1
   try clear hfz24_0
   try clear hfz24_1
   try clear hfz31_0
   try clear hfz31_1
   try clear hfz37_0
   try clear hfz37_1
   try clear hfz40_0
   try clear hfz42_0
   try clear hfz42_1
   try clear hfz44_0
   try clear hfz44_1
   try clear hfz44_2
   try clear hfz44_3
   try clear hfz49_0
   try clear hfz49_1
   try clear hfz52_0
   try clear hfz54_0
   try clear hfz54_1
   try clear hfz56_0
   try clear hfz56_1
   try clear hfz56_2
   try clear hfz56_3
   try clear hfz61_0
   try clear hfz61_1
   try clear hfz64_0
   try clear hfz66_0
   try clear hfz66_1
   try clear hfz68_0
   try clear hfz68_1
   try clear hfz68_2
   try clear hfz68_3
   try clear hfz73_0
   try clear hfz73_1
   try clear hfz76_0
   try clear hfz78_0
   try clear hfz78_1
   try clear hfz80_0
   try clear hfz80_1
   try clear hfz80_2
   try clear hfz80_3
   try clear hfz85_0
   try clear hfz85_1
   try clear hfz88_0
   try clear hfz90_0
   try clear hfz90_1
   try clear hfz92_0
   try clear hfz92_1
   try clear hfz92_2
   try clear hfz92_3
   try clear hfz96_0
   try clear hfz96_1
   try clear hfz99_0
   try clear q281
   obtain ⟨kq, x63_5, rfl, HA, HJ5, HO_275000, HO_280001, BK266, BK267, BK274, BK279, HB⟩ := hcut
   cases kq with
   | zero => exact absurd HA.out (by simp [colloquylaw20_MonRises.j0])
   | succ kj5 =>
    have H := HA.out
    clear HA
    simp only [colloquylaw20_MonRises.j0] at H
    by_cases c114 : x63_5 = true
    ·subst c114
     have H1 : ((colloquylaw20_sure.f kj5).bind fun t282 => (some t282)) = some r := by rw [if_pos rfl] at H; exact H
     clear H
     have H := H1
     clear H1
     replace H := Option.bind_eq_some_iff.mp H
     obtain ⟨t282, A1150, H⟩ := H
     replace H : (some t282) = some r := H
     have A115 := Aside0.mk A1150
     clear A1150
     obtain rfl := Option.some.inj H
     go_wp2_with (first | ((with_reducible refine gate_callee (f := 7) rfl ?_); refine goesL_ (some 64) rfl rfl Tryd.func7 (by kernel_rfl) rfl #[] rfl uC ?_; (with_reducible refine (colloquylaw20_sure.calls kj5  t282 _ ?side1 A115.out).mono ?_); (case side1 => exact HG.out.below (uB4 HB GE266 GE267 GE274 GE279)); rintro e w116 ⟨rfl, hb⟩; refine ⟨_, rfl, ?_⟩; replace BK266 := uD BK266 hb; replace BK267 := uD BK267 hb; replace BK274 := uD BK274 hb; replace BK279 := uD BK279 hb; replace HB := Aside0.mk (below_step (uB4 HB GE266 GE267 GE274 GE279) hb); (try clear hb); (try clear hb2); (try clear hk); (try clear hi)))
     go_ret
     exact ⟨by first | rfl | (simp [errW_none, errW_some] <;> rfl) | (simp [*, errW_none, errW_some] <;> rfl), uB4 HB GE266 GE267 GE274 GE279⟩
    replace c114 := Bool.eq_false_iff.mpr c114
    subst c114
    have H1 : ((mon_Else.f kj5 y271 t275 t276 a2_0 a2_1 a2_2).bind fun bt283 => ((mon_Check.f kj5 y271 bt283.1 bt283.2).bind fun t288 => (if t288.isNone = true then ((mon_Mon_Pc.f t275 t276).bind fun t290 => ((mon_Mon_Pc.f bt283.1 bt283.2).bind fun t291 => ((lattice_Lat_Leq.f kj5 y271 t290 t291).bind fun t292 => (if t292 = true then ((mon_Mon_Pc.f bt283.1 bt283.2).bind fun t293 => ((lattice_Lat_Leq.f kj5 y271 a2_1 t293).bind fun t294 => (if t294 = true then ((mon_Raise.f kj5 y271 t275 t276 (([a2_1] : List Int))).bind fun t298 => ((mon_Mon_Pc.f bt283.1 bt283.2).bind fun t299 => (if t298 = t299 then (colloquylaw20_MonRises.l0 kj5 l0 0 a2_0 a2_1 a2_2 l2_3 y271 t275 t276 bt283.1 bt283.2) else (none)))) else (none)))) else (none))))) else (none)))) = some r := by rw [if_neg (show ¬ (false = true) by decide)] at H; exact H
    clear H
    have H := H1
    clear H1
    replace H := Option.bind_eq_some_iff.mp H
    obtain ⟨⟨t283, t284⟩, A1170, H⟩ := H
    replace H : ((mon_Check.f kj5 y271 t283 t284).bind fun t288 => (if t288.isNone = true then ((mon_Mon_Pc.f t275 t276).bind fun t290 => ((mon_Mon_Pc.f t283 t284).bind fun t291 => ((lattice_Lat_Leq.f kj5 y271 t290 t291).bind fun t292 => (if t292 = true then ((mon_Mon_Pc.f t283 t284).bind fun t293 => ((lattice_Lat_Leq.f kj5 y271 a2_1 t293).bind fun t294 => (if t294 = true then ((mon_Raise.f kj5 y271 t275 t276 (([a2_1] : List Int))).bind fun t298 => ((mon_Mon_Pc.f t283 t284).bind fun t299 => (if t298 = t299 then (colloquylaw20_MonRises.l0 kj5 l0 0 a2_0 a2_1 a2_2 l2_3 y271 t275 t276 t283 t284) else (none)))) else (none)))) else (none))))) else (none))) = some r := H
    have A117 := Aside0.mk A1170
    clear A1170
    replace H := Option.bind_eq_some_iff.mp H
    obtain ⟨t288, A1180, H⟩ := H
    replace H : (if t288.isNone = true then ((mon_Mon_Pc.f t275 t276).bind fun t290 => ((mon_Mon_Pc.f t283 t284).bind fun t291 => ((lattice_Lat_Leq.f kj5 y271 t290 t291).bind fun t292 => (if t292 = true then ((mon_Mon_Pc.f t283 t284).bind fun t293 => ((lattice_Lat_Leq.f kj5 y271 a2_1 t293).bind fun t294 => (if t294 = true then ((mon_Raise.f kj5 y271 t275 t276 (([a2_1] : List Int))).bind fun t298 => ((mon_Mon_Pc.f t283 t284).bind fun t299 => (if t298 = t299 then (colloquylaw20_MonRises.l0 kj5 l0 0 a2_0 a2_1 a2_2 l2_3 y271 t275 t276 t283 t284) else (none)))) else (none)))) else (none))))) else (none)) = some r := H
    have A118 := Aside0.mk A1180
    clear A1180
    rcases t288 with _ | q289
    ·have H1 : ((mon_Mon_Pc.f t275 t276).bind fun t290 => ((mon_Mon_Pc.f t283 t284).bind fun t291 => ((lattice_Lat_Leq.f kj5 y271 t290 t291).bind fun t292 => (if t292 = true then ((mon_Mon_Pc.f t283 t284).bind fun t293 => ((lattice_Lat_Leq.f kj5 y271 a2_1 t293).bind fun t294 => (if t294 = true then ((mon_Raise.f kj5 y271 t275 t276 (([a2_1] : List Int))).bind fun t298 => ((mon_Mon_Pc.f t283 t284).bind fun t299 => (if t298 = t299 then (colloquylaw20_MonRises.l0 kj5 l0 0 a2_0 a2_1 a2_2 l2_3 y271 t275 t276 t283 t284) else (none)))) else (none)))) else (none))))) = some r := by rw [if_pos (show (none : Option Int).isNone = true by rfl)] at H; exact H
     clear H
     have H := H1
     clear H1
     try simp only [errW_none, errW_some]
     replace H := Option.bind_eq_some_iff.mp H
     obtain ⟨t290, A1190, H⟩ := H
     replace H : ((mon_Mon_Pc.f t283 t284).bind fun t291 => ((lattice_Lat_Leq.f kj5 y271 t290 t291).bind fun t292 => (if t292 = true then ((mon_Mon_Pc.f t283 t284).bind fun t293 => ((lattice_Lat_Leq.f kj5 y271 a2_1 t293).bind fun t294 => (if t294 = true then ((mon_Raise.f kj5 y271 t275 t276 (([a2_1] : List Int))).bind fun t298 => ((mon_Mon_Pc.f t283 t284).bind fun t299 => (if t298 = t299 then (colloquylaw20_MonRises.l0 kj5 l0 0 a2_0 a2_1 a2_2 l2_3 y271 t275 t276 t283 t284) else (none)))) else (none)))) else (none)))) = some r := H
     have A119 := Aside0.mk A1190
     clear A1190
     replace H := Option.bind_eq_some_iff.mp H
     obtain ⟨t291, A1200, H⟩ := H
     replace H : ((lattice_Lat_Leq.f kj5 y271 t290 t291).bind fun t292 => (if t292 = true then ((mon_Mon_Pc.f t283 t284).bind fun t293 => ((lattice_Lat_Leq.f kj5 y271 a2_1 t293).bind fun t294 => (if t294 = true then ((mon_Raise.f kj5 y271 t275 t276 (([a2_1] : List Int))).bind fun t298 => ((mon_Mon_Pc.f t283 t284).bind fun t299 => (if t298 = t299 then (colloquylaw20_MonRises.l0 kj5 l0 0 a2_0 a2_1 a2_2 l2_3 y271 t275 t276 t283 t284) else (none)))) else (none)))) else (none))) = some r := H
     have A120 := Aside0.mk A1200
     clear A1200
     replace H := Option.bind_eq_some_iff.mp H
     obtain ⟨t292, A1210, H⟩ := H
     replace H : (if t292 = true then ((mon_Mon_Pc.f t283 t284).bind fun t293 => ((lattice_Lat_Leq.f kj5 y271 a2_1 t293).bind fun t294 => (if t294 = true then ((mon_Raise.f kj5 y271 t275 t276 (([a2_1] : List Int))).bind fun t298 => ((mon_Mon_Pc.f t283 t284).bind fun t299 => (if t298 = t299 then (colloquylaw20_MonRises.l0 kj5 l0 0 a2_0 a2_1 a2_2 l2_3 y271 t275 t276 t283 t284) else (none)))) else (none)))) else (none)) = some r := H
     have A121 := Aside0.mk A1210
     clear A1210
     by_cases c122 : t292 = true
     ·subst c122
      have H1 : ((mon_Mon_Pc.f t283 t284).bind fun t293 => ((lattice_Lat_Leq.f kj5 y271 a2_1 t293).bind fun t294 => (if t294 = true then ((mon_Raise.f kj5 y271 t275 t276 (([a2_1] : List Int))).bind fun t298 => ((mon_Mon_Pc.f t283 t284).bind fun t299 => (if t298 = t299 then (colloquylaw20_MonRises.l0 kj5 l0 0 a2_0 a2_1 a2_2 l2_3 y271 t275 t276 t283 t284) else (none)))) else (none)))) = some r := by rw [if_pos rfl] at H; exact H
      clear H
      have H := H1
      clear H1
      replace H := Option.bind_eq_some_iff.mp H
      obtain ⟨t293, A1230, H⟩ := H
      replace H : ((lattice_Lat_Leq.f kj5 y271 a2_1 t293).bind fun t294 => (if t294 = true then ((mon_Raise.f kj5 y271 t275 t276 (([a2_1] : List Int))).bind fun t298 => ((mon_Mon_Pc.f t283 t284).bind fun t299 => (if t298 = t299 then (colloquylaw20_MonRises.l0 kj5 l0 0 a2_0 a2_1 a2_2 l2_3 y271 t275 t276 t283 t284) else (none)))) else (none))) = some r := H
      have A123 := Aside0.mk A1230
      clear A1230
      replace H := Option.bind_eq_some_iff.mp H
      obtain ⟨t294, A1240, H⟩ := H
      replace H : (if t294 = true then ((mon_Raise.f kj5 y271 t275 t276 (([a2_1] : List Int))).bind fun t298 => ((mon_Mon_Pc.f t283 t284).bind fun t299 => (if t298 = t299 then (colloquylaw20_MonRises.l0 kj5 l0 0 a2_0 a2_1 a2_2 l2_3 y271 t275 t276 t283 t284) else (none)))) else (none)) = some r := H
      have A124 := Aside0.mk A1240
      clear A1240
      by_cases c125 : t294 = true
      ·subst c125
       have H1 : ((mon_Raise.f kj5 y271 t275 t276 (([a2_1] : List Int))).bind fun t298 => ((mon_Mon_Pc.f t283 t284).bind fun t299 => (if t298 = t299 then (colloquylaw20_MonRises.l0 kj5 l0 0 a2_0 a2_1 a2_2 l2_3 y271 t275 t276 t283 t284) else (none)))) = some r := by rw [if_pos rfl] at H; exact H
       clear H
       have H := H1
       clear H1
       obtain ⟨y295, hy295⟩ : ∃ y_ : List Int, y_ = (([a2_1] : List Int)) := ⟨_, rfl⟩
       replace H : ((mon_Raise.f kj5 y271 t275 t276 y295).bind fun t298 => ((mon_Mon_Pc.f t283 t284).bind fun t299 => (if t298 = t299 then (colloquylaw20_MonRises.l0 kj5 l0 0 a2_0 a2_1 a2_2 l2_3 y271 t275 t276 t283 t284) else (none)))) = some r := by first | (rw [hy295]; with_reducible exact H) | (have H2_ := (Option.bind_some _ _).symm.trans H; rw [hy295]; with_reducible exact H2_) | (have H2_ := (Option.bind_some _ _).symm.trans H; with_reducible exact H2_) | with_reducible exact H | (rw [hy295]; exact H) | exact H
       have Ny295 := Aside0.mk hy295
       clear hy295
       replace H := Option.bind_eq_some_iff.mp H
       obtain ⟨t298, A1260, H⟩ := H
       replace H : ((mon_Mon_Pc.f t283 t284).bind fun t299 => (if t298 = t299 then (colloquylaw20_MonRises.l0 kj5 l0 0 a2_0 a2_1 a2_2 l2_3 y271 t275 t276 t283 t284) else (none))) = some r := H
       have A126 := Aside0.mk A1260
       clear A1260
       replace H := Option.bind_eq_some_iff.mp H
       obtain ⟨t299, A1270, H⟩ := H
       replace H : (if t298 = t299 then (colloquylaw20_MonRises.l0 kj5 l0 0 a2_0 a2_1 a2_2 l2_3 y271 t275 t276 t283 t284) else (none)) = some r := H
       have A127 := Aside0.mk A1270
       clear A1270
       by_cases c128 : t298 = t299
       ·rw [if_pos c128] at H
        have c128b0 : (t298 == t299) = true := beq_iff_eq.mpr c128
        have c128b1 : (t298 != t299) = false := bne_eq_false_iff_eq.mpr c128
        clear c128
        have H' := Aside0.mk H
        clear H
        have hnb129 := NB274_266.out
        have hnc129 := NB266_274.out
        have hnb130 := NB274_267.out
        have hnc130 := NB267_274.out
        have hnb131 := NB274_279.out
        have hnc131 := NB279_274.out
        have hcz132_0 : wc.cell? ⟨gb274, 0, none⟩ = some (.slice Ao12 y271.length co12) := uF BK274 0
        have hfz132_0 := blk_frozen BK274.out 0
        have hnb133 := NB279_266.out
        have hnc133 := NB266_279.out
        have hnb134 := NB279_267.out
        have hnc134 := NB267_279.out
        have hcz135_0 : wc.cell? ⟨gb279, 0, none⟩ = some (.int .i64 t275) := uF BK279 0
        have hcz135_1 : wc.cell? ⟨gb279, 1, none⟩ = some (.slice Ao25 t276.length co25) := uF BK279 1
        have hfz135_0 := blk_frozen BK279.out 0
        have hfz135_1 := blk_frozen BK279.out 1
        have hnb136 := NB267_266.out
        have hnc136 := NB266_267.out
        have hcz137_0 : wc.cell? ⟨gb267, 0, none⟩ = some (.int .i64 a2_0) := uF BK267 0
        have hcz137_1 : wc.cell? ⟨gb267, 1, none⟩ = some (.int .i64 a2_1) := uF BK267 1
        have hcz137_2 : wc.cell? ⟨gb267, 2, none⟩ = some (.int .i64 a2_2) := uF BK267 2
        have hcz137_3 : wc.cell? ⟨gb267, 3, none⟩ = some (.slice A2_3 l2_3.length c2_3) := uF BK267 3
        have hfz137_0 := blk_frozen BK267.out 0
        have hfz137_1 := blk_frozen BK267.out 1
        have hfz137_2 := blk_frozen BK267.out 2
        have hfz137_3 := blk_frozen BK267.out 3
        try go_wp2_with (first | ((with_reducible refine gate_callee (f := 17) rfl ?_); refine goesL_ (some 73) rfl rfl Tryd.func17 (by kernel_rfl) rfl #[.agg #[.slice Ao12 y271.length co12], .agg #[.int .i64 t275, .slice Ao25 t276.length co25], .int .i64 a2_0, .int .i64 a2_1, .int .i64 a2_2] rfl uC ?_; (with_reducible refine (mon_Else.calls kj5 _ _ y271 t275 _ _ t276 a2_0 a2_1 a2_2 t283 t284 _ ?side1 ?side2 ?side3 ?side4 A117.out).mono ?_); (case side1 => exact uS (Kd.R_reads' HO_275000.out).2.2); (case side2 => exact (Kd.R_reads' HO_275000.out).2.1); (case side3 => exact uS (Kd.R_reads' HO_280001.out).2.2); (case side4 => exact (Kd.R_reads' HO_280001.out).2.1); rintro e w138 ⟨v285, rfl, ho0, hb⟩; refine ⟨_, rfl, ?_⟩; replace HO_275000 := Aside0.mk (Kd.R_below (uR HO_275000) hb); have HO286 := Aside0.mk (Kd.R_lower (Kd.R_new' ho0 (Kd.R_lt (uR HO_280001))) (below_size (uB4 HB GE266 GE267 GE274 GE279))); replace HO_280001 := Aside0.mk (Kd.R_elder' (uR HO_280001) (Kd.R_base ho0) hb); replace BK266 := uD BK266 hb; replace BK267 := uD BK267 hb; replace BK274 := uD BK274 hb; replace BK279 := uD BK279 hb; replace HB := Aside0.mk (below_step (uB4 HB GE266 GE267 GE274 GE279) hb); (try clear hb); (try clear hb2); (try clear hk); (try clear hi); (try clear ho0)) | ((with_reducible refine gate_dst (N := 9) rfl ?_); (try (refine gate_guard (by rfl) ?_; dsimp only)); refine box_event ?hg (N := 9) ?hd (cs := #[.int .i64 0, .slice none 0 0]) (t := 34) ?hr ?_; (case hd => rfl); (case hg => rfl); (case hr => first | (go_simp; done) | (go_simp; rfl)); intro gb287 hg w139 hbox hb; replace HO_275000 := Aside0.mk (Kd.R_below (uR HO_275000) hb); replace HO_280001 := Aside0.mk (Kd.R_below (uR HO_280001) hb); replace HO286 := Aside0.mk (Kd.R_below (uR HO286) hb); have BK287 := Aside0.mk (hbox); have GW287 := Aside0.mk ((by rw [hg]; exact (below_size (uB4 HB GE266 GE267 GE274 GE279)) : w.heap.size ≤ gb287)); have GE287 := Aside0.mk ((by rw [hg]; exact (below_size (uB4 HB GE266 GE267 GE274 GE279)) : w.heap.size ≤ gb287)); replace HB := Aside0.mk (below_step (uB4 HB GE266 GE267 GE274 GE279) hb); have NB266_287 := Aside0.mk ((by rw [hg]; exact Nat.ne_of_lt (blk_lt (g := gb266) (o := .cells #[.int .i64 a1_0, .slice A1_1 l1_1.length c1_1] 25 (0, 0)) (uK BK266)) : gb266 ≠ gb287)); have NB287_266 := Aside0.mk ((by rw [hg]; exact Nat.ne_of_gt (blk_lt (g := gb266) (o := .cells #[.int .i64 a1_0, .slice A1_1 l1_1.length c1_1] 25 (0, 0)) (uK BK266)) : gb287 ≠ gb266)); replace BK266 := uD BK266 hb; have NB267_287 := Aside0.mk ((by rw [hg]; exact Nat.ne_of_lt (blk_lt (g := gb267) (o := .cells #[.int .i64 a2_0, .int .i64 a2_1, .int .i64 a2_2, .slice A2_3 l2_3.length c2_3] 28 (0, 0)) (uK BK267)) : gb267 ≠ gb287)); have NB287_267 := Aside0.mk ((by rw [hg]; exact Nat.ne_of_gt (blk_lt (g := gb267) (o := .cells #[.int .i64 a2_0, .int .i64 a2_1, .int .i64 a2_2, .slice A2_3 l2_3.length c2_3] 28 (0, 0)) (uK BK267)) : gb287 ≠ gb267)); replace BK267 := uD BK267 hb; have NB274_287 := Aside0.mk ((by rw [hg]; exact Nat.ne_of_lt (blk_lt (g := gb274) (o := .cells #[.slice Ao12 y271.length co12] 31 (0, 0)) (uK BK274)) : gb274 ≠ gb287)); have NB287_274 := Aside0.mk ((by rw [hg]; exact Nat.ne_of_gt (blk_lt (g := gb274) (o := .cells #[.slice Ao12 y271.length co12] 31 (0, 0)) (uK BK274)) : gb287 ≠ gb274)); replace BK274 := uD BK274 hb; have NB279_287 := Aside0.mk ((by rw [hg]; exact Nat.ne_of_lt (blk_lt (g := gb279) (o := .cells #[.int .i64 t275, .slice Ao25 t276.length co25] 34 (0, 0)) (uK BK279)) : gb279 ≠ gb287)); have NB287_279 := Aside0.mk ((by rw [hg]; exact Nat.ne_of_gt (blk_lt (g := gb279) (o := .cells #[.int .i64 t275, .slice Ao25 t276.length co25] 34 (0, 0)) (uK BK279)) : gb287 ≠ gb279)); replace BK279 := uD BK279 hb; clear hb hbox hg; have hnb140 := NB287_266.out; have hnc140 := NB266_287.out; have hnb141 := NB287_267.out; have hnc141 := NB267_287.out; have hnb142 := NB287_274.out; have hnc142 := NB274_287.out; have hnb143 := NB287_279.out; have hnc143 := NB279_287.out; have hcz144_0 : w139.cell? ⟨gb287, 0, none⟩ = some (.int .i64 0) := uF BK287 0; have hcz144_1 : w139.cell? ⟨gb287, 1, none⟩ = some (.slice none 0 0) := uF BK287 1; have hfz144_0 := blk_frozen BK287.out 0; have hfz144_1 := blk_frozen BK287.out 1; obtain ⟨Ao145, co145, eo145⟩ := Kd.R_slice HO286.out; subst eo145))
        have n0_ : Aside0 (Kd.R (Kd.int .u8) 5 ((w139.setCell ⟨gb287, 0, none⟩ (.int .i64 t283)).setCell ⟨gb287, 1, none⟩ (.slice Ao145 t284.length co145)) w.heap.size (fun _ => True) (.slice Ao12 y271.length co12) y271) := ⟨by (with_reducible repeat (first | apply Kd.R_alloc | apply Kd.R_drewN | apply Kd.R_drew)); exact Kd.R_mono (Kd.R_far (p := ⟨gb287, 1, none⟩) (Kd.R_far (p := ⟨gb287, 0, none⟩) (Kd.R_types HO_275000.out BK287.out (by decide)) (fun _ hk => hk.2) (.int .i64 t283)) (fun _ hk => hk.2) (.slice Ao145 t284.length co145)) (fun _ hk => trivial)⟩
        have n1_ : Aside0 (Kd.R k58 58 ((w139.setCell ⟨gb287, 0, none⟩ (.int .i64 t283)).setCell ⟨gb287, 1, none⟩ (.slice Ao145 t284.length co145)) w.heap.size (fun k_ => some k_ ≠ (.slice Ao145 t284.length co145 : Value).ownBlock) (.slice Ao25 t276.length co25) t276) := ⟨by (with_reducible repeat (first | apply Kd.R_alloc | apply Kd.R_drewN | apply Kd.R_drew)); exact Kd.R_mono (Kd.R_far (p := ⟨gb287, 1, none⟩) (Kd.R_far (p := ⟨gb287, 0, none⟩) (Kd.R_types HO_280001.out BK287.out (by decide)) (fun _ hk => hk.2) (.int .i64 t283)) (fun _ hk => hk.2) (.slice Ao145 t284.length co145)) (fun _ hk => hk.1.2)⟩
        have n2_ : Aside0 (Kd.R k58 58 ((w139.setCell ⟨gb287, 0, none⟩ (.int .i64 t283)).setCell ⟨gb287, 1, none⟩ (.slice Ao145 t284.length co145)) w.heap.size (fun k_ => some k_ ≠ (.slice Ao25 t276.length co25 : Value).ownBlock) (.slice Ao145 t284.length co145) t284) := ⟨by (with_reducible repeat (first | apply Kd.R_alloc | apply Kd.R_drewN | apply Kd.R_drew)); exact Kd.R_mono (Kd.R_far (p := ⟨gb287, 1, none⟩) (Kd.R_far (p := ⟨gb287, 0, none⟩) (Kd.R_types HO286.out BK287.out (by decide)) (fun _ hk => hk.2) (.int .i64 t283)) (fun _ hk => hk.2) (.slice Ao145 t284.length co145)) (fun _ hk => hk.1.2)⟩
        have n3_ : Aside0 (((w139.setCell ⟨gb287, 0, none⟩ (.int .i64 t283)).setCell ⟨gb287, 1, none⟩ (.slice Ao145 t284.length co145)).heap[gb266]? = some (.cells #[.int .i64 a1_0, .slice A1_1 l1_1.length c1_1] 25 (0, 0))) := ⟨by (with_reducible repeat (first | refine blk_drewN ?_ _ | refine blk_drew ?_ | refine blk_alloc ?_ _)); refine blk_far ?_ NB266_287.out _; (with_reducible repeat (first | refine blk_drewN ?_ _ | refine blk_drew ?_ | refine blk_alloc ?_ _)); refine blk_far ?_ NB266_287.out _; (with_reducible repeat (first | refine blk_drewN ?_ _ | refine blk_drew ?_ | refine blk_alloc ?_ _)); exact BK266.out⟩
        have n4_ : Aside0 (((w139.setCell ⟨gb287, 0, none⟩ (.int .i64 t283)).setCell ⟨gb287, 1, none⟩ (.slice Ao145 t284.length co145)).heap[gb267]? = some (.cells #[.int .i64 a2_0, .int .i64 a2_1, .int .i64 a2_2, .slice A2_3 l2_3.length c2_3] 28 (0, 0))) := ⟨by (with_reducible repeat (first | refine blk_drewN ?_ _ | refine blk_drew ?_ | refine blk_alloc ?_ _)); refine blk_far ?_ NB267_287.out _; (with_reducible repeat (first | refine blk_drewN ?_ _ | refine blk_drew ?_ | refine blk_alloc ?_ _)); refine blk_far ?_ NB267_287.out _; (with_reducible repeat (first | refine blk_drewN ?_ _ | refine blk_drew ?_ | refine blk_alloc ?_ _)); exact BK267.out⟩
        have n5_ : Aside0 (((w139.setCell ⟨gb287, 0, none⟩ (.int .i64 t283)).setCell ⟨gb287, 1, none⟩ (.slice Ao145 t284.length co145)).heap[gb274]? = some (.cells #[.slice Ao12 y271.length co12] 31 (0, 0))) := ⟨by (with_reducible repeat (first | refine blk_drewN ?_ _ | refine blk_drew ?_ | refine blk_alloc ?_ _)); refine blk_far ?_ NB274_287.out _; (with_reducible repeat (first | refine blk_drewN ?_ _ | refine blk_drew ?_ | refine blk_alloc ?_ _)); refine blk_far ?_ NB274_287.out _; (with_reducible repeat (first | refine blk_drewN ?_ _ | refine blk_drew ?_ | refine blk_alloc ?_ _)); exact BK274.out⟩
        have n6_ : Aside0 (((w139.setCell ⟨gb287, 0, none⟩ (.int .i64 t283)).setCell ⟨gb287, 1, none⟩ (.slice Ao145 t284.length co145)).heap[gb279]? = some (.cells #[.int .i64 t275, .slice Ao25 t276.length co25] 34 (0, 0))) := ⟨by (with_reducible repeat (first | refine blk_drewN ?_ _ | refine blk_drew ?_ | refine blk_alloc ?_ _)); refine blk_far ?_ NB279_287.out _; (with_reducible repeat (first | refine blk_drewN ?_ _ | refine blk_drew ?_ | refine blk_alloc ?_ _)); refine blk_far ?_ NB279_287.out _; (with_reducible repeat (first | refine blk_drewN ?_ _ | refine blk_drew ?_ | refine blk_alloc ?_ _)); exact BK279.out⟩
        have n7_ : Aside0 (((w139.setCell ⟨gb287, 0, none⟩ (.int .i64 t283)).setCell ⟨gb287, 1, none⟩ (.slice Ao145 t284.length co145)).heap[gb287]? = some (.cells #[.int .i64 t283, .slice Ao145 t284.length co145] 34 (0, 0))) := ⟨by (with_reducible repeat (first | refine blk_drewN ?_ _ | refine blk_drew ?_ | refine blk_alloc ?_ _)); refine blk_put (cs := #[.int .i64 t283, .slice none 0 0]) ?_ 1 _ rfl; (with_reducible repeat (first | refine blk_drewN ?_ _ | refine blk_drew ?_ | refine blk_alloc ?_ _)); refine blk_put (cs := #[.int .i64 0, .slice none 0 0]) ?_ 0 _ rfl; (with_reducible repeat (first | refine blk_drewN ?_ _ | refine blk_drew ?_ | refine blk_alloc ?_ _)); exact BK287.out⟩
        have n8_ : Aside0 (Below w.heap.size w ((w139.setCell ⟨gb287, 0, none⟩ (.int .i64 t283)).setCell ⟨gb287, 1, none⟩ (.slice Ao145 t284.length co145))) := ⟨uB5 HB GE266 GE267 GE274 GE279 GE287⟩
        (try clear HO_275000)
        (try clear HO_280001)
        (try clear HO286)
        (try clear BK266)
        (try clear BK267)
        (try clear BK274)
        (try clear BK279)
        (try clear BK287)
        (try clear HB)
        generalize ((w139.setCell ⟨gb287, 0, none⟩ (.int .i64 t283)).setCell ⟨gb287, 1, none⟩ (.slice Ao145 t284.length co145)) = w146 at n0_ n1_ n2_ n3_ n4_ n5_ n6_ n7_ n8_ ⊢
        have HO_275000 := n0_
        have HO_280001 := n1_
        have HO286 := n2_
        have BK266 := n3_
        have BK267 := n4_
        have BK274 := n5_
        have BK279 := n6_
        have BK287 := n7_
        have HB := n8_
        clear n0_ n1_ n2_ n3_ n4_ n5_ n6_ n7_ n8_
        replace HO_275000 := Aside0.mk (Kd.R_drew HO_275000.out)
        replace HO_280001 := Aside0.mk (Kd.R_drew HO_280001.out)
        replace HO286 := Aside0.mk (Kd.R_drew HO286.out)
        replace BK266 := Aside0.mk (blk_drew BK266.out)
        replace BK267 := Aside0.mk (blk_drew BK267.out)
        replace BK274 := Aside0.mk (blk_drew BK274.out)
        replace BK279 := Aside0.mk (blk_drew BK279.out)
        replace BK287 := Aside0.mk (blk_drew BK287.out)
        replace HB := Aside0.mk (below_drew1 HB.out)
        refine start_ (n := 33) (S := fun w' => w'.cell? ⟨gb274, 0, none⟩ = some (.slice Ao12 y271.length co12) ∧ w'.cell? ⟨gb287, 0, none⟩ = some (.int .i64 t283) ∧ w'.cell? ⟨gb287, 1, none⟩ = some (.slice Ao145 t284.length co145) ∧ w'.cell? ⟨gb279, 0, none⟩ = some (.int .i64 t275) ∧ w'.cell? ⟨gb279, 1, none⟩ = some (.slice Ao25 t276.length co25) ∧ w'.cell? ⟨gb267, 0, none⟩ = some (.int .i64 a2_0) ∧ w'.cell? ⟨gb267, 1, none⟩ = some (.int .i64 a2_1) ∧ w'.cell? ⟨gb267, 2, none⟩ = some (.int .i64 a2_2) ∧ w'.cell? ⟨gb267, 3, none⟩ = some (.slice A2_3 l2_3.length c2_3)) (ds := []) u_f33 (by kernel_rfl) rfl rfl ⟨uF BK274 0, uF BK287 0, uF BK287 1, uF BK279 0, uF BK279 1, uF BK267 0, uF BK267 1, uF BK267 2, uF BK267 3⟩ (fun hHeld => ?_); refine with_tabW colloquylaw20_MonRises.tab6 colloquylaw20_MonRises.bits6 (fun HT_ HW_ => ?_)
        generalize w146.drew = w147 at HO_275000 HO_280001 HO286 BK266 BK267 BK274 BK279 BK287 HB hHeld ⊢
        refine take_ (i := 0) (N := some 74) (v := ?_) (a' := ?_) u_t1f32 rfl rfl (take_ofW HT_.out HW_.out (by kernel_rfl)) (fun _ _ _ h => h) (Or.inl ⟨by rfl, ?_⟩) hHeld ?_ ?_
        rotate_left
        ·rintro w' ⟨s0, s1, s2, s3, s4, s5, s6, s7, s8⟩
         go_simp
         with_reducible rfl
        rotate_left
        ·exact uP
        refine take_ (i := 1) (N := some 75) (v := ?_) (a' := ?_) u_t2f31 rfl rfl (take_ofW HT_.out HW_.out (by kernel_rfl)) (fun _ _ _ h => h) (Or.inl ⟨by rfl, ?_⟩) hHeld ?_ ?_
        rotate_left
        ·rintro w' ⟨s0, s1, s2, s3, s4, s5, s6, s7, s8⟩
         go_simp
         with_reducible rfl
        rotate_left
        ·exact uP
        refine one_ (i := 2) (N := some 76) u_t3f30 rfl rfl (one_of HT_.out (by kernel_rfl)) (by decide) (fun K hK => ?_)
        refine goes_ Tryd.func10 (by kernel_rfl) rfl #[.agg #[.slice Ao12 y271.length co12], .agg #[.int .i64 t283, .slice Ao145 t284.length co145]] (by rfl) rfl rfl uC ?_
        with_reducible refine (mon_Check.calls kj5 _ _ y271 t283 _ _ t284 none _ ?side1 ?side2 ?side3 ?side4 A118.out).mono ?_
        (case side1 => exact uS (Kd.R_reads' HO_275000.out).2.2)
        (case side2 => exact (Kd.R_reads' HO_275000.out).2.1)
        (case side3 => exact uS (Kd.R_reads' HO286.out).2.2)
        (case side4 => exact (Kd.R_reads' HO286.out).2.1)
        rintro e w148 ⟨rfl, hb⟩
        refine ⟨_, rfl, ?_⟩
        replace HO_275000 := Aside0.mk (Kd.R_below (uR HO_275000) hb)
        replace HO_280001 := Aside0.mk (Kd.R_below (uR HO_280001) hb)
        replace HO286 := Aside0.mk (Kd.R_below (uR HO286) hb)
        replace BK266 := uD BK266 hb
        replace BK267 := uD BK267 hb
        replace BK274 := uD BK274 hb
        replace BK279 := uD BK279 hb
        replace BK287 := uD BK287 hb
        replace HB := Aside0.mk (below_step (uB5 HB GE266 GE267 GE274 GE279 GE287) hb)
        (try clear hb)
        (try clear hb2)
        (try clear hk)
        (try clear hi)
        (try simp only [errW_none, errW_some])
        refine hK.out _ _ ⟨uF BK274 0, uF BK287 0, uF BK287 1, uF BK279 0, uF BK279 1, uF BK267 0, uF BK267 1, uF BK267 2, uF BK267 3⟩ (fun hHeld => ?_)
        clear hK K
        refine norm_ (a' := ?_) ?_ ?_
        rotate_left
        ·show Act.put _ (some 76) _ = _
         exact uP
        refine pure_ (i := 3) (N := some 77) (v := ?_) (a' := ?_) u_t4f29 rfl rfl (any_of HT_.out (by kernel_rfl)) (fun _ _ _ h => h) (Or.inl ⟨by rfl, ?_⟩) ?_ ?_
        rotate_left
        ·intro w'
         go_simp
         with_reducible rfl
        rotate_left
        ·exact uP
        refine pure_ (i := 4) (N := some 78) (v := ?_) (a' := ?_) u_t5f28 rfl rfl (any_of HT_.out (by kernel_rfl)) (fun _ _ _ h => h) (Or.inl ⟨by rfl, ?_⟩) ?_ ?_
        rotate_left
        ·intro w'
         go_simp
         with_reducible rfl
        rotate_left
        ·exact uP
        refine take_ (i := 5) (N := some 79) (v := ?_) (a' := ?_) u_t6f27 rfl rfl (take_ofW HT_.out HW_.out (by kernel_rfl)) (fun _ _ _ h => h) (Or.inl ⟨by rfl, ?_⟩) hHeld ?_ ?_
        rotate_left
        ·rintro w' ⟨s0, s1, s2, s3, s4, s5, s6, s7, s8⟩
         go_simp
         with_reducible rfl
        rotate_left
        ·exact uP
        refine take_ (i := 6) (N := some 80) (v := ?_) (a' := ?_) u_t7f26 rfl rfl (take_ofW HT_.out HW_.out (by kernel_rfl)) (fun _ _ _ h => h) (Or.inl ⟨by rfl, ?_⟩) hHeld ?_ ?_
        rotate_left
        ·rintro w' ⟨s0, s1, s2, s3, s4, s5, s6, s7, s8⟩
         go_simp
         with_reducible rfl
        rotate_left
        ·exact uP
        refine take_ (i := 8) (N := some 82) (v := ?_) (a' := ?_) u_t7f1t1f24 rfl rfl (take_ofW HT_.out HW_.out (by kernel_rfl)) (fun _ _ _ h => h) (Or.inl ⟨by rfl, ?_⟩) hHeld ?_ ?_
        rotate_left
        ·rintro w' ⟨s0, s1, s2, s3, s4, s5, s6, s7, s8⟩
         go_simp
         with_reducible rfl
        rotate_left
        ·exact uP
        refine one_ (i := 7) (N := some 81) u_t9f24 rfl rfl (one_of HT_.out (by kernel_rfl)) (by decide) (fun K hK => ?_)
        refine goes_ Tryd.func12 (by kernel_rfl) rfl #[.agg #[.int .i64 t275, .slice Ao25 t276.length co25]] (by rfl) rfl rfl uC ?_
        with_reducible refine (mon_Mon_Pc.calls t275 _ _ t276 t290 _ ?side1 ?side2 A119.out).mono ?_
        (case side1 => exact uS (Kd.R_reads' HO_280001.out).2.2)
        (case side2 => exact (Kd.R_reads' HO_280001.out).2.1)
        rintro e w149 ⟨rfl, hb⟩
        refine ⟨_, rfl, ?_⟩
        replace HO_275000 := Aside0.mk (Kd.R_below (uR HO_275000) hb)
        replace HO_280001 := Aside0.mk (Kd.R_below (uR HO_280001) hb)
        replace HO286 := Aside0.mk (Kd.R_below (uR HO286) hb)
        replace BK266 := uD BK266 hb
        replace BK267 := uD BK267 hb
        replace BK274 := uD BK274 hb
        replace BK279 := uD BK279 hb
        replace BK287 := uD BK287 hb
        replace HB := Aside0.mk (below_step (uB5 HB GE266 GE267 GE274 GE279 GE287) hb)
        (try clear hb)
        (try clear hb2)
        (try clear hk)
        (try clear hi)
        refine hK.out _ _ ⟨uF BK274 0, uF BK287 0, uF BK287 1, uF BK279 0, uF BK279 1, uF BK267 0, uF BK267 1, uF BK267 2, uF BK267 3⟩ (fun hHeld => ?_)
        clear hK K
        refine norm_ (a' := ?_) ?_ ?_
        rotate_left
        ·show Act.put _ (some 81) _ = _
         exact uP
        refine one_ (i := 9) (N := some 83) u_t10f23 rfl rfl (one_of HT_.out (by kernel_rfl)) (by decide) (fun K hK => ?_)
        refine goes_ Tryd.func12 (by kernel_rfl) rfl #[.agg #[.int .i64 t283, .slice Ao145 t284.length co145]] (by rfl) rfl rfl uC ?_
        with_reducible refine (mon_Mon_Pc.calls t283 _ _ t284 t291 _ ?side1 ?side2 A120.out).mono ?_
        (case side1 => exact uS (Kd.R_reads' HO286.out).2.2)
        (case side2 => exact (Kd.R_reads' HO286.out).2.1)
        rintro e w150 ⟨rfl, hb⟩
        refine ⟨_, rfl, ?_⟩
        replace HO_275000 := Aside0.mk (Kd.R_below (uR HO_275000) hb)
        replace HO_280001 := Aside0.mk (Kd.R_below (uR HO_280001) hb)
        replace HO286 := Aside0.mk (Kd.R_below (uR HO286) hb)
        replace BK266 := uD BK266 hb
        replace BK267 := uD BK267 hb
        replace BK274 := uD BK274 hb
        replace BK279 := uD BK279 hb
        replace BK287 := uD BK287 hb
        replace HB := Aside0.mk (below_step (uB5 HB GE266 GE267 GE274 GE279 GE287) hb)
        (try clear hb)
        (try clear hb2)
        (try clear hk)
        (try clear hi)
        refine hK.out _ _ ⟨uF BK274 0, uF BK287 0, uF BK287 1, uF BK279 0, uF BK279 1, uF BK267 0, uF BK267 1, uF BK267 2, uF BK267 3⟩ (fun hHeld => ?_)
        clear hK K
        refine norm_ (a' := ?_) ?_ ?_
        rotate_left
        ·show Act.put _ (some 83) _ = _
         exact uP
        refine one_ (i := 10) (N := some 84) u_t11f22 rfl rfl (one_of HT_.out (by kernel_rfl)) (by decide) (fun K hK => ?_)
        refine goes_ Tryd.func25 (by kernel_rfl) rfl #[.agg #[.slice Ao12 y271.length co12], .int .i64 t290, .int .i64 t291] (by rfl) rfl rfl uC ?_
        with_reducible refine (lattice_Lat_Leq.calls kj5 _ _ y271 t290 t291 true _ ?side1 ?side2 A121.out).mono ?_
        (case side1 => exact uS (Kd.R_reads' HO_275000.out).2.2)
        (case side2 => exact (Kd.R_reads' HO_275000.out).2.1)
        rintro e w151 ⟨rfl, hb⟩
        refine ⟨_, rfl, ?_⟩
        replace HO_275000 := Aside0.mk (Kd.R_below (uR HO_275000) hb)
        replace HO_280001 := Aside0.mk (Kd.R_below (uR HO_280001) hb)
        replace HO286 := Aside0.mk (Kd.R_below (uR HO286) hb)
        replace BK266 := uD BK266 hb
        replace BK267 := uD BK267 hb
        replace BK274 := uD BK274 hb
        replace BK279 := uD BK279 hb
        replace BK287 := uD BK287 hb
        replace HB := Aside0.mk (below_step (uB5 HB GE266 GE267 GE274 GE279 GE287) hb)
        (try clear hb)
        (try clear hb2)
        (try clear hk)
        (try clear hi)
        refine hK.out _ _ ⟨uF BK274 0, uF BK287 0, uF BK287 1, uF BK279 0, uF BK279 1, uF BK267 0, uF BK267 1, uF BK267 2, uF BK267 3⟩ (fun hHeld => ?_)
        clear hK K
        refine norm_ (a' := ?_) ?_ ?_
        rotate_left
        ·show Act.put _ (some 84) _ = _
         exact uP
        refine pure_ (i := 11) (N := some 85) (v := ?_) (a' := ?_) u_t12f21 rfl rfl (any_of HT_.out (by kernel_rfl)) (fun _ _ _ h => h) (Or.inl ⟨by rfl, ?_⟩) ?_ ?_
        rotate_left
        ·intro w'
         go_simp
         with_reducible rfl
        rotate_left
        ·exact uP
        refine pure_ (i := 12) (N := some 86) (v := ?_) (a' := ?_) u_t13f20 rfl rfl (any_of HT_.out (by kernel_rfl)) (fun _ _ _ h => h) (Or.inl ⟨by rfl, ?_⟩) ?_ ?_
        rotate_left
        ·intro w'
         go_simp
         with_reducible rfl
        rotate_left
        ·exact uP
        refine pure_ (i := 13) (N := some 87) (v := ?_) (a' := ?_) u_t14f19 rfl rfl (any_of HT_.out (by kernel_rfl)) (fun _ _ _ h => h) (Or.inl ⟨by rfl, ?_⟩) ?_ ?_
        rotate_left
        ·intro w'
         go_simp
         with_reducible rfl
        rotate_left
        ·exact uP
        refine pure_ (i := 15) (N := some 89) (v := ?_) (a' := ?_) u_t14f1t1f17 rfl rfl (any_of HT_.out (by kernel_rfl)) (fun _ _ _ h => h) (Or.inl ⟨by rfl, ?_⟩) ?_ ?_
        rotate_left
        ·intro w'
         go_simp
         with_reducible rfl
        rotate_left
        ·exact uP
        refine take_ (i := 14) (N := some 88) (v := ?_) (a' := ?_) u_t16f17 rfl rfl (take_ofW HT_.out HW_.out (by kernel_rfl)) (fun _ _ _ h => h) (Or.inl ⟨by rfl, ?_⟩) hHeld ?_ ?_
        rotate_left
        ·rintro w' ⟨s0, s1, s2, s3, s4, s5, s6, s7, s8⟩
         go_simp
         with_reducible rfl
        rotate_left
        ·exact uP
        refine take_ (i := 16) (N := some 90) (v := ?_) (a' := ?_) u_t17f16 rfl rfl (take_ofW HT_.out HW_.out (by kernel_rfl)) (fun _ _ _ h => h) (Or.inl ⟨by rfl, ?_⟩) hHeld ?_ ?_
        rotate_left
        ·rintro w' ⟨s0, s1, s2, s3, s4, s5, s6, s7, s8⟩
         go_simp
         with_reducible rfl
        rotate_left
        ·exact uP
        refine take_ (i := 17) (N := some 91) (v := ?_) (a' := ?_) u_t18f15 rfl rfl (take_ofW HT_.out HW_.out (by kernel_rfl)) (fun _ _ _ h => h) (Or.inl ⟨by rfl, ?_⟩) hHeld ?_ ?_
        rotate_left
        ·rintro w' ⟨s0, s1, s2, s3, s4, s5, s6, s7, s8⟩
         go_simp
         with_reducible rfl
        rotate_left
        ·exact uP
        refine one_ (i := 18) (N := some 92) u_t19f14 rfl rfl (one_of HT_.out (by kernel_rfl)) (by decide) (fun K hK => ?_)
        refine goes_ Tryd.func12 (by kernel_rfl) rfl #[.agg #[.int .i64 t283, .slice Ao145 t284.length co145]] (by rfl) rfl rfl uC ?_
        with_reducible refine (mon_Mon_Pc.calls t283 _ _ t284 t293 _ ?side1 ?side2 A123.out).mono ?_
        (case side1 => exact uS (Kd.R_reads' HO286.out).2.2)
        (case side2 => exact (Kd.R_reads' HO286.out).2.1)
        rintro e w152 ⟨rfl, hb⟩
        refine ⟨_, rfl, ?_⟩
        replace HO_275000 := Aside0.mk (Kd.R_below (uR HO_275000) hb)
        replace HO_280001 := Aside0.mk (Kd.R_below (uR HO_280001) hb)
        replace HO286 := Aside0.mk (Kd.R_below (uR HO286) hb)
        replace BK266 := uD BK266 hb
        replace BK267 := uD BK267 hb
        replace BK274 := uD BK274 hb
        replace BK279 := uD BK279 hb
        replace BK287 := uD BK287 hb
        replace HB := Aside0.mk (below_step (uB5 HB GE266 GE267 GE274 GE279 GE287) hb)
        (try clear hb)
        (try clear hb2)
        (try clear hk)
        (try clear hi)
        refine hK.out _ _ ⟨uF BK274 0, uF BK287 0, uF BK287 1, uF BK279 0, uF BK279 1, uF BK267 0, uF BK267 1, uF BK267 2, uF BK267 3⟩ (fun hHeld => ?_)
        clear hK K
        refine norm_ (a' := ?_) ?_ ?_
        rotate_left
        ·show Act.put _ (some 92) _ = _
         exact uP
        refine one_ (i := 19) (N := some 93) u_t20f13 rfl rfl (one_of HT_.out (by kernel_rfl)) (by decide) (fun K hK => ?_)
        refine goes_ Tryd.func25 (by kernel_rfl) rfl #[.agg #[.slice Ao12 y271.length co12], .int .i64 a2_1, .int .i64 t293] (by rfl) rfl rfl uC ?_
        with_reducible refine (lattice_Lat_Leq.calls kj5 _ _ y271 a2_1 t293 true _ ?side1 ?side2 A124.out).mono ?_
        (case side1 => exact uS (Kd.R_reads' HO_275000.out).2.2)
        (case side2 => exact (Kd.R_reads' HO_275000.out).2.1)
        rintro e w153 ⟨rfl, hb⟩
        refine ⟨_, rfl, ?_⟩
        replace HO_275000 := Aside0.mk (Kd.R_below (uR HO_275000) hb)
        replace HO_280001 := Aside0.mk (Kd.R_below (uR HO_280001) hb)
        replace HO286 := Aside0.mk (Kd.R_below (uR HO286) hb)
        replace BK266 := uD BK266 hb
        replace BK267 := uD BK267 hb
        replace BK274 := uD BK274 hb
        replace BK279 := uD BK279 hb
        replace BK287 := uD BK287 hb
        replace HB := Aside0.mk (below_step (uB5 HB GE266 GE267 GE274 GE279 GE287) hb)
        (try clear hb)
        (try clear hb2)
        (try clear hk)
        (try clear hi)
        refine hK.out _ _ ⟨uF BK274 0, uF BK287 0, uF BK287 1, uF BK279 0, uF BK279 1, uF BK267 0, uF BK267 1, uF BK267 2, uF BK267 3⟩ (fun hHeld => ?_)
        clear hK K
        refine norm_ (a' := ?_) ?_ ?_
        rotate_left
        ·show Act.put _ (some 93) _ = _
         exact uP
        refine pure_ (i := 20) (N := some 94) (v := ?_) (a' := ?_) u_t21f12 rfl rfl (any_of HT_.out (by kernel_rfl)) (fun _ _ _ h => h) (Or.inl ⟨by rfl, ?_⟩) ?_ ?_
        rotate_left
        ·intro w'
         go_simp
         with_reducible rfl
        rotate_left
        ·exact uP
        refine pure_ (i := 21) (N := some 95) (v := ?_) (a' := ?_) u_t22f11 rfl rfl (any_of HT_.out (by kernel_rfl)) (fun _ _ _ h => h) (Or.inl ⟨by rfl, ?_⟩) ?_ ?_
        rotate_left
        ·intro w'
         go_simp
         with_reducible rfl
        rotate_left
        ·exact uP
        refine pure_ (i := 22) (N := some 96) (v := ?_) (a' := ?_) u_t23f10 rfl rfl (any_of HT_.out (by kernel_rfl)) (fun _ _ _ h => h) (Or.inl ⟨by rfl, ?_⟩) ?_ ?_
        rotate_left
        ·intro w'
         go_simp
         with_reducible rfl
        rotate_left
        ·exact uP
        refine pure_ (i := 25) (N := some 99) (v := ?_) (a' := ?_) u_t23f2t1f7 rfl rfl (any_of HT_.out (by kernel_rfl)) (fun _ _ _ h => h) (Or.inl ⟨by rfl, ?_⟩) ?_ ?_
        rotate_left
        ·intro w'
         go_simp
         with_reducible rfl
        rotate_left
        ·exact uP
        refine take_ (i := 23) (N := some 97) (v := ?_) (a' := ?_) u_t24f1t1f7 rfl rfl (take_ofW HT_.out HW_.out (by kernel_rfl)) (fun _ _ _ h => h) (Or.inl ⟨by rfl, ?_⟩) hHeld ?_ ?_
        rotate_left
        ·rintro w' ⟨s0, s1, s2, s3, s4, s5, s6, s7, s8⟩
         go_simp
         with_reducible rfl
        rotate_left
        ·exact uP
        refine take_ (i := 24) (N := some 98) (v := ?_) (a' := ?_) u_t26f7 rfl rfl (take_ofW HT_.out HW_.out (by kernel_rfl)) (fun _ _ _ h => h) (Or.inl ⟨by rfl, ?_⟩) hHeld ?_ ?_
        rotate_left
        ·rintro w' ⟨s0, s1, s2, s3, s4, s5, s6, s7, s8⟩
         go_simp
         with_reducible rfl
        rotate_left
        ·exact uP
        refine take_ (i := 26) (N := some 100) (v := ?_) (a' := ?_) u_t27f6 rfl rfl (take_ofW HT_.out HW_.out (by kernel_rfl)) (fun _ _ _ h => h) (Or.inl ⟨by rfl, ?_⟩) hHeld ?_ ?_
        rotate_left
        ·rintro w' ⟨s0, s1, s2, s3, s4, s5, s6, s7, s8⟩
         go_simp
         with_reducible rfl
        rotate_left
        ·exact uP
        refine take_ (i := 29) (N := some 103) (v := ?_) (a' := ?_) u_t27f2t1f3 rfl rfl (take_ofW HT_.out HW_.out (by kernel_rfl)) (fun _ _ _ h => h) (Or.inl ⟨by rfl, ?_⟩) hHeld ?_ ?_
        rotate_left
        ·rintro w' ⟨s0, s1, s2, s3, s4, s5, s6, s7, s8⟩
         go_simp
         with_reducible rfl
        rotate_left
        ·exact uP
        refine one_ (i := 27) (N := some 101) u_t28f1t1f3 rfl rfl (one_of HT_.out (by kernel_rfl)) (by decide) (fun K hK => ?_)
        refine Kd.R_lit_step (Kd.int .i64) _ 3 ?hg (N := 101) ?hd (xs := ([a2_1] : List Int)) (inner := [.int .i64 a2_1]) (ok := fun _ => True) (okp := fun _ => True) ?hr ?hp (fun _ hk => hk) trivial (Below.refl _ _) (Nat.le_refl _) (by simp) ?_; (case hd => rfl); (case hg => rfl); (case hr => first | (go_simp; done) | (go_simp; rfl)); (case hp => exact (Reps.one (show Kd.M (Kd.int .i64) _ _ _ a2_1 [.int .i64 a2_1] from rfl) (Reps.none _ _)))
        intro v296 w154 ho155 hb hg_ hnew_
        clear hg_ hnew_
        (first | rw [← Ny295.out] at ho155 | (simp only [Int.reduceToNat] at ho155; rw [← Ny295.out] at ho155))
        replace HO_275000 := Aside0.mk (Kd.R_below (uR HO_275000) hb)
        replace HO_280001 := Aside0.mk (Kd.R_below (uR HO_280001) hb)
        replace HO286 := Aside0.mk (Kd.R_below (uR HO286) hb)
        have HO297 := Aside0.mk (Kd.R_lower ho155 (below_size (uB5 HB GE266 GE267 GE274 GE279 GE287)))
        replace BK266 := uD BK266 hb
        replace BK267 := uD BK267 hb
        replace BK274 := uD BK274 hb
        replace BK279 := uD BK279 hb
        replace BK287 := uD BK287 hb
        replace HB := Aside0.mk (below_step (uB5 HB GE266 GE267 GE274 GE279 GE287) hb)
        clear hb ho155
        obtain ⟨Ao156, co156, eo156⟩ := Kd.R_slice HO297.out
        (first | subst eo156 | (injection eo156 with f1_ f2_ f3_; have f4_ := f1_.symm; have f5_ := f3_.symm; clear f1_ f2_ f3_; subst f4_; subst f5_))
        refine hK.out _ _ ⟨uF BK274 0, uF BK287 0, uF BK287 1, uF BK279 0, uF BK279 1, uF BK267 0, uF BK267 1, uF BK267 2, uF BK267 3⟩ (fun hHeld => ?_)
        clear hK K
        refine norm_ (a' := ?_) ?_ ?_
        rotate_left
        ·show Act.put _ (some 101) _ = _
         exact uP
        refine one_ (i := 28) (N := some 102) u_t30f3 rfl rfl (one_of HT_.out (by kernel_rfl)) (by decide) (fun K hK => ?_)
        refine goes_ Tryd.func14 (by kernel_rfl) rfl #[.agg #[.slice Ao12 y271.length co12], .agg #[.int .i64 t275, .slice Ao25 t276.length co25], .slice Ao156 y295.length co156] (by rfl) rfl rfl uC ?_
        with_reducible refine (mon_Raise.calls kj5 _ _ y271 t275 _ _ t276 _ _ y295 t298 _ ?side1 ?side2 ?side3 ?side4 ?side5 ?side6 A126.out).mono ?_
        (case side1 => exact uS (Kd.R_reads' HO_275000.out).2.2)
        (case side2 => exact (Kd.R_reads' HO_275000.out).2.1)
        (case side3 => exact uS (Kd.R_reads' HO_280001.out).2.2)
        (case side4 => exact (Kd.R_reads' HO_280001.out).2.1)
        (case side5 => exact uS (Kd.R_reads' HO297.out).2.2)
        (case side6 => exact (Kd.R_reads' HO297.out).2.1)
        rintro e w157 ⟨rfl, hb⟩
        refine ⟨_, rfl, ?_⟩
        replace HO_275000 := Aside0.mk (Kd.R_below (uR HO_275000) hb)
        replace HO_280001 := Aside0.mk (Kd.R_below (uR HO_280001) hb)
        replace HO286 := Aside0.mk (Kd.R_below (uR HO286) hb)
        replace HO297 := Aside0.mk (Kd.R_below (uR HO297) hb)
        replace BK266 := uD BK266 hb
        replace BK267 := uD BK267 hb
        replace BK274 := uD BK274 hb
        replace BK279 := uD BK279 hb
        replace BK287 := uD BK287 hb
        replace HB := Aside0.mk (below_step (uB5 HB GE266 GE267 GE274 GE279 GE287) hb)
        (try clear hb)
        (try clear hb2)
        (try clear hk)
        (try clear hi)
        refine hK.out _ _ ⟨uF BK274 0, uF BK287 0, uF BK287 1, uF BK279 0, uF BK279 1, uF BK267 0, uF BK267 1, uF BK267 2, uF BK267 3⟩ (fun hHeld => ?_)
        clear hK K
        refine norm_ (a' := ?_) ?_ ?_
        rotate_left
        ·show Act.put _ (some 102) _ = _
         exact uP
        refine one_ (i := 30) (N := some 104) u_t31f2 rfl rfl (one_of HT_.out (by kernel_rfl)) (by decide) (fun K hK => ?_)
        refine goes_ Tryd.func12 (by kernel_rfl) rfl #[.agg #[.int .i64 t283, .slice Ao145 t284.length co145]] (by rfl) rfl rfl uC ?_
        with_reducible refine (mon_Mon_Pc.calls t283 _ _ t284 t299 _ ?side1 ?side2 A127.out).mono ?_
        (case side1 => exact uS (Kd.R_reads' HO286.out).2.2)
        (case side2 => exact (Kd.R_reads' HO286.out).2.1)
        rintro e w158 ⟨rfl, hb⟩
        refine ⟨_, rfl, ?_⟩
        replace HO_275000 := Aside0.mk (Kd.R_below (uR HO_275000) hb)
        replace HO_280001 := Aside0.mk (Kd.R_below (uR HO_280001) hb)
        replace HO286 := Aside0.mk (Kd.R_below (uR HO286) hb)
        replace HO297 := Aside0.mk (Kd.R_below (uR HO297) hb)
        replace BK266 := uD BK266 hb
        replace BK267 := uD BK267 hb
        replace BK274 := uD BK274 hb
        replace BK279 := uD BK279 hb
        replace BK287 := uD BK287 hb
        replace HB := Aside0.mk (below_step (uB5 HB GE266 GE267 GE274 GE279 GE287) hb)
        (try clear hb)
        (try clear hb2)
        (try clear hk)
        (try clear hi)
        refine hK.out _ _ ⟨uF BK274 0, uF BK287 0, uF BK287 1, uF BK279 0, uF BK279 1, uF BK267 0, uF BK267 1, uF BK267 2, uF BK267 3⟩ (fun hHeld => ?_)
        clear hK K
        refine norm_ (a' := ?_) ?_ ?_
        rotate_left
        ·show Act.put _ (some 104) _ = _
         exact uP
        refine pure_ (i := 31) (N := some 105) (v := ?_) (a' := ?_) u_t32f1 rfl rfl (any_of HT_.out (by kernel_rfl)) (fun _ _ _ h => h) (Or.inl ⟨by rfl, ?_⟩) ?_ ?_
        rotate_left
        ·intro w'
         go_simp
         with_reducible rfl
        rotate_left
        ·exact uP
        refine pure_ (i := 32) (N := some 106) (v := ?_) (a' := ?_) u_t33 rfl rfl (any_of HT_.out (by kernel_rfl)) (fun _ _ _ h => h) (Or.inl ⟨by rfl, ?_⟩) ?_ ?_
        rotate_left
        ·intro w'
         go_simp
         with_reducible rfl
        rotate_left
        ·exact uP
        refine done_ (done_of HT_.out (by kernel_rfl)) ?_
        try go_wp2
        go_loopg [10] kj5 (fun kq v10 w' => ∃ (x10_2 : Int), v10 = .int .i64 x10_2 ∧ Aside0 (colloquylaw20_MonRises.l0 kq l0 x10_2 a2_0 a2_1 a2_2 l2_3 y271 t275 t276 t283 t284 = some r) ∧ Aside0 (kq ≤ kj5) ∧ Aside0 (Kd.R (Kd.int .u8) 5 w' w.heap.size (fun _ => True) (.slice Ao12 y271.length co12) y271) ∧ Aside0 (Kd.R k58 58 w' w.heap.size (fun k_ => some k_ ≠ ((.slice Ao145 t284.length co145) : Value).ownBlock) (.slice Ao25 t276.length co25) t276) ∧ Aside0 (Kd.R k58 58 w' w.heap.size (fun k_ => some k_ ≠ ((.slice Ao25 t276.length co25) : Value).ownBlock) (.slice Ao145 t284.length co145) t284) ∧ Aside0 (w'.heap[gb266]? = some (.cells #[.int .i64 a1_0, (.slice A1_1 l1_1.length c1_1)] 25 (0, 0))) ∧ Aside0 (w'.heap[gb267]? = some (.cells #[.int .i64 a2_0, .int .i64 a2_1, .int .i64 a2_2, (.slice A2_3 l2_3.length c2_3)] 28 (0, 0))) ∧ Aside0 (w'.heap[gb274]? = some (.cells #[(.slice Ao12 y271.length co12)] 31 (0, 0))) ∧ Aside0 (w'.heap[gb279]? = some (.cells #[.int .i64 t275, (.slice Ao25 t276.length co25)] 34 (0, 0))) ∧ Aside0 (w'.heap[gb287]? = some (.cells #[.int .i64 t283, (.slice Ao145 t284.length co145)] 34 (0, 0))) ∧ Aside0 (Below w.heap.size w w'))
        case atStart => exact ⟨(0), (by first | rfl | (simp; done) | (simp [*]; done)), H', ⟨Nat.le_refl _⟩, ⟨uR HO_275000⟩, ⟨uR HO_280001⟩, ⟨uR HO286⟩, ⟨uK BK266⟩, ⟨uK BK267⟩, ⟨uK BK274⟩, ⟨uK BK279⟩, ⟨uK BK287⟩, ⟨uB5 HB GE266 GE267 GE274 GE279 GE287⟩⟩
        case round =>
         clear H'
         try clear c1
         try clear c2
         try clear p2
         try clear c12
         try clear c14
         try clear c25
         obtain ⟨x10_2, rfl, HA, HK2, HO_275000, HO_280001, HO_288001, BK266, BK267, BK274, BK279, BK287, HB⟩ := hrel
         cases gk with
         | zero => exact absurd HA.out (by simp [colloquylaw20_MonRises.l0])
         | succ k2 =>
          have H := HA.out
          clear HA
          simp only [colloquylaw20_MonRises.l0] at H
          by_cases c159 : x10_2 < (l0.length : Int)
          ·rw [if_pos c159] at H
           have c159b0 : decide (x10_2 < (l0.length : Int)) = true := decide_eq_true c159
           clear c159
           replace H := Option.bind_eq_some_iff.mp H
           obtain ⟨t301, A1600, H⟩ := H
           replace H : ((mon_May.f k2 y271 t301 x10_2).bind fun t302 => (if t302.isNone = true then ((mon_Mon_Pc.f t275 t276).bind fun t304 => ((mon_May.f k2 y271 t304 x10_2).bind fun t305 => (if t305.isNone = true then ((mon_May.f k2 y271 a2_1 x10_2).bind fun t307 => (if t307.isNone = true then (if (true != true) = true then (none) else (colloquylaw20_MonRises.l0 k2 l0 (wrap64 (x10_2 + 1)) a2_0 a2_1 a2_2 l2_3 y271 t275 t276 t283 t284)) else (if (true != false) = true then (none) else (colloquylaw20_MonRises.l0 k2 l0 (wrap64 (x10_2 + 1)) a2_0 a2_1 a2_2 l2_3 y271 t275 t276 t283 t284)))) else (if (true != false) = true then (none) else (colloquylaw20_MonRises.l0 k2 l0 (wrap64 (x10_2 + 1)) a2_0 a2_1 a2_2 l2_3 y271 t275 t276 t283 t284))))) else ((mon_Mon_Pc.f t275 t276).bind fun t309 => ((mon_May.f k2 y271 t309 x10_2).bind fun t310 => (if t310.isNone = true then ((mon_May.f k2 y271 a2_1 x10_2).bind fun t312 => (if t312.isNone = true then (if (false != true) = true then (none) else (colloquylaw20_MonRises.l0 k2 l0 (wrap64 (x10_2 + 1)) a2_0 a2_1 a2_2 l2_3 y271 t275 t276 t283 t284)) else (if (false != false) = true then (none) else (colloquylaw20_MonRises.l0 k2 l0 (wrap64 (x10_2 + 1)) a2_0 a2_1 a2_2 l2_3 y271 t275 t276 t283 t284)))) else (if (false != false) = true then (none) else (colloquylaw20_MonRises.l0 k2 l0 (wrap64 (x10_2 + 1)) a2_0 a2_1 a2_2 l2_3 y271 t275 t276 t283 t284))))))) = some r := H
           have A160 := Aside0.mk A1600
           clear A1600
           replace H := Option.bind_eq_some_iff.mp H
           obtain ⟨t302, A1610, H⟩ := H
           replace H : (if t302.isNone = true then ((mon_Mon_Pc.f t275 t276).bind fun t304 => ((mon_May.f k2 y271 t304 x10_2).bind fun t305 => (if t305.isNone = true then ((mon_May.f k2 y271 a2_1 x10_2).bind fun t307 => (if t307.isNone = true then (if (true != true) = true then (none) else (colloquylaw20_MonRises.l0 k2 l0 (wrap64 (x10_2 + 1)) a2_0 a2_1 a2_2 l2_3 y271 t275 t276 t283 t284)) else (if (true != false) = true then (none) else (colloquylaw20_MonRises.l0 k2 l0 (wrap64 (x10_2 + 1)) a2_0 a2_1 a2_2 l2_3 y271 t275 t276 t283 t284)))) else (if (true != false) = true then (none) else (colloquylaw20_MonRises.l0 k2 l0 (wrap64 (x10_2 + 1)) a2_0 a2_1 a2_2 l2_3 y271 t275 t276 t283 t284))))) else ((mon_Mon_Pc.f t275 t276).bind fun t309 => ((mon_May.f k2 y271 t309 x10_2).bind fun t310 => (if t310.isNone = true then ((mon_May.f k2 y271 a2_1 x10_2).bind fun t312 => (if t312.isNone = true then (if (false != true) = true then (none) else (colloquylaw20_MonRises.l0 k2 l0 (wrap64 (x10_2 + 1)) a2_0 a2_1 a2_2 l2_3 y271 t275 t276 t283 t284)) else (if (false != false) = true then (none) else (colloquylaw20_MonRises.l0 k2 l0 (wrap64 (x10_2 + 1)) a2_0 a2_1 a2_2 l2_3 y271 t275 t276 t283 t284)))) else (if (false != false) = true then (none) else (colloquylaw20_MonRises.l0 k2 l0 (wrap64 (x10_2 + 1)) a2_0 a2_1 a2_2 l2_3 y271 t275 t276 t283 t284)))))) = some r := H
           have A161 := Aside0.mk A1610
           clear A1610
           rcases t302 with _ | q303
           ·have H1 : ((mon_Mon_Pc.f t275 t276).bind fun t304 => ((mon_May.f k2 y271 t304 x10_2).bind fun t305 => (if t305.isNone = true then ((mon_May.f k2 y271 a2_1 x10_2).bind fun t307 => (if t307.isNone = true then (if (true != true) = true then (none) else (colloquylaw20_MonRises.l0 k2 l0 (wrap64 (x10_2 + 1)) a2_0 a2_1 a2_2 l2_3 y271 t275 t276 t283 t284)) else (if (true != false) = true then (none) else (colloquylaw20_MonRises.l0 k2 l0 (wrap64 (x10_2 + 1)) a2_0 a2_1 a2_2 l2_3 y271 t275 t276 t283 t284)))) else (if (true != false) = true then (none) else (colloquylaw20_MonRises.l0 k2 l0 (wrap64 (x10_2 + 1)) a2_0 a2_1 a2_2 l2_3 y271 t275 t276 t283 t284))))) = some r := by rw [if_pos (show (none : Option Int).isNone = true by rfl)] at H; exact H
            clear H
            have H := H1
            clear H1
            try simp only [errW_none, errW_some]
            replace H := Option.bind_eq_some_iff.mp H
            obtain ⟨t304, A1620, H⟩ := H
            replace H : ((mon_May.f k2 y271 t304 x10_2).bind fun t305 => (if t305.isNone = true then ((mon_May.f k2 y271 a2_1 x10_2).bind fun t307 => (if t307.isNone = true then (if (true != true) = true then (none) else (colloquylaw20_MonRises.l0 k2 l0 (wrap64 (x10_2 + 1)) a2_0 a2_1 a2_2 l2_3 y271 t275 t276 t283 t284)) else (if (true != false) = true then (none) else (colloquylaw20_MonRises.l0 k2 l0 (wrap64 (x10_2 + 1)) a2_0 a2_1 a2_2 l2_3 y271 t275 t276 t283 t284)))) else (if (true != false) = true then (none) else (colloquylaw20_MonRises.l0 k2 l0 (wrap64 (x10_2 + 1)) a2_0 a2_1 a2_2 l2_3 y271 t275 t276 t283 t284)))) = some r := H
            have A162 := Aside0.mk A1620
            clear A1620
            replace H := Option.bind_eq_some_iff.mp H
            obtain ⟨t305, A1630, H⟩ := H
            replace H : (if t305.isNone = true then ((mon_May.f k2 y271 a2_1 x10_2).bind fun t307 => (if t307.isNone = true then (if (true != true) = true then (none) else (colloquylaw20_MonRises.l0 k2 l0 (wrap64 (x10_2 + 1)) a2_0 a2_1 a2_2 l2_3 y271 t275 t276 t283 t284)) else (if (true != false) = true then (none) else (colloquylaw20_MonRises.l0 k2 l0 (wrap64 (x10_2 + 1)) a2_0 a2_1 a2_2 l2_3 y271 t275 t276 t283 t284)))) else (if (true != false) = true then (none) else (colloquylaw20_MonRises.l0 k2 l0 (wrap64 (x10_2 + 1)) a2_0 a2_1 a2_2 l2_3 y271 t275 t276 t283 t284))) = some r := H
            have A163 := Aside0.mk A1630
            clear A1630
            rcases t305 with _ | q306
            ·have H1 : ((mon_May.f k2 y271 a2_1 x10_2).bind fun t307 => (if t307.isNone = true then (if (true != true) = true then (none) else (colloquylaw20_MonRises.l0 k2 l0 (wrap64 (x10_2 + 1)) a2_0 a2_1 a2_2 l2_3 y271 t275 t276 t283 t284)) else (if (true != false) = true then (none) else (colloquylaw20_MonRises.l0 k2 l0 (wrap64 (x10_2 + 1)) a2_0 a2_1 a2_2 l2_3 y271 t275 t276 t283 t284)))) = some r := by rw [if_pos (show (none : Option Int).isNone = true by rfl)] at H; exact H
             clear H
             have H := H1
             clear H1
             try simp only [errW_none, errW_some]
             replace H := Option.bind_eq_some_iff.mp H
             obtain ⟨t307, A1640, H⟩ := H
             replace H : (if t307.isNone = true then (if (true != true) = true then (none) else (colloquylaw20_MonRises.l0 k2 l0 (wrap64 (x10_2 + 1)) a2_0 a2_1 a2_2 l2_3 y271 t275 t276 t283 t284)) else (if (true != false) = true then (none) else (colloquylaw20_MonRises.l0 k2 l0 (wrap64 (x10_2 + 1)) a2_0 a2_1 a2_2 l2_3 y271 t275 t276 t283 t284))) = some r := H
             have A164 := Aside0.mk A1640
             clear A1640
             rcases t307 with _ | q308
             ·have H1 : (if (true != true) = true then (none) else (colloquylaw20_MonRises.l0 k2 l0 (wrap64 (x10_2 + 1)) a2_0 a2_1 a2_2 l2_3 y271 t275 t276 t283 t284)) = some r := by rw [if_pos (show (none : Option Int).isNone = true by rfl)] at H; exact H
              clear H
              have H := H1
              clear H1
              try simp only [errW_none, errW_some]
              by_cases c165 : (true != true) = true
              ·rw [if_pos c165] at H
               exact absurd H (by simp)
              rw [if_neg c165] at H
              have c165b0 : (true != true) = false := by simpa using c165
              (try (have c165b1 : decide (true = true) = true := by simpa using c165))
              (try (have c165b2 : (true == true) = true := by simpa using c165))
              clear c165
              have H' := Aside0.mk H
              clear H
              try go_wp2
              replace HO_275000 := Aside0.mk (Kd.R_drew HO_275000.out)
              replace HO_280001 := Aside0.mk (Kd.R_drew HO_280001.out)
              replace HO_288001 := Aside0.mk (Kd.R_drew HO_288001.out)
              replace BK266 := Aside0.mk (blk_drew BK266.out)
              replace BK267 := Aside0.mk (blk_drew BK267.out)
              replace BK274 := Aside0.mk (blk_drew BK274.out)
              replace BK279 := Aside0.mk (blk_drew BK279.out)
              replace BK287 := Aside0.mk (blk_drew BK287.out)
              replace HB := Aside0.mk (below_drew1 HB.out)
              refine start_ (n := 21) (S := fun w' => w'.cell? ⟨gb274, 0, none⟩ = some (.slice Ao12 y271.length co12) ∧ w'.cell? ⟨gb287, 0, none⟩ = some (.int .i64 t283) ∧ w'.cell? ⟨gb287, 1, none⟩ = some (.slice Ao145 t284.length co145) ∧ w'.cell? ⟨gb279, 0, none⟩ = some (.int .i64 t275) ∧ w'.cell? ⟨gb279, 1, none⟩ = some (.slice Ao25 t276.length co25) ∧ w'.cell? ⟨gb267, 0, none⟩ = some (.int .i64 a2_0) ∧ w'.cell? ⟨gb267, 1, none⟩ = some (.int .i64 a2_1) ∧ w'.cell? ⟨gb267, 2, none⟩ = some (.int .i64 a2_2) ∧ w'.cell? ⟨gb267, 3, none⟩ = some (.slice A2_3 l2_3.length c2_3)) (ds := []) u_f21 (by kernel_rfl) rfl rfl ⟨uF BK274 0, uF BK287 0, uF BK287 1, uF BK279 0, uF BK279 1, uF BK267 0, uF BK267 1, uF BK267 2, uF BK267 3⟩ (fun hHeld => ?_); refine with_tabW colloquylaw20_MonRises.tab11 colloquylaw20_MonRises.bits11 (fun HT_ HW_ => ?_)
              generalize wr.drew = w166 at HO_275000 HO_280001 HO_288001 BK266 BK267 BK274 BK279 BK287 HB hHeld ⊢
              refine pure_ (i := 3) (N := some 116) (v := ?_) (a' := ?_) u_f3t1f17 rfl rfl (any_of HT_.out (by kernel_rfl)) (fun _ _ _ h => h) (Or.inl ⟨by rfl, ?_⟩) ?_ ?_
              rotate_left
              ·intro w'
               go_simp
               with_reducible rfl
              rotate_left
              ·exact uP
              refine pure_ (i := 9) (N := some 122) (v := ?_) (a' := ?_) u_f3t1f5t1f11 rfl rfl (any_of HT_.out (by kernel_rfl)) (fun _ _ _ h => h) (Or.inl ⟨by rfl, ?_⟩) ?_ ?_
              rotate_left
              ·intro w'
               go_simp
               with_reducible rfl
              rotate_left
              ·exact uP
              refine take_ (i := 0) (N := some 113) (v := ?_) (a' := ?_) u_t1f2t1f5t1f11 rfl rfl (take_ofW HT_.out HW_.out (by kernel_rfl)) (fun _ _ _ h => h) (Or.inl ⟨by rfl, ?_⟩) hHeld ?_ ?_
              rotate_left
              ·rintro w' ⟨s0, s1, s2, s3, s4, s5, s6, s7, s8⟩
               go_simp
               with_reducible rfl
              rotate_left
              ·exact uP
              refine take_ (i := 1) (N := some 114) (v := ?_) (a' := ?_) u_t2f1t1f5t1f11 rfl rfl (take_ofW HT_.out HW_.out (by kernel_rfl)) (fun _ _ _ h => h) (Or.inl ⟨by rfl, ?_⟩) hHeld ?_ ?_
              rotate_left
              ·rintro w' ⟨s0, s1, s2, s3, s4, s5, s6, s7, s8⟩
               go_simp
               with_reducible rfl
              rotate_left
              ·exact uP
              refine take_ (i := 6) (N := some 119) (v := ?_) (a' := ?_) u_t2f1t1f2t1f2t1f11 rfl rfl (take_ofW HT_.out HW_.out (by kernel_rfl)) (fun _ _ _ h => h) (Or.inl ⟨by rfl, ?_⟩) hHeld ?_ ?_
              rotate_left
              ·rintro w' ⟨s0, s1, s2, s3, s4, s5, s6, s7, s8⟩
               go_simp
               with_reducible rfl
              rotate_left
              ·exact uP
              refine take_ (i := 7) (N := some 120) (v := ?_) (a' := ?_) u_t2f1t1f2t2f1t1f11 rfl rfl (take_ofW HT_.out HW_.out (by kernel_rfl)) (fun _ _ _ h => h) (Or.inl ⟨by rfl, ?_⟩) hHeld ?_ ?_
              rotate_left
              ·rintro w' ⟨s0, s1, s2, s3, s4, s5, s6, s7, s8⟩
               go_simp
               with_reducible rfl
              rotate_left
              ·exact uP
              refine one_ (i := 2) (N := some 115) u_t4f2t2f1t1f11 rfl rfl (one_of HT_.out (by kernel_rfl)) (by decide) (fun K hK => ?_)
              refine goes_ Tryd.func12 (by kernel_rfl) rfl #[.agg #[.int .i64 t283, .slice Ao145 t284.length co145]] (by rfl) rfl rfl uC ?_
              with_reducible refine (mon_Mon_Pc.calls t283 _ _ t284 t301 _ ?side1 ?side2 A160.out).mono ?_
              (case side1 => exact uS (Kd.R_reads' HO_288001.out).2.2)
              (case side2 => exact (Kd.R_reads' HO_288001.out).2.1)
              rintro e w167 ⟨rfl, hb⟩
              refine ⟨_, rfl, ?_⟩
              replace HO_275000 := Aside0.mk (Kd.R_below (uR HO_275000) hb)
              replace HO_280001 := Aside0.mk (Kd.R_below (uR HO_280001) hb)
              replace HO_288001 := Aside0.mk (Kd.R_below (uR HO_288001) hb)
              replace BK266 := uD BK266 hb
              replace BK267 := uD BK267 hb
              replace BK274 := uD BK274 hb
              replace BK279 := uD BK279 hb
              replace BK287 := uD BK287 hb
              replace HB := Aside0.mk (below_step (uB5 HB GE266 GE267 GE274 GE279 GE287) hb)
              (try clear hb)
              (try clear hb2)
              (try clear hk)
              (try clear hi)
              refine hK.out _ _ ⟨uF BK274 0, uF BK287 0, uF BK287 1, uF BK279 0, uF BK279 1, uF BK267 0, uF BK267 1, uF BK267 2, uF BK267 3⟩ (fun hHeld => ?_)
              clear hK K
              refine norm_ (a' := ?_) ?_ ?_
              rotate_left
              ·show Act.put _ (some 115) _ = _
               exact uP
              refine one_ (i := 4) (N := some 117) u_t5f1t2f1t1f11 rfl rfl (one_of HT_.out (by kernel_rfl)) (by decide) (fun K hK => ?_)
              refine goes_ Tryd.func23 (by kernel_rfl) rfl #[.agg #[.slice Ao12 y271.length co12], .int .i64 t301, .int .i64 x10_2] (by rfl) rfl rfl uC ?_
              with_reducible refine (mon_May.calls k2 _ _ y271 t301 x10_2 none _ ?side1 ?side2 A161.out).mono ?_
              (case side1 => exact uS (Kd.R_reads' HO_275000.out).2.2)
              (case side2 => exact (Kd.R_reads' HO_275000.out).2.1)
              rintro e w168 ⟨rfl, hb⟩
              refine ⟨_, rfl, ?_⟩
              replace HO_275000 := Aside0.mk (Kd.R_below (uR HO_275000) hb)
              replace HO_280001 := Aside0.mk (Kd.R_below (uR HO_280001) hb)
              replace HO_288001 := Aside0.mk (Kd.R_below (uR HO_288001) hb)
              replace BK266 := uD BK266 hb
              replace BK267 := uD BK267 hb
              replace BK274 := uD BK274 hb
              replace BK279 := uD BK279 hb
              replace BK287 := uD BK287 hb
              replace HB := Aside0.mk (below_step (uB5 HB GE266 GE267 GE274 GE279 GE287) hb)
              (try clear hb)
              (try clear hb2)
              (try clear hk)
              (try clear hi)
              (try simp only [errW_none, errW_some])
              refine hK.out _ _ ⟨uF BK274 0, uF BK287 0, uF BK287 1, uF BK279 0, uF BK279 1, uF BK267 0, uF BK267 1, uF BK267 2, uF BK267 3⟩ (fun hHeld => ?_)
              clear hK K
              refine norm_ (a' := ?_) ?_ ?_
              rotate_left
              ·show Act.put _ (some 117) _ = _
               exact uP
              refine pure_ (i := 5) (N := some 118) (v := ?_) (a' := ?_) u_t8f1t1f11 rfl rfl (any_of HT_.out (by kernel_rfl)) (fun _ _ _ h => h) (Or.inl ⟨by rfl, ?_⟩) ?_ ?_
              rotate_left
              ·intro w'
               go_simp
               with_reducible rfl
              rotate_left
              ·exact uP
              refine one_ (i := 8) (N := some 121) u_t10f11 rfl rfl (one_of HT_.out (by kernel_rfl)) (by decide) (fun K hK => ?_)
              refine goes_ Tryd.func12 (by kernel_rfl) rfl #[.agg #[.int .i64 t275, .slice Ao25 t276.length co25]] (by rfl) rfl rfl uC ?_
              with_reducible refine (mon_Mon_Pc.calls t275 _ _ t276 t304 _ ?side1 ?side2 A162.out).mono ?_
              (case side1 => exact uS (Kd.R_reads' HO_280001.out).2.2)
              (case side2 => exact (Kd.R_reads' HO_280001.out).2.1)
              rintro e w169 ⟨rfl, hb⟩
              refine ⟨_, rfl, ?_⟩
              replace HO_275000 := Aside0.mk (Kd.R_below (uR HO_275000) hb)
              replace HO_280001 := Aside0.mk (Kd.R_below (uR HO_280001) hb)
              replace HO_288001 := Aside0.mk (Kd.R_below (uR HO_288001) hb)
              replace BK266 := uD BK266 hb
              replace BK267 := uD BK267 hb
              replace BK274 := uD BK274 hb
              replace BK279 := uD BK279 hb
              replace BK287 := uD BK287 hb
              replace HB := Aside0.mk (below_step (uB5 HB GE266 GE267 GE274 GE279 GE287) hb)
              (try clear hb)
              (try clear hb2)
              (try clear hk)
              (try clear hi)
              refine hK.out _ _ ⟨uF BK274 0, uF BK287 0, uF BK287 1, uF BK279 0, uF BK279 1, uF BK267 0, uF BK267 1, uF BK267 2, uF BK267 3⟩ (fun hHeld => ?_)
              clear hK K
              refine norm_ (a' := ?_) ?_ ?_
              rotate_left
              ·show Act.put _ (some 121) _ = _
               exact uP
              refine one_ (i := 10) (N := some 123) u_t11f10 rfl rfl (one_of HT_.out (by kernel_rfl)) (by decide) (fun K hK => ?_)
              refine goes_ Tryd.func23 (by kernel_rfl) rfl #[.agg #[.slice Ao12 y271.length co12], .int .i64 t304, .int .i64 x10_2] (by rfl) rfl rfl uC ?_
              with_reducible refine (mon_May.calls k2 _ _ y271 t304 x10_2 none _ ?side1 ?side2 A163.out).mono ?_
              (case side1 => exact uS (Kd.R_reads' HO_275000.out).2.2)
              (case side2 => exact (Kd.R_reads' HO_275000.out).2.1)
              rintro e w170 ⟨rfl, hb⟩
              refine ⟨_, rfl, ?_⟩
              replace HO_275000 := Aside0.mk (Kd.R_below (uR HO_275000) hb)
              replace HO_280001 := Aside0.mk (Kd.R_below (uR HO_280001) hb)
              replace HO_288001 := Aside0.mk (Kd.R_below (uR HO_288001) hb)
              replace BK266 := uD BK266 hb
              replace BK267 := uD BK267 hb
              replace BK274 := uD BK274 hb
              replace BK279 := uD BK279 hb
              replace BK287 := uD BK287 hb
              replace HB := Aside0.mk (below_step (uB5 HB GE266 GE267 GE274 GE279 GE287) hb)
              (try clear hb)
              (try clear hb2)
              (try clear hk)
              (try clear hi)
              (try simp only [errW_none, errW_some])
              refine hK.out _ _ ⟨uF BK274 0, uF BK287 0, uF BK287 1, uF BK279 0, uF BK279 1, uF BK267 0, uF BK267 1, uF BK267 2, uF BK267 3⟩ (fun hHeld => ?_)
              clear hK K
              refine norm_ (a' := ?_) ?_ ?_
              rotate_left
              ·show Act.put _ (some 123) _ = _
               exact uP
              refine pure_ (i := 11) (N := some 124) (v := ?_) (a' := ?_) u_t12f9 rfl rfl (any_of HT_.out (by kernel_rfl)) (fun _ _ _ h => h) (Or.inl ⟨by rfl, ?_⟩) ?_ ?_
              rotate_left
              ·intro w'
               go_simp
               with_reducible rfl
              rotate_left
              ·exact uP
              refine pure_ (i := 12) (N := some 125) (v := ?_) (a' := ?_) u_t13f8 rfl rfl (any_of HT_.out (by kernel_rfl)) (fun _ _ _ h => h) (Or.inl ⟨by rfl, ?_⟩) ?_ ?_
              rotate_left
              ·intro w'
               go_simp
               with_reducible rfl
              rotate_left
              ·exact uP
              refine pure_ (i := 14) (N := some 127) (v := ?_) (a' := ?_) u_t13f1t1f6 rfl rfl (any_of HT_.out (by kernel_rfl)) (fun _ _ _ h => h) (Or.inl ⟨by rfl, ?_⟩) ?_ ?_
              rotate_left
              ·intro w'
               go_simp
               with_reducible rfl
              rotate_left
              ·exact uP
              refine pure_ (i := 16) (N := some 129) (v := ?_) (a' := ?_) u_t13f1t1f1t1f4 rfl rfl (any_of HT_.out (by kernel_rfl)) (fun _ _ _ h => h) (Or.inl ⟨by rfl, ?_⟩) ?_ ?_
              rotate_left
              ·intro w'
               go_simp
               with_reducible rfl
              rotate_left
              ·exact uP
              refine take_ (i := 13) (N := some 126) (v := ?_) (a' := ?_) u_t15f1t1f4 rfl rfl (take_ofW HT_.out HW_.out (by kernel_rfl)) (fun _ _ _ h => h) (Or.inl ⟨by rfl, ?_⟩) hHeld ?_ ?_
              rotate_left
              ·rintro w' ⟨s0, s1, s2, s3, s4, s5, s6, s7, s8⟩
               go_simp
               with_reducible rfl
              rotate_left
              ·exact uP
              refine take_ (i := 15) (N := some 128) (v := ?_) (a' := ?_) u_t17f4 rfl rfl (take_ofW HT_.out HW_.out (by kernel_rfl)) (fun _ _ _ h => h) (Or.inl ⟨by rfl, ?_⟩) hHeld ?_ ?_
              rotate_left
              ·rintro w' ⟨s0, s1, s2, s3, s4, s5, s6, s7, s8⟩
               go_simp
               with_reducible rfl
              rotate_left
              ·exact uP
              refine one_ (i := 17) (N := some 130) u_t18f3 rfl rfl (one_of HT_.out (by kernel_rfl)) (by decide) (fun K hK => ?_)
              refine goes_ Tryd.func23 (by kernel_rfl) rfl #[.agg #[.slice Ao12 y271.length co12], .int .i64 a2_1, .int .i64 x10_2] (by rfl) rfl rfl uC ?_
              with_reducible refine (mon_May.calls k2 _ _ y271 a2_1 x10_2 none _ ?side1 ?side2 A164.out).mono ?_
              (case side1 => exact uS (Kd.R_reads' HO_275000.out).2.2)
              (case side2 => exact (Kd.R_reads' HO_275000.out).2.1)
              rintro e w171 ⟨rfl, hb⟩
              refine ⟨_, rfl, ?_⟩
              replace HO_275000 := Aside0.mk (Kd.R_below (uR HO_275000) hb)
              replace HO_280001 := Aside0.mk (Kd.R_below (uR HO_280001) hb)
              replace HO_288001 := Aside0.mk (Kd.R_below (uR HO_288001) hb)
              replace BK266 := uD BK266 hb
              replace BK267 := uD BK267 hb
              replace BK274 := uD BK274 hb
              replace BK279 := uD BK279 hb
              replace BK287 := uD BK287 hb
              replace HB := Aside0.mk (below_step (uB5 HB GE266 GE267 GE274 GE279 GE287) hb)
              (try clear hb)
              (try clear hb2)
              (try clear hk)
              (try clear hi)
              (try simp only [errW_none, errW_some])
              refine hK.out _ _ ⟨uF BK274 0, uF BK287 0, uF BK287 1, uF BK279 0, uF BK279 1, uF BK267 0, uF BK267 1, uF BK267 2, uF BK267 3⟩ (fun hHeld => ?_)
              clear hK K
              refine norm_ (a' := ?_) ?_ ?_
              rotate_left
              ·show Act.put _ (some 130) _ = _
               exact uP
              refine pure_ (i := 18) (N := some 131) (v := ?_) (a' := ?_) u_t19f2 rfl rfl (any_of HT_.out (by kernel_rfl)) (fun _ _ _ h => h) (Or.inl ⟨by rfl, ?_⟩) ?_ ?_
              rotate_left
              ·intro w'
               go_simp
               with_reducible rfl
              rotate_left
              ·exact uP
              refine pure_ (i := 19) (N := some 132) (v := ?_) (a' := ?_) u_t20f1 rfl rfl (any_of HT_.out (by kernel_rfl)) (fun _ _ _ h => h) (Or.inl ⟨by rfl, ?_⟩) ?_ ?_
              rotate_left
              ·intro w'
               go_simp
               with_reducible rfl
              rotate_left
              ·exact uP
              refine pure_ (i := 20) (N := some 133) (v := ?_) (a' := ?_) u_t21 rfl rfl (any_of HT_.out (by kernel_rfl)) (fun _ _ _ h => h) (Or.inl ⟨by rfl, ?_⟩) ?_ ?_
              rotate_left
              ·intro w'
               go_simp
               with_reducible rfl
              rotate_left
              ·exact uP
              refine done_ (done_of HT_.out (by kernel_rfl)) ?_
              try go_wp2
              go_roundg k2
              case measure => have := HJ5.out; have := HK2.out; omega
              case rel => exact ⟨(wrap64 (x10_2 + 1)), (by first | rfl | (simp; done) | (simp [*]; done)), H', ⟨by have := HJ5.out; have := HK2.out; omega⟩, ⟨uR HO_275000⟩, ⟨uR HO_280001⟩, ⟨uR HO_288001⟩, ⟨uK BK266⟩, ⟨uK BK267⟩, ⟨uK BK274⟩, ⟨uK BK279⟩, ⟨uK BK287⟩, ⟨uB5 HB GE266 GE267 GE274 GE279 GE287⟩⟩
             have H1 : (if (true != false) = true then (none) else (colloquylaw20_MonRises.l0 k2 l0 (wrap64 (x10_2 + 1)) a2_0 a2_1 a2_2 l2_3 y271 t275 t276 t283 t284)) = some r := by rw [if_neg (show ¬ (some q308).isNone = true by simp)] at H; exact H
             clear H
             have H := H1
             clear H1
             try simp only [errW_none, errW_some]
             by_cases c172 : (true != false) = true
             ·rw [if_pos c172] at H
              exact absurd H (by simp)
             rw [if_neg c172] at H
             have c172b0 : (true != false) = false := by simpa using c172
             (try (have c172b1 : decide (true = false) = true := by simpa using c172))
             (try (have c172b2 : (true == false) = true := by simpa using c172))
             clear c172
             have H' := Aside0.mk H
             clear H
             try go_wp2
             replace HO_275000 := Aside0.mk (Kd.R_drew HO_275000.out)
             replace HO_280001 := Aside0.mk (Kd.R_drew HO_280001.out)
             replace HO_288001 := Aside0.mk (Kd.R_drew HO_288001.out)
             replace BK266 := Aside0.mk (blk_drew BK266.out)
             replace BK267 := Aside0.mk (blk_drew BK267.out)
             replace BK274 := Aside0.mk (blk_drew BK274.out)
             replace BK279 := Aside0.mk (blk_drew BK279.out)
             replace BK287 := Aside0.mk (blk_drew BK287.out)
             replace HB := Aside0.mk (below_drew1 HB.out)
             refine start_ (n := 21) (S := fun w' => w'.cell? ⟨gb274, 0, none⟩ = some (.slice Ao12 y271.length co12) ∧ w'.cell? ⟨gb287, 0, none⟩ = some (.int .i64 t283) ∧ w'.cell? ⟨gb287, 1, none⟩ = some (.slice Ao145 t284.length co145) ∧ w'.cell? ⟨gb279, 0, none⟩ = some (.int .i64 t275) ∧ w'.cell? ⟨gb279, 1, none⟩ = some (.slice Ao25 t276.length co25) ∧ w'.cell? ⟨gb267, 0, none⟩ = some (.int .i64 a2_0) ∧ w'.cell? ⟨gb267, 1, none⟩ = some (.int .i64 a2_1) ∧ w'.cell? ⟨gb267, 2, none⟩ = some (.int .i64 a2_2) ∧ w'.cell? ⟨gb267, 3, none⟩ = some (.slice A2_3 l2_3.length c2_3)) (ds := []) u_f21 (by kernel_rfl) rfl rfl ⟨uF BK274 0, uF BK287 0, uF BK287 1, uF BK279 0, uF BK279 1, uF BK267 0, uF BK267 1, uF BK267 2, uF BK267 3⟩ (fun hHeld => ?_); refine with_tabW colloquylaw20_MonRises.tab11 colloquylaw20_MonRises.bits11 (fun HT_ HW_ => ?_)
             generalize wr.drew = w173 at HO_275000 HO_280001 HO_288001 BK266 BK267 BK274 BK279 BK287 HB hHeld ⊢
             refine pure_ (i := 3) (N := some 116) (v := ?_) (a' := ?_) u_f3t1f17 rfl rfl (any_of HT_.out (by kernel_rfl)) (fun _ _ _ h => h) (Or.inl ⟨by rfl, ?_⟩) ?_ ?_
             rotate_left
             ·intro w'
              go_simp
              with_reducible rfl
             rotate_left
             ·exact uP
             refine pure_ (i := 9) (N := some 122) (v := ?_) (a' := ?_) u_f3t1f5t1f11 rfl rfl (any_of HT_.out (by kernel_rfl)) (fun _ _ _ h => h) (Or.inl ⟨by rfl, ?_⟩) ?_ ?_
             rotate_left
             ·intro w'
              go_simp
              with_reducible rfl
             rotate_left
             ·exact uP
             refine take_ (i := 0) (N := some 113) (v := ?_) (a' := ?_) u_t1f2t1f5t1f11 rfl rfl (take_ofW HT_.out HW_.out (by kernel_rfl)) (fun _ _ _ h => h) (Or.inl ⟨by rfl, ?_⟩) hHeld ?_ ?_
             rotate_left
             ·rintro w' ⟨s0, s1, s2, s3, s4, s5, s6, s7, s8⟩
              go_simp
              with_reducible rfl
             rotate_left
             ·exact uP
             refine take_ (i := 1) (N := some 114) (v := ?_) (a' := ?_) u_t2f1t1f5t1f11 rfl rfl (take_ofW HT_.out HW_.out (by kernel_rfl)) (fun _ _ _ h => h) (Or.inl ⟨by rfl, ?_⟩) hHeld ?_ ?_
             rotate_left
             ·rintro w' ⟨s0, s1, s2, s3, s4, s5, s6, s7, s8⟩
              go_simp
              with_reducible rfl
             rotate_left
             ·exact uP
             refine take_ (i := 6) (N := some 119) (v := ?_) (a' := ?_) u_t2f1t1f2t1f2t1f11 rfl rfl (take_ofW HT_.out HW_.out (by kernel_rfl)) (fun _ _ _ h => h) (Or.inl ⟨by rfl, ?_⟩) hHeld ?_ ?_
             rotate_left
             ·rintro w' ⟨s0, s1, s2, s3, s4, s5, s6, s7, s8⟩
              go_simp
              with_reducible rfl
             rotate_left
             ·exact uP
             refine take_ (i := 7) (N := some 120) (v := ?_) (a' := ?_) u_t2f1t1f2t2f1t1f11 rfl rfl (take_ofW HT_.out HW_.out (by kernel_rfl)) (fun _ _ _ h => h) (Or.inl ⟨by rfl, ?_⟩) hHeld ?_ ?_
             rotate_left
             ·rintro w' ⟨s0, s1, s2, s3, s4, s5, s6, s7, s8⟩
              go_simp
              with_reducible rfl
             rotate_left
             ·exact uP
             refine one_ (i := 2) (N := some 115) u_t4f2t2f1t1f11 rfl rfl (one_of HT_.out (by kernel_rfl)) (by decide) (fun K hK => ?_)
             refine goes_ Tryd.func12 (by kernel_rfl) rfl #[.agg #[.int .i64 t283, .slice Ao145 t284.length co145]] (by rfl) rfl rfl uC ?_
             with_reducible refine (mon_Mon_Pc.calls t283 _ _ t284 t301 _ ?side1 ?side2 A160.out).mono ?_
             (case side1 => exact uS (Kd.R_reads' HO_288001.out).2.2)
             (case side2 => exact (Kd.R_reads' HO_288001.out).2.1)
             rintro e w174 ⟨rfl, hb⟩
             refine ⟨_, rfl, ?_⟩
             replace HO_275000 := Aside0.mk (Kd.R_below (uR HO_275000) hb)
             replace HO_280001 := Aside0.mk (Kd.R_below (uR HO_280001) hb)
             replace HO_288001 := Aside0.mk (Kd.R_below (uR HO_288001) hb)
             replace BK266 := uD BK266 hb
             replace BK267 := uD BK267 hb
             replace BK274 := uD BK274 hb
             replace BK279 := uD BK279 hb
             replace BK287 := uD BK287 hb
             replace HB := Aside0.mk (below_step (uB5 HB GE266 GE267 GE274 GE279 GE287) hb)
             (try clear hb)
             (try clear hb2)
             (try clear hk)
             (try clear hi)
             refine hK.out _ _ ⟨uF BK274 0, uF BK287 0, uF BK287 1, uF BK279 0, uF BK279 1, uF BK267 0, uF BK267 1, uF BK267 2, uF BK267 3⟩ (fun hHeld => ?_)
             clear hK K
             refine norm_ (a' := ?_) ?_ ?_
             rotate_left
             ·show Act.put _ (some 115) _ = _
              exact uP
             refine one_ (i := 4) (N := some 117) u_t5f1t2f1t1f11 rfl rfl (one_of HT_.out (by kernel_rfl)) (by decide) (fun K hK => ?_)
             refine goes_ Tryd.func23 (by kernel_rfl) rfl #[.agg #[.slice Ao12 y271.length co12], .int .i64 t301, .int .i64 x10_2] (by rfl) rfl rfl uC ?_
             with_reducible refine (mon_May.calls k2 _ _ y271 t301 x10_2 none _ ?side1 ?side2 A161.out).mono ?_
             (case side1 => exact uS (Kd.R_reads' HO_275000.out).2.2)
             (case side2 => exact (Kd.R_reads' HO_275000.out).2.1)
             rintro e w175 ⟨rfl, hb⟩
             refine ⟨_, rfl, ?_⟩
             replace HO_275000 := Aside0.mk (Kd.R_below (uR HO_275000) hb)
             replace HO_280001 := Aside0.mk (Kd.R_below (uR HO_280001) hb)
             replace HO_288001 := Aside0.mk (Kd.R_below (uR HO_288001) hb)
             replace BK266 := uD BK266 hb
             replace BK267 := uD BK267 hb
             replace BK274 := uD BK274 hb
             replace BK279 := uD BK279 hb
             replace BK287 := uD BK287 hb
             replace HB := Aside0.mk (below_step (uB5 HB GE266 GE267 GE274 GE279 GE287) hb)
             (try clear hb)
             (try clear hb2)
             (try clear hk)
             (try clear hi)
             (try simp only [errW_none, errW_some])
             refine hK.out _ _ ⟨uF BK274 0, uF BK287 0, uF BK287 1, uF BK279 0, uF BK279 1, uF BK267 0, uF BK267 1, uF BK267 2, uF BK267 3⟩ (fun hHeld => ?_)
             clear hK K
             refine norm_ (a' := ?_) ?_ ?_
             rotate_left
             ·show Act.put _ (some 117) _ = _
              exact uP
             refine pure_ (i := 5) (N := some 118) (v := ?_) (a' := ?_) u_t8f1t1f11 rfl rfl (any_of HT_.out (by kernel_rfl)) (fun _ _ _ h => h) (Or.inl ⟨by rfl, ?_⟩) ?_ ?_
             rotate_left
             ·intro w'
              go_simp
              with_reducible rfl
             rotate_left
             ·exact uP
             refine one_ (i := 8) (N := some 121) u_t10f11 rfl rfl (one_of HT_.out (by kernel_rfl)) (by decide) (fun K hK => ?_)
             refine goes_ Tryd.func12 (by kernel_rfl) rfl #[.agg #[.int .i64 t275, .slice Ao25 t276.length co25]] (by rfl) rfl rfl uC ?_
             with_reducible refine (mon_Mon_Pc.calls t275 _ _ t276 t304 _ ?side1 ?side2 A162.out).mono ?_
             (case side1 => exact uS (Kd.R_reads' HO_280001.out).2.2)
             (case side2 => exact (Kd.R_reads' HO_280001.out).2.1)
             rintro e w176 ⟨rfl, hb⟩
             refine ⟨_, rfl, ?_⟩
             replace HO_275000 := Aside0.mk (Kd.R_below (uR HO_275000) hb)
             replace HO_280001 := Aside0.mk (Kd.R_below (uR HO_280001) hb)
             replace HO_288001 := Aside0.mk (Kd.R_below (uR HO_288001) hb)
             replace BK266 := uD BK266 hb
             replace BK267 := uD BK267 hb
             replace BK274 := uD BK274 hb
             replace BK279 := uD BK279 hb
             replace BK287 := uD BK287 hb
             replace HB := Aside0.mk (below_step (uB5 HB GE266 GE267 GE274 GE279 GE287) hb)
             (try clear hb)
             (try clear hb2)
             (try clear hk)
             (try clear hi)
             refine hK.out _ _ ⟨uF BK274 0, uF BK287 0, uF BK287 1, uF BK279 0, uF BK279 1, uF BK267 0, uF BK267 1, uF BK267 2, uF BK267 3⟩ (fun hHeld => ?_)
             clear hK K
             refine norm_ (a' := ?_) ?_ ?_
             rotate_left
             ·show Act.put _ (some 121) _ = _
              exact uP
             refine one_ (i := 10) (N := some 123) u_t11f10 rfl rfl (one_of HT_.out (by kernel_rfl)) (by decide) (fun K hK => ?_)
             refine goes_ Tryd.func23 (by kernel_rfl) rfl #[.agg #[.slice Ao12 y271.length co12], .int .i64 t304, .int .i64 x10_2] (by rfl) rfl rfl uC ?_
             with_reducible refine (mon_May.calls k2 _ _ y271 t304 x10_2 none _ ?side1 ?side2 A163.out).mono ?_
             (case side1 => exact uS (Kd.R_reads' HO_275000.out).2.2)
             (case side2 => exact (Kd.R_reads' HO_275000.out).2.1)
             rintro e w177 ⟨rfl, hb⟩
             refine ⟨_, rfl, ?_⟩
             replace HO_275000 := Aside0.mk (Kd.R_below (uR HO_275000) hb)
             replace HO_280001 := Aside0.mk (Kd.R_below (uR HO_280001) hb)
             replace HO_288001 := Aside0.mk (Kd.R_below (uR HO_288001) hb)
             replace BK266 := uD BK266 hb
             replace BK267 := uD BK267 hb
             replace BK274 := uD BK274 hb
             replace BK279 := uD BK279 hb
             replace BK287 := uD BK287 hb
             replace HB := Aside0.mk (below_step (uB5 HB GE266 GE267 GE274 GE279 GE287) hb)
             (try clear hb)
             (try clear hb2)
             (try clear hk)
             (try clear hi)
             (try simp only [errW_none, errW_some])
             refine hK.out _ _ ⟨uF BK274 0, uF BK287 0, uF BK287 1, uF BK279 0, uF BK279 1, uF BK267 0, uF BK267 1, uF BK267 2, uF BK267 3⟩ (fun hHeld => ?_)
             clear hK K
             refine norm_ (a' := ?_) ?_ ?_
             rotate_left
             ·show Act.put _ (some 123) _ = _
              exact uP
             refine pure_ (i := 11) (N := some 124) (v := ?_) (a' := ?_) u_t12f9 rfl rfl (any_of HT_.out (by kernel_rfl)) (fun _ _ _ h => h) (Or.inl ⟨by rfl, ?_⟩) ?_ ?_
             rotate_left
             ·intro w'
              go_simp
              with_reducible rfl
             rotate_left
             ·exact uP
             refine pure_ (i := 12) (N := some 125) (v := ?_) (a' := ?_) u_t13f8 rfl rfl (any_of HT_.out (by kernel_rfl)) (fun _ _ _ h => h) (Or.inl ⟨by rfl, ?_⟩) ?_ ?_
             rotate_left
             ·intro w'
              go_simp
              with_reducible rfl
             rotate_left
             ·exact uP
             refine pure_ (i := 14) (N := some 127) (v := ?_) (a' := ?_) u_t13f1t1f6 rfl rfl (any_of HT_.out (by kernel_rfl)) (fun _ _ _ h => h) (Or.inl ⟨by rfl, ?_⟩) ?_ ?_
             rotate_left
             ·intro w'
              go_simp
              with_reducible rfl
             rotate_left
             ·exact uP
             refine pure_ (i := 16) (N := some 129) (v := ?_) (a' := ?_) u_t13f1t1f1t1f4 rfl rfl (any_of HT_.out (by kernel_rfl)) (fun _ _ _ h => h) (Or.inl ⟨by rfl, ?_⟩) ?_ ?_
             rotate_left
             ·intro w'
              go_simp
              with_reducible rfl
             rotate_left
             ·exact uP
             refine take_ (i := 13) (N := some 126) (v := ?_) (a' := ?_) u_t15f1t1f4 rfl rfl (take_ofW HT_.out HW_.out (by kernel_rfl)) (fun _ _ _ h => h) (Or.inl ⟨by rfl, ?_⟩) hHeld ?_ ?_
             rotate_left
             ·rintro w' ⟨s0, s1, s2, s3, s4, s5, s6, s7, s8⟩
              go_simp
              with_reducible rfl
             rotate_left
             ·exact uP
             refine take_ (i := 15) (N := some 128) (v := ?_) (a' := ?_) u_t17f4 rfl rfl (take_ofW HT_.out HW_.out (by kernel_rfl)) (fun _ _ _ h => h) (Or.inl ⟨by rfl, ?_⟩) hHeld ?_ ?_
             rotate_left
             ·rintro w' ⟨s0, s1, s2, s3, s4, s5, s6, s7, s8⟩
              go_simp
              with_reducible rfl
             rotate_left
             ·exact uP
             refine one_ (i := 17) (N := some 130) u_t18f3 rfl rfl (one_of HT_.out (by kernel_rfl)) (by decide) (fun K hK => ?_)
             refine goes_ Tryd.func23 (by kernel_rfl) rfl #[.agg #[.slice Ao12 y271.length co12], .int .i64 a2_1, .int .i64 x10_2] (by rfl) rfl rfl uC ?_
             with_reducible refine (mon_May.calls k2 _ _ y271 a2_1 x10_2 (some q308) _ ?side1 ?side2 A164.out).mono ?_
             (case side1 => exact uS (Kd.R_reads' HO_275000.out).2.2)
             (case side2 => exact (Kd.R_reads' HO_275000.out).2.1)
             rintro e w178 ⟨rfl, hb⟩
             refine ⟨_, rfl, ?_⟩
             replace HO_275000 := Aside0.mk (Kd.R_below (uR HO_275000) hb)
             replace HO_280001 := Aside0.mk (Kd.R_below (uR HO_280001) hb)
             replace HO_288001 := Aside0.mk (Kd.R_below (uR HO_288001) hb)
             replace BK266 := uD BK266 hb
             replace BK267 := uD BK267 hb
             replace BK274 := uD BK274 hb
             replace BK279 := uD BK279 hb
             replace BK287 := uD BK287 hb
             replace HB := Aside0.mk (below_step (uB5 HB GE266 GE267 GE274 GE279 GE287) hb)
             (try clear hb)
             (try clear hb2)
             (try clear hk)
             (try clear hi)
             (try simp only [errW_none, errW_some])
             refine hK.out _ _ ⟨uF BK274 0, uF BK287 0, uF BK287 1, uF BK279 0, uF BK279 1, uF BK267 0, uF BK267 1, uF BK267 2, uF BK267 3⟩ (fun hHeld => ?_)
             clear hK K
             refine norm_ (a' := ?_) ?_ ?_
             rotate_left
             ·show Act.put _ (some 130) _ = _
              exact uP
             refine pure_ (i := 18) (N := some 131) (v := ?_) (a' := ?_) u_t19f2 rfl rfl (any_of HT_.out (by kernel_rfl)) (fun _ _ _ h => h) (Or.inl ⟨by rfl, ?_⟩) ?_ ?_
             rotate_left
             ·intro w'
              go_simp
              with_reducible rfl
             rotate_left
             ·exact uP
             refine pure_ (i := 19) (N := some 132) (v := ?_) (a' := ?_) u_t20f1 rfl rfl (any_of HT_.out (by kernel_rfl)) (fun _ _ _ h => h) (Or.inl ⟨by rfl, ?_⟩) ?_ ?_
             rotate_left
             ·intro w'
              go_simp
              with_reducible rfl
             rotate_left
             ·exact uP
             refine pure_ (i := 20) (N := some 133) (v := ?_) (a' := ?_) u_t21 rfl rfl (any_of HT_.out (by kernel_rfl)) (fun _ _ _ h => h) (Or.inl ⟨by rfl, ?_⟩) ?_ ?_
             rotate_left
             ·intro w'
              go_simp
              with_reducible rfl
             rotate_left
             ·exact uP
             refine done_ (done_of HT_.out (by kernel_rfl)) ?_
             try go_wp2
             go_roundg k2
             case measure => have := HJ5.out; have := HK2.out; omega
             case rel => exact ⟨(wrap64 (x10_2 + 1)), (by first | rfl | (simp; done) | (simp [*]; done)), H', ⟨by have := HJ5.out; have := HK2.out; omega⟩, ⟨uR HO_275000⟩, ⟨uR HO_280001⟩, ⟨uR HO_288001⟩, ⟨uK BK266⟩, ⟨uK BK267⟩, ⟨uK BK274⟩, ⟨uK BK279⟩, ⟨uK BK287⟩, ⟨uB5 HB GE266 GE267 GE274 GE279 GE287⟩⟩
            have H1 : (if (true != false) = true then (none) else (colloquylaw20_MonRises.l0 k2 l0 (wrap64 (x10_2 + 1)) a2_0 a2_1 a2_2 l2_3 y271 t275 t276 t283 t284)) = some r := by rw [if_neg (show ¬ (some q306).isNone = true by simp)] at H; exact H
            clear H
            have H := H1
            clear H1
            try simp only [errW_none, errW_some]
            by_cases c179 : (true != false) = true
            ·rw [if_pos c179] at H
             exact absurd H (by simp)
            rw [if_neg c179] at H
            have c179b0 : (true != false) = false := by simpa using c179
            (try (have c179b1 : decide (true = false) = true := by simpa using c179))
            (try (have c179b2 : (true == false) = true := by simpa using c179))
            clear c179
            have H' := Aside0.mk H
            clear H
            try go_wp2
            replace HO_275000 := Aside0.mk (Kd.R_drew HO_275000.out)
            replace HO_280001 := Aside0.mk (Kd.R_drew HO_280001.out)
            replace HO_288001 := Aside0.mk (Kd.R_drew HO_288001.out)
            replace BK266 := Aside0.mk (blk_drew BK266.out)
            replace BK267 := Aside0.mk (blk_drew BK267.out)
            replace BK274 := Aside0.mk (blk_drew BK274.out)
            replace BK279 := Aside0.mk (blk_drew BK279.out)
            replace BK287 := Aside0.mk (blk_drew BK287.out)
            replace HB := Aside0.mk (below_drew1 HB.out)
            refine start_ (n := 21) (S := fun w' => w'.cell? ⟨gb274, 0, none⟩ = some (.slice Ao12 y271.length co12) ∧ w'.cell? ⟨gb287, 0, none⟩ = some (.int .i64 t283) ∧ w'.cell? ⟨gb287, 1, none⟩ = some (.slice Ao145 t284.length co145) ∧ w'.cell? ⟨gb279, 0, none⟩ = some (.int .i64 t275) ∧ w'.cell? ⟨gb279, 1, none⟩ = some (.slice Ao25 t276.length co25)) (ds := []) u_f21 (by kernel_rfl) rfl rfl ⟨uF BK274 0, uF BK287 0, uF BK287 1, uF BK279 0, uF BK279 1⟩ (fun hHeld => ?_); refine with_tabW colloquylaw20_MonRises.tab11 colloquylaw20_MonRises.bits11 (fun HT_ HW_ => ?_)
            generalize wr.drew = w180 at HO_275000 HO_280001 HO_288001 BK266 BK267 BK274 BK279 BK287 HB hHeld ⊢
            refine pure_ (i := 3) (N := some 116) (v := ?_) (a' := ?_) u_f3t1f17 rfl rfl (any_of HT_.out (by kernel_rfl)) (fun _ _ _ h => h) (Or.inl ⟨by rfl, ?_⟩) ?_ ?_
            rotate_left
            ·intro w'
             go_simp
             with_reducible rfl
            rotate_left
            ·exact uP
            refine pure_ (i := 9) (N := some 122) (v := ?_) (a' := ?_) u_f3t1f5t1f11 rfl rfl (any_of HT_.out (by kernel_rfl)) (fun _ _ _ h => h) (Or.inl ⟨by rfl, ?_⟩) ?_ ?_
            rotate_left
            ·intro w'
             go_simp
             with_reducible rfl
            rotate_left
            ·exact uP
            refine take_ (i := 0) (N := some 113) (v := ?_) (a' := ?_) u_t1f2t1f5t1f11 rfl rfl (take_ofW HT_.out HW_.out (by kernel_rfl)) (fun _ _ _ h => h) (Or.inl ⟨by rfl, ?_⟩) hHeld ?_ ?_
            rotate_left
            ·rintro w' ⟨s0, s1, s2, s3, s4⟩
             go_simp
             with_reducible rfl
            rotate_left
            ·exact uP
            refine take_ (i := 1) (N := some 114) (v := ?_) (a' := ?_) u_t2f1t1f5t1f11 rfl rfl (take_ofW HT_.out HW_.out (by kernel_rfl)) (fun _ _ _ h => h) (Or.inl ⟨by rfl, ?_⟩) hHeld ?_ ?_
            rotate_left
            ·rintro w' ⟨s0, s1, s2, s3, s4⟩
             go_simp
             with_reducible rfl
            rotate_left
            ·exact uP
            refine take_ (i := 6) (N := some 119) (v := ?_) (a' := ?_) u_t2f1t1f2t1f2t1f11 rfl rfl (take_ofW HT_.out HW_.out (by kernel_rfl)) (fun _ _ _ h => h) (Or.inl ⟨by rfl, ?_⟩) hHeld ?_ ?_
            rotate_left
            ·rintro w' ⟨s0, s1, s2, s3, s4⟩
             go_simp
             with_reducible rfl
            rotate_left
            ·exact uP
            refine take_ (i := 7) (N := some 120) (v := ?_) (a' := ?_) u_t2f1t1f2t2f1t1f11 rfl rfl (take_ofW HT_.out HW_.out (by kernel_rfl)) (fun _ _ _ h => h) (Or.inl ⟨by rfl, ?_⟩) hHeld ?_ ?_
            rotate_left
            ·rintro w' ⟨s0, s1, s2, s3, s4⟩
             go_simp
             with_reducible rfl
            rotate_left
            ·exact uP
            refine one_ (i := 2) (N := some 115) u_t4f2t2f1t1f11 rfl rfl (one_of HT_.out (by kernel_rfl)) (by decide) (fun K hK => ?_)
            refine goes_ Tryd.func12 (by kernel_rfl) rfl #[.agg #[.int .i64 t283, .slice Ao145 t284.length co145]] (by rfl) rfl rfl uC ?_
            with_reducible refine (mon_Mon_Pc.calls t283 _ _ t284 t301 _ ?side1 ?side2 A160.out).mono ?_
            (case side1 => exact uS (Kd.R_reads' HO_288001.out).2.2)
            (case side2 => exact (Kd.R_reads' HO_288001.out).2.1)
            rintro e w181 ⟨rfl, hb⟩
            refine ⟨_, rfl, ?_⟩
            replace HO_275000 := Aside0.mk (Kd.R_below (uR HO_275000) hb)
            replace HO_280001 := Aside0.mk (Kd.R_below (uR HO_280001) hb)
            replace HO_288001 := Aside0.mk (Kd.R_below (uR HO_288001) hb)
            replace BK266 := uD BK266 hb
            replace BK267 := uD BK267 hb
            replace BK274 := uD BK274 hb
            replace BK279 := uD BK279 hb
            replace BK287 := uD BK287 hb
            replace HB := Aside0.mk (below_step (uB5 HB GE266 GE267 GE274 GE279 GE287) hb)
            (try clear hb)
            (try clear hb2)
            (try clear hk)
            (try clear hi)
            refine hK.out _ _ ⟨uF BK274 0, uF BK287 0, uF BK287 1, uF BK279 0, uF BK279 1⟩ (fun hHeld => ?_)
            clear hK K
            refine norm_ (a' := ?_) ?_ ?_
            rotate_left
            ·show Act.put _ (some 115) _ = _
             exact uP
            refine one_ (i := 4) (N := some 117) u_t5f1t2f1t1f11 rfl rfl (one_of HT_.out (by kernel_rfl)) (by decide) (fun K hK => ?_)
            refine goes_ Tryd.func23 (by kernel_rfl) rfl #[.agg #[.slice Ao12 y271.length co12], .int .i64 t301, .int .i64 x10_2] (by rfl) rfl rfl uC ?_
            with_reducible refine (mon_May.calls k2 _ _ y271 t301 x10_2 none _ ?side1 ?side2 A161.out).mono ?_
            (case side1 => exact uS (Kd.R_reads' HO_275000.out).2.2)
            (case side2 => exact (Kd.R_reads' HO_275000.out).2.1)
            rintro e w182 ⟨rfl, hb⟩
            refine ⟨_, rfl, ?_⟩
            replace HO_275000 := Aside0.mk (Kd.R_below (uR HO_275000) hb)
            replace HO_280001 := Aside0.mk (Kd.R_below (uR HO_280001) hb)
            replace HO_288001 := Aside0.mk (Kd.R_below (uR HO_288001) hb)
            replace BK266 := uD BK266 hb
            replace BK267 := uD BK267 hb
            replace BK274 := uD BK274 hb
            replace BK279 := uD BK279 hb
            replace BK287 := uD BK287 hb
            replace HB := Aside0.mk (below_step (uB5 HB GE266 GE267 GE274 GE279 GE287) hb)
            (try clear hb)
            (try clear hb2)
            (try clear hk)
            (try clear hi)
            (try simp only [errW_none, errW_some])
            refine hK.out _ _ ⟨uF BK274 0, uF BK287 0, uF BK287 1, uF BK279 0, uF BK279 1⟩ (fun hHeld => ?_)
            clear hK K
            refine norm_ (a' := ?_) ?_ ?_
            rotate_left
            ·show Act.put _ (some 117) _ = _
             exact uP
            refine pure_ (i := 5) (N := some 118) (v := ?_) (a' := ?_) u_t8f1t1f11 rfl rfl (any_of HT_.out (by kernel_rfl)) (fun _ _ _ h => h) (Or.inl ⟨by rfl, ?_⟩) ?_ ?_
            rotate_left
            ·intro w'
             go_simp
             with_reducible rfl
            rotate_left
            ·exact uP
            refine one_ (i := 8) (N := some 121) u_t10f11 rfl rfl (one_of HT_.out (by kernel_rfl)) (by decide) (fun K hK => ?_)
            refine goes_ Tryd.func12 (by kernel_rfl) rfl #[.agg #[.int .i64 t275, .slice Ao25 t276.length co25]] (by rfl) rfl rfl uC ?_
            with_reducible refine (mon_Mon_Pc.calls t275 _ _ t276 t304 _ ?side1 ?side2 A162.out).mono ?_
            (case side1 => exact uS (Kd.R_reads' HO_280001.out).2.2)
            (case side2 => exact (Kd.R_reads' HO_280001.out).2.1)
            rintro e w183 ⟨rfl, hb⟩
            refine ⟨_, rfl, ?_⟩
            replace HO_275000 := Aside0.mk (Kd.R_below (uR HO_275000) hb)
            replace HO_280001 := Aside0.mk (Kd.R_below (uR HO_280001) hb)
            replace HO_288001 := Aside0.mk (Kd.R_below (uR HO_288001) hb)
            replace BK266 := uD BK266 hb
            replace BK267 := uD BK267 hb
            replace BK274 := uD BK274 hb
            replace BK279 := uD BK279 hb
            replace BK287 := uD BK287 hb
            replace HB := Aside0.mk (below_step (uB5 HB GE266 GE267 GE274 GE279 GE287) hb)
            (try clear hb)
            (try clear hb2)
            (try clear hk)
            (try clear hi)
            refine hK.out _ _ ⟨uF BK274 0, uF BK287 0, uF BK287 1, uF BK279 0, uF BK279 1⟩ (fun hHeld => ?_)
            clear hK K
            refine norm_ (a' := ?_) ?_ ?_
            rotate_left
            ·show Act.put _ (some 121) _ = _
             exact uP
            refine one_ (i := 10) (N := some 123) u_t11f10 rfl rfl (one_of HT_.out (by kernel_rfl)) (by decide) (fun K hK => ?_)
            refine goes_ Tryd.func23 (by kernel_rfl) rfl #[.agg #[.slice Ao12 y271.length co12], .int .i64 t304, .int .i64 x10_2] (by rfl) rfl rfl uC ?_
            with_reducible refine (mon_May.calls k2 _ _ y271 t304 x10_2 (some q306) _ ?side1 ?side2 A163.out).mono ?_
            (case side1 => exact uS (Kd.R_reads' HO_275000.out).2.2)
            (case side2 => exact (Kd.R_reads' HO_275000.out).2.1)
            rintro e w184 ⟨rfl, hb⟩
            refine ⟨_, rfl, ?_⟩
            replace HO_275000 := Aside0.mk (Kd.R_below (uR HO_275000) hb)
            replace HO_280001 := Aside0.mk (Kd.R_below (uR HO_280001) hb)
            replace HO_288001 := Aside0.mk (Kd.R_below (uR HO_288001) hb)
            replace BK266 := uD BK266 hb
            replace BK267 := uD BK267 hb
            replace BK274 := uD BK274 hb
            replace BK279 := uD BK279 hb
            replace BK287 := uD BK287 hb
            replace HB := Aside0.mk (below_step (uB5 HB GE266 GE267 GE274 GE279 GE287) hb)
            (try clear hb)
            (try clear hb2)
            (try clear hk)
            (try clear hi)
            (try simp only [errW_none, errW_some])
            refine hK.out _ _ ⟨uF BK274 0, uF BK287 0, uF BK287 1, uF BK279 0, uF BK279 1⟩ (fun hHeld => ?_)
            clear hK K
            refine norm_ (a' := ?_) ?_ ?_
            rotate_left
            ·show Act.put _ (some 123) _ = _
             exact uP
            refine pure_ (i := 11) (N := some 124) (v := ?_) (a' := ?_) u_t12f9 rfl rfl (any_of HT_.out (by kernel_rfl)) (fun _ _ _ h => h) (Or.inl ⟨by rfl, ?_⟩) ?_ ?_
            rotate_left
            ·intro w'
             go_simp
             with_reducible rfl
            rotate_left
            ·exact uP
            refine pure_ (i := 12) (N := some 125) (v := ?_) (a' := ?_) u_t13f8 rfl rfl (any_of HT_.out (by kernel_rfl)) (fun _ _ _ h => h) (Or.inl ⟨by rfl, ?_⟩) ?_ ?_
            rotate_left
            ·intro w'
             go_simp
             with_reducible rfl
            rotate_left
            ·exact uP
            refine pure_ (i := 13) (N := some 126) (v := undef) (a' := ?_) u_t14f7 rfl rfl (any_of HT_.out (by kernel_rfl)) (fun _ _ _ h => h) (Or.inr ⟨by rfl, rfl⟩) ?_ ?_
            rotate_left
            ·exact uP
            refine pure_ (i := 14) (N := some 127) (v := undef) (a' := ?_) u_t15f6 rfl rfl (any_of HT_.out (by kernel_rfl)) (fun _ _ _ h => h) (Or.inr ⟨by rfl, rfl⟩) ?_ ?_
            rotate_left
            ·exact uP
            refine pure_ (i := 15) (N := some 128) (v := undef) (a' := ?_) u_t16f5 rfl rfl (any_of HT_.out (by kernel_rfl)) (fun _ _ _ h => h) (Or.inr ⟨by rfl, rfl⟩) ?_ ?_
            rotate_left
            ·exact uP
            refine pure_ (i := 16) (N := some 129) (v := undef) (a' := ?_) u_t17f4 rfl rfl (any_of HT_.out (by kernel_rfl)) (fun _ _ _ h => h) (Or.inr ⟨by rfl, rfl⟩) ?_ ?_
            rotate_left
            ·exact uP
            refine pure_ (i := 17) (N := some 130) (v := undef) (a' := ?_) u_t18f3 rfl rfl (any_of HT_.out (by kernel_rfl)) (fun _ _ _ h => h) (Or.inr ⟨by rfl, rfl⟩) ?_ ?_
            rotate_left
            ·exact uP
            refine pure_ (i := 18) (N := some 131) (v := undef) (a' := ?_) u_t19f2 rfl rfl (any_of HT_.out (by kernel_rfl)) (fun _ _ _ h => h) (Or.inr ⟨by rfl, rfl⟩) ?_ ?_
            rotate_left
            ·exact uP
            refine pure_ (i := 19) (N := some 132) (v := ?_) (a' := ?_) u_t20f1 rfl rfl (any_of HT_.out (by kernel_rfl)) (fun _ _ _ h => h) (Or.inl ⟨by rfl, ?_⟩) ?_ ?_
            rotate_left
            ·intro w'
             go_simp
             with_reducible rfl
            rotate_left
            ·exact uP
            refine pure_ (i := 20) (N := some 133) (v := ?_) (a' := ?_) u_t21 rfl rfl (any_of HT_.out (by kernel_rfl)) (fun _ _ _ h => h) (Or.inl ⟨by rfl, ?_⟩) ?_ ?_
            rotate_left
            ·intro w'
             go_simp
             with_reducible rfl
            rotate_left
            ·exact uP
            refine done_ (done_of HT_.out (by kernel_rfl)) ?_
            try go_wp2
            go_roundg k2
            case measure => have := HJ5.out; have := HK2.out; omega
            case rel => exact ⟨(wrap64 (x10_2 + 1)), (by first | rfl | (simp; done) | (simp [*]; done)), H', ⟨by have := HJ5.out; have := HK2.out; omega⟩, ⟨uR HO_275000⟩, ⟨uR HO_280001⟩, ⟨uR HO_288001⟩, ⟨uK BK266⟩, ⟨uK BK267⟩, ⟨uK BK274⟩, ⟨uK BK279⟩, ⟨uK BK287⟩, ⟨uB5 HB GE266 GE267 GE274 GE279 GE287⟩⟩
           have H1 : ((mon_Mon_Pc.f t275 t276).bind fun t309 => ((mon_May.f k2 y271 t309 x10_2).bind fun t310 => (if t310.isNone = true then ((mon_May.f k2 y271 a2_1 x10_2).bind fun t312 => (if t312.isNone = true then (if (false != true) = true then (none) else (colloquylaw20_MonRises.l0 k2 l0 (wrap64 (x10_2 + 1)) a2_0 a2_1 a2_2 l2_3 y271 t275 t276 t283 t284)) else (if (false != false) = true then (none) else (colloquylaw20_MonRises.l0 k2 l0 (wrap64 (x10_2 + 1)) a2_0 a2_1 a2_2 l2_3 y271 t275 t276 t283 t284)))) else (if (false != false) = true then (none) else (colloquylaw20_MonRises.l0 k2 l0 (wrap64 (x10_2 + 1)) a2_0 a2_1 a2_2 l2_3 y271 t275 t276 t283 t284))))) = some r := by rw [if_neg (show ¬ (some q303).isNone = true by simp)] at H; exact H
           clear H
           have H := H1
           clear H1
           try simp only [errW_none, errW_some]
           replace H := Option.bind_eq_some_iff.mp H
           obtain ⟨t309, A1850, H⟩ := H
           replace H : ((mon_May.f k2 y271 t309 x10_2).bind fun t310 => (if t310.isNone = true then ((mon_May.f k2 y271 a2_1 x10_2).bind fun t312 => (if t312.isNone = true then (if (false != true) = true then (none) else (colloquylaw20_MonRises.l0 k2 l0 (wrap64 (x10_2 + 1)) a2_0 a2_1 a2_2 l2_3 y271 t275 t276 t283 t284)) else (if (false != false) = true then (none) else (colloquylaw20_MonRises.l0 k2 l0 (wrap64 (x10_2 + 1)) a2_0 a2_1 a2_2 l2_3 y271 t275 t276 t283 t284)))) else (if (false != false) = true then (none) else (colloquylaw20_MonRises.l0 k2 l0 (wrap64 (x10_2 + 1)) a2_0 a2_1 a2_2 l2_3 y271 t275 t276 t283 t284)))) = some r := H
           have A185 := Aside0.mk A1850
           clear A1850
           replace H := Option.bind_eq_some_iff.mp H
           obtain ⟨t310, A1860, H⟩ := H
           replace H : (if t310.isNone = true then ((mon_May.f k2 y271 a2_1 x10_2).bind fun t312 => (if t312.isNone = true then (if (false != true) = true then (none) else (colloquylaw20_MonRises.l0 k2 l0 (wrap64 (x10_2 + 1)) a2_0 a2_1 a2_2 l2_3 y271 t275 t276 t283 t284)) else (if (false != false) = true then (none) else (colloquylaw20_MonRises.l0 k2 l0 (wrap64 (x10_2 + 1)) a2_0 a2_1 a2_2 l2_3 y271 t275 t276 t283 t284)))) else (if (false != false) = true then (none) else (colloquylaw20_MonRises.l0 k2 l0 (wrap64 (x10_2 + 1)) a2_0 a2_1 a2_2 l2_3 y271 t275 t276 t283 t284))) = some r := H
           have A186 := Aside0.mk A1860
           clear A1860
           rcases t310 with _ | q311
           ·have H1 : ((mon_May.f k2 y271 a2_1 x10_2).bind fun t312 => (if t312.isNone = true then (if (false != true) = true then (none) else (colloquylaw20_MonRises.l0 k2 l0 (wrap64 (x10_2 + 1)) a2_0 a2_1 a2_2 l2_3 y271 t275 t276 t283 t284)) else (if (false != false) = true then (none) else (colloquylaw20_MonRises.l0 k2 l0 (wrap64 (x10_2 + 1)) a2_0 a2_1 a2_2 l2_3 y271 t275 t276 t283 t284)))) = some r := by rw [if_pos (show (none : Option Int).isNone = true by rfl)] at H; exact H
            clear H
            have H := H1
            clear H1
            try simp only [errW_none, errW_some]
            replace H := Option.bind_eq_some_iff.mp H
            obtain ⟨t312, A1870, H⟩ := H
            replace H : (if t312.isNone = true then (if (false != true) = true then (none) else (colloquylaw20_MonRises.l0 k2 l0 (wrap64 (x10_2 + 1)) a2_0 a2_1 a2_2 l2_3 y271 t275 t276 t283 t284)) else (if (false != false) = true then (none) else (colloquylaw20_MonRises.l0 k2 l0 (wrap64 (x10_2 + 1)) a2_0 a2_1 a2_2 l2_3 y271 t275 t276 t283 t284))) = some r := H
            have A187 := Aside0.mk A1870
            clear A1870
            rcases t312 with _ | q313
            ·have H1 : (if (false != true) = true then (none) else (colloquylaw20_MonRises.l0 k2 l0 (wrap64 (x10_2 + 1)) a2_0 a2_1 a2_2 l2_3 y271 t275 t276 t283 t284)) = some r := by rw [if_pos (show (none : Option Int).isNone = true by rfl)] at H; exact H
             clear H
             have H := H1
             clear H1
             try simp only [errW_none, errW_some]
             by_cases c188 : (false != true) = true
             ·rw [if_pos c188] at H
              exact absurd H (by simp)
             rw [if_neg c188] at H
             have c188b0 : (false != true) = false := by simpa using c188
             (try (have c188b1 : decide (false = true) = true := by simpa using c188))
             (try (have c188b2 : (false == true) = true := by simpa using c188))
             clear c188
             have H' := Aside0.mk H
             clear H
             try go_wp2
             replace HO_275000 := Aside0.mk (Kd.R_drew HO_275000.out)
             replace HO_280001 := Aside0.mk (Kd.R_drew HO_280001.out)
             replace HO_288001 := Aside0.mk (Kd.R_drew HO_288001.out)
             replace BK266 := Aside0.mk (blk_drew BK266.out)
             replace BK267 := Aside0.mk (blk_drew BK267.out)
             replace BK274 := Aside0.mk (blk_drew BK274.out)
             replace BK279 := Aside0.mk (blk_drew BK279.out)
             replace BK287 := Aside0.mk (blk_drew BK287.out)
             replace HB := Aside0.mk (below_drew1 HB.out)
             refine start_ (n := 21) (S := fun w' => w'.cell? ⟨gb274, 0, none⟩ = some (.slice Ao12 y271.length co12) ∧ w'.cell? ⟨gb287, 0, none⟩ = some (.int .i64 t283) ∧ w'.cell? ⟨gb287, 1, none⟩ = some (.slice Ao145 t284.length co145) ∧ w'.cell? ⟨gb279, 0, none⟩ = some (.int .i64 t275) ∧ w'.cell? ⟨gb279, 1, none⟩ = some (.slice Ao25 t276.length co25) ∧ w'.cell? ⟨gb267, 0, none⟩ = some (.int .i64 a2_0) ∧ w'.cell? ⟨gb267, 1, none⟩ = some (.int .i64 a2_1) ∧ w'.cell? ⟨gb267, 2, none⟩ = some (.int .i64 a2_2) ∧ w'.cell? ⟨gb267, 3, none⟩ = some (.slice A2_3 l2_3.length c2_3)) (ds := []) u_f21 (by kernel_rfl) rfl rfl ⟨uF BK274 0, uF BK287 0, uF BK287 1, uF BK279 0, uF BK279 1, uF BK267 0, uF BK267 1, uF BK267 2, uF BK267 3⟩ (fun hHeld => ?_); refine with_tabW colloquylaw20_MonRises.tab11 colloquylaw20_MonRises.bits11 (fun HT_ HW_ => ?_)
             generalize wr.drew = w189 at HO_275000 HO_280001 HO_288001 BK266 BK267 BK274 BK279 BK287 HB hHeld ⊢
             refine pure_ (i := 3) (N := some 116) (v := ?_) (a' := ?_) u_f3t1f17 rfl rfl (any_of HT_.out (by kernel_rfl)) (fun _ _ _ h => h) (Or.inl ⟨by rfl, ?_⟩) ?_ ?_
             rotate_left
             ·intro w'
              go_simp
              with_reducible rfl
             rotate_left
             ·exact uP
             refine pure_ (i := 9) (N := some 122) (v := ?_) (a' := ?_) u_f3t1f5t1f11 rfl rfl (any_of HT_.out (by kernel_rfl)) (fun _ _ _ h => h) (Or.inl ⟨by rfl, ?_⟩) ?_ ?_
             rotate_left
             ·intro w'
              go_simp
              with_reducible rfl
             rotate_left
             ·exact uP
             refine take_ (i := 0) (N := some 113) (v := ?_) (a' := ?_) u_t1f2t1f5t1f11 rfl rfl (take_ofW HT_.out HW_.out (by kernel_rfl)) (fun _ _ _ h => h) (Or.inl ⟨by rfl, ?_⟩) hHeld ?_ ?_
             rotate_left
             ·rintro w' ⟨s0, s1, s2, s3, s4, s5, s6, s7, s8⟩
              go_simp
              with_reducible rfl
             rotate_left
             ·exact uP
             refine take_ (i := 1) (N := some 114) (v := ?_) (a' := ?_) u_t2f1t1f5t1f11 rfl rfl (take_ofW HT_.out HW_.out (by kernel_rfl)) (fun _ _ _ h => h) (Or.inl ⟨by rfl, ?_⟩) hHeld ?_ ?_
             rotate_left
             ·rintro w' ⟨s0, s1, s2, s3, s4, s5, s6, s7, s8⟩
              go_simp
              with_reducible rfl
             rotate_left
             ·exact uP
             refine take_ (i := 6) (N := some 119) (v := ?_) (a' := ?_) u_t2f1t1f2t1f2t1f11 rfl rfl (take_ofW HT_.out HW_.out (by kernel_rfl)) (fun _ _ _ h => h) (Or.inl ⟨by rfl, ?_⟩) hHeld ?_ ?_
             rotate_left
             ·rintro w' ⟨s0, s1, s2, s3, s4, s5, s6, s7, s8⟩
              go_simp
              with_reducible rfl
             rotate_left
             ·exact uP
             refine take_ (i := 7) (N := some 120) (v := ?_) (a' := ?_) u_t2f1t1f2t2f1t1f11 rfl rfl (take_ofW HT_.out HW_.out (by kernel_rfl)) (fun _ _ _ h => h) (Or.inl ⟨by rfl, ?_⟩) hHeld ?_ ?_
             rotate_left
             ·rintro w' ⟨s0, s1, s2, s3, s4, s5, s6, s7, s8⟩
              go_simp
              with_reducible rfl
             rotate_left
             ·exact uP
             refine one_ (i := 2) (N := some 115) u_t4f2t2f1t1f11 rfl rfl (one_of HT_.out (by kernel_rfl)) (by decide) (fun K hK => ?_)
             refine goes_ Tryd.func12 (by kernel_rfl) rfl #[.agg #[.int .i64 t283, .slice Ao145 t284.length co145]] (by rfl) rfl rfl uC ?_
             with_reducible refine (mon_Mon_Pc.calls t283 _ _ t284 t301 _ ?side1 ?side2 A160.out).mono ?_
             (case side1 => exact uS (Kd.R_reads' HO_288001.out).2.2)
             (case side2 => exact (Kd.R_reads' HO_288001.out).2.1)
             rintro e w190 ⟨rfl, hb⟩
             refine ⟨_, rfl, ?_⟩
             replace HO_275000 := Aside0.mk (Kd.R_below (uR HO_275000) hb)
             replace HO_280001 := Aside0.mk (Kd.R_below (uR HO_280001) hb)
             replace HO_288001 := Aside0.mk (Kd.R_below (uR HO_288001) hb)
             replace BK266 := uD BK266 hb
             replace BK267 := uD BK267 hb
             replace BK274 := uD BK274 hb
             replace BK279 := uD BK279 hb
             replace BK287 := uD BK287 hb
             replace HB := Aside0.mk (below_step (uB5 HB GE266 GE267 GE274 GE279 GE287) hb)
             (try clear hb)
             (try clear hb2)
             (try clear hk)
             (try clear hi)
             refine hK.out _ _ ⟨uF BK274 0, uF BK287 0, uF BK287 1, uF BK279 0, uF BK279 1, uF BK267 0, uF BK267 1, uF BK267 2, uF BK267 3⟩ (fun hHeld => ?_)
             clear hK K
             refine norm_ (a' := ?_) ?_ ?_
             rotate_left
             ·show Act.put _ (some 115) _ = _
              exact uP
             refine one_ (i := 4) (N := some 117) u_t5f1t2f1t1f11 rfl rfl (one_of HT_.out (by kernel_rfl)) (by decide) (fun K hK => ?_)
             refine goes_ Tryd.func23 (by kernel_rfl) rfl #[.agg #[.slice Ao12 y271.length co12], .int .i64 t301, .int .i64 x10_2] (by rfl) rfl rfl uC ?_
             with_reducible refine (mon_May.calls k2 _ _ y271 t301 x10_2 (some q303) _ ?side1 ?side2 A161.out).mono ?_
             (case side1 => exact uS (Kd.R_reads' HO_275000.out).2.2)
             (case side2 => exact (Kd.R_reads' HO_275000.out).2.1)
             rintro e w191 ⟨rfl, hb⟩
             refine ⟨_, rfl, ?_⟩
             replace HO_275000 := Aside0.mk (Kd.R_below (uR HO_275000) hb)
             replace HO_280001 := Aside0.mk (Kd.R_below (uR HO_280001) hb)
             replace HO_288001 := Aside0.mk (Kd.R_below (uR HO_288001) hb)
             replace BK266 := uD BK266 hb
             replace BK267 := uD BK267 hb
             replace BK274 := uD BK274 hb
             replace BK279 := uD BK279 hb
             replace BK287 := uD BK287 hb
             replace HB := Aside0.mk (below_step (uB5 HB GE266 GE267 GE274 GE279 GE287) hb)
             (try clear hb)
             (try clear hb2)
             (try clear hk)
             (try clear hi)
             (try simp only [errW_none, errW_some])
             refine hK.out _ _ ⟨uF BK274 0, uF BK287 0, uF BK287 1, uF BK279 0, uF BK279 1, uF BK267 0, uF BK267 1, uF BK267 2, uF BK267 3⟩ (fun hHeld => ?_)
             clear hK K
             refine norm_ (a' := ?_) ?_ ?_
             rotate_left
             ·show Act.put _ (some 117) _ = _
              exact uP
             refine pure_ (i := 5) (N := some 118) (v := ?_) (a' := ?_) u_t8f1t1f11 rfl rfl (any_of HT_.out (by kernel_rfl)) (fun _ _ _ h => h) (Or.inl ⟨by rfl, ?_⟩) ?_ ?_
             rotate_left
             ·intro w'
              go_simp
              with_reducible rfl
             rotate_left
             ·exact uP
             refine one_ (i := 8) (N := some 121) u_t10f11 rfl rfl (one_of HT_.out (by kernel_rfl)) (by decide) (fun K hK => ?_)
             refine goes_ Tryd.func12 (by kernel_rfl) rfl #[.agg #[.int .i64 t275, .slice Ao25 t276.length co25]] (by rfl) rfl rfl uC ?_
             with_reducible refine (mon_Mon_Pc.calls t275 _ _ t276 t309 _ ?side1 ?side2 A185.out).mono ?_
             (case side1 => exact uS (Kd.R_reads' HO_280001.out).2.2)
             (case side2 => exact (Kd.R_reads' HO_280001.out).2.1)
             rintro e w192 ⟨rfl, hb⟩
             refine ⟨_, rfl, ?_⟩
             replace HO_275000 := Aside0.mk (Kd.R_below (uR HO_275000) hb)
             replace HO_280001 := Aside0.mk (Kd.R_below (uR HO_280001) hb)
             replace HO_288001 := Aside0.mk (Kd.R_below (uR HO_288001) hb)
             replace BK266 := uD BK266 hb
             replace BK267 := uD BK267 hb
             replace BK274 := uD BK274 hb
             replace BK279 := uD BK279 hb
             replace BK287 := uD BK287 hb
             replace HB := Aside0.mk (below_step (uB5 HB GE266 GE267 GE274 GE279 GE287) hb)
             (try clear hb)
             (try clear hb2)
             (try clear hk)
             (try clear hi)
             refine hK.out _ _ ⟨uF BK274 0, uF BK287 0, uF BK287 1, uF BK279 0, uF BK279 1, uF BK267 0, uF BK267 1, uF BK267 2, uF BK267 3⟩ (fun hHeld => ?_)
             clear hK K
             refine norm_ (a' := ?_) ?_ ?_
             rotate_left
             ·show Act.put _ (some 121) _ = _
              exact uP
             refine one_ (i := 10) (N := some 123) u_t11f10 rfl rfl (one_of HT_.out (by kernel_rfl)) (by decide) (fun K hK => ?_)
             refine goes_ Tryd.func23 (by kernel_rfl) rfl #[.agg #[.slice Ao12 y271.length co12], .int .i64 t309, .int .i64 x10_2] (by rfl) rfl rfl uC ?_
             with_reducible refine (mon_May.calls k2 _ _ y271 t309 x10_2 none _ ?side1 ?side2 A186.out).mono ?_
             (case side1 => exact uS (Kd.R_reads' HO_275000.out).2.2)
             (case side2 => exact (Kd.R_reads' HO_275000.out).2.1)
             rintro e w193 ⟨rfl, hb⟩
             refine ⟨_, rfl, ?_⟩
             replace HO_275000 := Aside0.mk (Kd.R_below (uR HO_275000) hb)
             replace HO_280001 := Aside0.mk (Kd.R_below (uR HO_280001) hb)
             replace HO_288001 := Aside0.mk (Kd.R_below (uR HO_288001) hb)
             replace BK266 := uD BK266 hb
             replace BK267 := uD BK267 hb
             replace BK274 := uD BK274 hb
             replace BK279 := uD BK279 hb
             replace BK287 := uD BK287 hb
             replace HB := Aside0.mk (below_step (uB5 HB GE266 GE267 GE274 GE279 GE287) hb)
             (try clear hb)
             (try clear hb2)
             (try clear hk)
             (try clear hi)
             (try simp only [errW_none, errW_some])
             refine hK.out _ _ ⟨uF BK274 0, uF BK287 0, uF BK287 1, uF BK279 0, uF BK279 1, uF BK267 0, uF BK267 1, uF BK267 2, uF BK267 3⟩ (fun hHeld => ?_)
             clear hK K
             refine norm_ (a' := ?_) ?_ ?_
             rotate_left
             ·show Act.put _ (some 123) _ = _
              exact uP
             refine pure_ (i := 11) (N := some 124) (v := ?_) (a' := ?_) u_t12f9 rfl rfl (any_of HT_.out (by kernel_rfl)) (fun _ _ _ h => h) (Or.inl ⟨by rfl, ?_⟩) ?_ ?_
             rotate_left
             ·intro w'
              go_simp
              with_reducible rfl
             rotate_left
             ·exact uP
             refine pure_ (i := 12) (N := some 125) (v := ?_) (a' := ?_) u_t13f8 rfl rfl (any_of HT_.out (by kernel_rfl)) (fun _ _ _ h => h) (Or.inl ⟨by rfl, ?_⟩) ?_ ?_
             rotate_left
             ·intro w'
              go_simp
              with_reducible rfl
             rotate_left
             ·exact uP
             refine pure_ (i := 14) (N := some 127) (v := ?_) (a' := ?_) u_t13f1t1f6 rfl rfl (any_of HT_.out (by kernel_rfl)) (fun _ _ _ h => h) (Or.inl ⟨by rfl, ?_⟩) ?_ ?_
             rotate_left
             ·intro w'
              go_simp
              with_reducible rfl
             rotate_left
             ·exact uP
             refine pure_ (i := 16) (N := some 129) (v := ?_) (a' := ?_) u_t13f1t1f1t1f4 rfl rfl (any_of HT_.out (by kernel_rfl)) (fun _ _ _ h => h) (Or.inl ⟨by rfl, ?_⟩) ?_ ?_
             rotate_left
             ·intro w'
              go_simp
              with_reducible rfl
             rotate_left
             ·exact uP
             refine take_ (i := 13) (N := some 126) (v := ?_) (a' := ?_) u_t15f1t1f4 rfl rfl (take_ofW HT_.out HW_.out (by kernel_rfl)) (fun _ _ _ h => h) (Or.inl ⟨by rfl, ?_⟩) hHeld ?_ ?_
             rotate_left
             ·rintro w' ⟨s0, s1, s2, s3, s4, s5, s6, s7, s8⟩
              go_simp
              with_reducible rfl
             rotate_left
             ·exact uP
             refine take_ (i := 15) (N := some 128) (v := ?_) (a' := ?_) u_t17f4 rfl rfl (take_ofW HT_.out HW_.out (by kernel_rfl)) (fun _ _ _ h => h) (Or.inl ⟨by rfl, ?_⟩) hHeld ?_ ?_
             rotate_left
             ·rintro w' ⟨s0, s1, s2, s3, s4, s5, s6, s7, s8⟩
              go_simp
              with_reducible rfl
             rotate_left
             ·exact uP
             refine one_ (i := 17) (N := some 130) u_t18f3 rfl rfl (one_of HT_.out (by kernel_rfl)) (by decide) (fun K hK => ?_)
             refine goes_ Tryd.func23 (by kernel_rfl) rfl #[.agg #[.slice Ao12 y271.length co12], .int .i64 a2_1, .int .i64 x10_2] (by rfl) rfl rfl uC ?_
             with_reducible refine (mon_May.calls k2 _ _ y271 a2_1 x10_2 none _ ?side1 ?side2 A187.out).mono ?_
             (case side1 => exact uS (Kd.R_reads' HO_275000.out).2.2)
             (case side2 => exact (Kd.R_reads' HO_275000.out).2.1)
             rintro e w194 ⟨rfl, hb⟩
             refine ⟨_, rfl, ?_⟩
             replace HO_275000 := Aside0.mk (Kd.R_below (uR HO_275000) hb)
             replace HO_280001 := Aside0.mk (Kd.R_below (uR HO_280001) hb)
             replace HO_288001 := Aside0.mk (Kd.R_below (uR HO_288001) hb)
             replace BK266 := uD BK266 hb
             replace BK267 := uD BK267 hb
             replace BK274 := uD BK274 hb
             replace BK279 := uD BK279 hb
             replace BK287 := uD BK287 hb
             replace HB := Aside0.mk (below_step (uB5 HB GE266 GE267 GE274 GE279 GE287) hb)
             (try clear hb)
             (try clear hb2)
             (try clear hk)
             (try clear hi)
             (try simp only [errW_none, errW_some])
             refine hK.out _ _ ⟨uF BK274 0, uF BK287 0, uF BK287 1, uF BK279 0, uF BK279 1, uF BK267 0, uF BK267 1, uF BK267 2, uF BK267 3⟩ (fun hHeld => ?_)
             clear hK K
             refine norm_ (a' := ?_) ?_ ?_
             rotate_left
             ·show Act.put _ (some 130) _ = _
              exact uP
             refine pure_ (i := 18) (N := some 131) (v := ?_) (a' := ?_) u_t19f2 rfl rfl (any_of HT_.out (by kernel_rfl)) (fun _ _ _ h => h) (Or.inl ⟨by rfl, ?_⟩) ?_ ?_
             rotate_left
             ·intro w'
              go_simp
              with_reducible rfl
             rotate_left
             ·exact uP
             refine pure_ (i := 19) (N := some 132) (v := ?_) (a' := ?_) u_t20f1 rfl rfl (any_of HT_.out (by kernel_rfl)) (fun _ _ _ h => h) (Or.inl ⟨by rfl, ?_⟩) ?_ ?_
             rotate_left
             ·intro w'
              go_simp
              with_reducible rfl
             rotate_left
             ·exact uP
             refine pure_ (i := 20) (N := some 133) (v := ?_) (a' := ?_) u_t21 rfl rfl (any_of HT_.out (by kernel_rfl)) (fun _ _ _ h => h) (Or.inl ⟨by rfl, ?_⟩) ?_ ?_
             rotate_left
             ·intro w'
              go_simp
              with_reducible rfl
             rotate_left
             ·exact uP
             refine done_ (done_of HT_.out (by kernel_rfl)) ?_
             try go_wp2
             go_roundg k2
             case measure => have := HJ5.out; have := HK2.out; omega
             case rel => exact ⟨(wrap64 (x10_2 + 1)), (by first | rfl | (simp; done) | (simp [*]; done)), H', ⟨by have := HJ5.out; have := HK2.out; omega⟩, ⟨uR HO_275000⟩, ⟨uR HO_280001⟩, ⟨uR HO_288001⟩, ⟨uK BK266⟩, ⟨uK BK267⟩, ⟨uK BK274⟩, ⟨uK BK279⟩, ⟨uK BK287⟩, ⟨uB5 HB GE266 GE267 GE274 GE279 GE287⟩⟩
            have H1 : (if (false != false) = true then (none) else (colloquylaw20_MonRises.l0 k2 l0 (wrap64 (x10_2 + 1)) a2_0 a2_1 a2_2 l2_3 y271 t275 t276 t283 t284)) = some r := by rw [if_neg (show ¬ (some q313).isNone = true by simp)] at H; exact H
            clear H
            have H := H1
            clear H1
            try simp only [errW_none, errW_some]
            by_cases c195 : (false != false) = true
            ·rw [if_pos c195] at H
             exact absurd H (by simp)
            rw [if_neg c195] at H
            have c195b0 : (false != false) = false := by simpa using c195
            (try (have c195b1 : decide (false = false) = true := by simpa using c195))
            (try (have c195b2 : (false == false) = true := by simpa using c195))
            clear c195
            have H' := Aside0.mk H
            clear H
            try go_wp2
            replace HO_275000 := Aside0.mk (Kd.R_drew HO_275000.out)
            replace HO_280001 := Aside0.mk (Kd.R_drew HO_280001.out)
            replace HO_288001 := Aside0.mk (Kd.R_drew HO_288001.out)
            replace BK266 := Aside0.mk (blk_drew BK266.out)
            replace BK267 := Aside0.mk (blk_drew BK267.out)
            replace BK274 := Aside0.mk (blk_drew BK274.out)
            replace BK279 := Aside0.mk (blk_drew BK279.out)
            replace BK287 := Aside0.mk (blk_drew BK287.out)
            replace HB := Aside0.mk (below_drew1 HB.out)
            refine start_ (n := 21) (S := fun w' => w'.cell? ⟨gb274, 0, none⟩ = some (.slice Ao12 y271.length co12) ∧ w'.cell? ⟨gb287, 0, none⟩ = some (.int .i64 t283) ∧ w'.cell? ⟨gb287, 1, none⟩ = some (.slice Ao145 t284.length co145) ∧ w'.cell? ⟨gb279, 0, none⟩ = some (.int .i64 t275) ∧ w'.cell? ⟨gb279, 1, none⟩ = some (.slice Ao25 t276.length co25) ∧ w'.cell? ⟨gb267, 0, none⟩ = some (.int .i64 a2_0) ∧ w'.cell? ⟨gb267, 1, none⟩ = some (.int .i64 a2_1) ∧ w'.cell? ⟨gb267, 2, none⟩ = some (.int .i64 a2_2) ∧ w'.cell? ⟨gb267, 3, none⟩ = some (.slice A2_3 l2_3.length c2_3)) (ds := []) u_f21 (by kernel_rfl) rfl rfl ⟨uF BK274 0, uF BK287 0, uF BK287 1, uF BK279 0, uF BK279 1, uF BK267 0, uF BK267 1, uF BK267 2, uF BK267 3⟩ (fun hHeld => ?_); refine with_tabW colloquylaw20_MonRises.tab11 colloquylaw20_MonRises.bits11 (fun HT_ HW_ => ?_)
            generalize wr.drew = w196 at HO_275000 HO_280001 HO_288001 BK266 BK267 BK274 BK279 BK287 HB hHeld ⊢
            refine pure_ (i := 3) (N := some 116) (v := ?_) (a' := ?_) u_f3t1f17 rfl rfl (any_of HT_.out (by kernel_rfl)) (fun _ _ _ h => h) (Or.inl ⟨by rfl, ?_⟩) ?_ ?_
            rotate_left
            ·intro w'
             go_simp
             with_reducible rfl
            rotate_left
            ·exact uP
            refine pure_ (i := 9) (N := some 122) (v := ?_) (a' := ?_) u_f3t1f5t1f11 rfl rfl (any_of HT_.out (by kernel_rfl)) (fun _ _ _ h => h) (Or.inl ⟨by rfl, ?_⟩) ?_ ?_
            rotate_left
            ·intro w'
             go_simp
             with_reducible rfl
            rotate_left
            ·exact uP
            refine take_ (i := 0) (N := some 113) (v := ?_) (a' := ?_) u_t1f2t1f5t1f11 rfl rfl (take_ofW HT_.out HW_.out (by kernel_rfl)) (fun _ _ _ h => h) (Or.inl ⟨by rfl, ?_⟩) hHeld ?_ ?_
            rotate_left
            ·rintro w' ⟨s0, s1, s2, s3, s4, s5, s6, s7, s8⟩
             go_simp
             with_reducible rfl
            rotate_left
            ·exact uP
            refine take_ (i := 1) (N := some 114) (v := ?_) (a' := ?_) u_t2f1t1f5t1f11 rfl rfl (take_ofW HT_.out HW_.out (by kernel_rfl)) (fun _ _ _ h => h) (Or.inl ⟨by rfl, ?_⟩) hHeld ?_ ?_
            rotate_left
            ·rintro w' ⟨s0, s1, s2, s3, s4, s5, s6, s7, s8⟩
             go_simp
             with_reducible rfl
            rotate_left
            ·exact uP
            refine take_ (i := 6) (N := some 119) (v := ?_) (a' := ?_) u_t2f1t1f2t1f2t1f11 rfl rfl (take_ofW HT_.out HW_.out (by kernel_rfl)) (fun _ _ _ h => h) (Or.inl ⟨by rfl, ?_⟩) hHeld ?_ ?_
            rotate_left
            ·rintro w' ⟨s0, s1, s2, s3, s4, s5, s6, s7, s8⟩
             go_simp
             with_reducible rfl
            rotate_left
            ·exact uP
            refine take_ (i := 7) (N := some 120) (v := ?_) (a' := ?_) u_t2f1t1f2t2f1t1f11 rfl rfl (take_ofW HT_.out HW_.out (by kernel_rfl)) (fun _ _ _ h => h) (Or.inl ⟨by rfl, ?_⟩) hHeld ?_ ?_
            rotate_left
            ·rintro w' ⟨s0, s1, s2, s3, s4, s5, s6, s7, s8⟩
             go_simp
             with_reducible rfl
            rotate_left
            ·exact uP
            refine one_ (i := 2) (N := some 115) u_t4f2t2f1t1f11 rfl rfl (one_of HT_.out (by kernel_rfl)) (by decide) (fun K hK => ?_)
            refine goes_ Tryd.func12 (by kernel_rfl) rfl #[.agg #[.int .i64 t283, .slice Ao145 t284.length co145]] (by rfl) rfl rfl uC ?_
            with_reducible refine (mon_Mon_Pc.calls t283 _ _ t284 t301 _ ?side1 ?side2 A160.out).mono ?_
            (case side1 => exact uS (Kd.R_reads' HO_288001.out).2.2)
            (case side2 => exact (Kd.R_reads' HO_288001.out).2.1)
            rintro e w197 ⟨rfl, hb⟩
            refine ⟨_, rfl, ?_⟩
            replace HO_275000 := Aside0.mk (Kd.R_below (uR HO_275000) hb)
            replace HO_280001 := Aside0.mk (Kd.R_below (uR HO_280001) hb)
            replace HO_288001 := Aside0.mk (Kd.R_below (uR HO_288001) hb)
            replace BK266 := uD BK266 hb
            replace BK267 := uD BK267 hb
            replace BK274 := uD BK274 hb
            replace BK279 := uD BK279 hb
            replace BK287 := uD BK287 hb
            replace HB := Aside0.mk (below_step (uB5 HB GE266 GE267 GE274 GE279 GE287) hb)
            (try clear hb)
            (try clear hb2)
            (try clear hk)
            (try clear hi)
            refine hK.out _ _ ⟨uF BK274 0, uF BK287 0, uF BK287 1, uF BK279 0, uF BK279 1, uF BK267 0, uF BK267 1, uF BK267 2, uF BK267 3⟩ (fun hHeld => ?_)
            clear hK K
            refine norm_ (a' := ?_) ?_ ?_
            rotate_left
            ·show Act.put _ (some 115) _ = _
             exact uP
            refine one_ (i := 4) (N := some 117) u_t5f1t2f1t1f11 rfl rfl (one_of HT_.out (by kernel_rfl)) (by decide) (fun K hK => ?_)
            refine goes_ Tryd.func23 (by kernel_rfl) rfl #[.agg #[.slice Ao12 y271.length co12], .int .i64 t301, .int .i64 x10_2] (by rfl) rfl rfl uC ?_
            with_reducible refine (mon_May.calls k2 _ _ y271 t301 x10_2 (some q303) _ ?side1 ?side2 A161.out).mono ?_
            (case side1 => exact uS (Kd.R_reads' HO_275000.out).2.2)
            (case side2 => exact (Kd.R_reads' HO_275000.out).2.1)
            rintro e w198 ⟨rfl, hb⟩
            refine ⟨_, rfl, ?_⟩
            replace HO_275000 := Aside0.mk (Kd.R_below (uR HO_275000) hb)
            replace HO_280001 := Aside0.mk (Kd.R_below (uR HO_280001) hb)
            replace HO_288001 := Aside0.mk (Kd.R_below (uR HO_288001) hb)
            replace BK266 := uD BK266 hb
            replace BK267 := uD BK267 hb
            replace BK274 := uD BK274 hb
            replace BK279 := uD BK279 hb
            replace BK287 := uD BK287 hb
            replace HB := Aside0.mk (below_step (uB5 HB GE266 GE267 GE274 GE279 GE287) hb)
            (try clear hb)
            (try clear hb2)
            (try clear hk)
            (try clear hi)
            (try simp only [errW_none, errW_some])
            refine hK.out _ _ ⟨uF BK274 0, uF BK287 0, uF BK287 1, uF BK279 0, uF BK279 1, uF BK267 0, uF BK267 1, uF BK267 2, uF BK267 3⟩ (fun hHeld => ?_)
            clear hK K
            refine norm_ (a' := ?_) ?_ ?_
            rotate_left
            ·show Act.put _ (some 117) _ = _
             exact uP
            refine pure_ (i := 5) (N := some 118) (v := ?_) (a' := ?_) u_t8f1t1f11 rfl rfl (any_of HT_.out (by kernel_rfl)) (fun _ _ _ h => h) (Or.inl ⟨by rfl, ?_⟩) ?_ ?_
            rotate_left
            ·intro w'
             go_simp
             with_reducible rfl
            rotate_left
            ·exact uP
            refine one_ (i := 8) (N := some 121) u_t10f11 rfl rfl (one_of HT_.out (by kernel_rfl)) (by decide) (fun K hK => ?_)
            refine goes_ Tryd.func12 (by kernel_rfl) rfl #[.agg #[.int .i64 t275, .slice Ao25 t276.length co25]] (by rfl) rfl rfl uC ?_
            with_reducible refine (mon_Mon_Pc.calls t275 _ _ t276 t309 _ ?side1 ?side2 A185.out).mono ?_
            (case side1 => exact uS (Kd.R_reads' HO_280001.out).2.2)
            (case side2 => exact (Kd.R_reads' HO_280001.out).2.1)
            rintro e w199 ⟨rfl, hb⟩
            refine ⟨_, rfl, ?_⟩
            replace HO_275000 := Aside0.mk (Kd.R_below (uR HO_275000) hb)
            replace HO_280001 := Aside0.mk (Kd.R_below (uR HO_280001) hb)
            replace HO_288001 := Aside0.mk (Kd.R_below (uR HO_288001) hb)
            replace BK266 := uD BK266 hb
            replace BK267 := uD BK267 hb
            replace BK274 := uD BK274 hb
            replace BK279 := uD BK279 hb
            replace BK287 := uD BK287 hb
            replace HB := Aside0.mk (below_step (uB5 HB GE266 GE267 GE274 GE279 GE287) hb)
            (try clear hb)
            (try clear hb2)
            (try clear hk)
            (try clear hi)
            refine hK.out _ _ ⟨uF BK274 0, uF BK287 0, uF BK287 1, uF BK279 0, uF BK279 1, uF BK267 0, uF BK267 1, uF BK267 2, uF BK267 3⟩ (fun hHeld => ?_)
            clear hK K
            refine norm_ (a' := ?_) ?_ ?_
            rotate_left
            ·show Act.put _ (some 121) _ = _
             exact uP
            refine one_ (i := 10) (N := some 123) u_t11f10 rfl rfl (one_of HT_.out (by kernel_rfl)) (by decide) (fun K hK => ?_)
            refine goes_ Tryd.func23 (by kernel_rfl) rfl #[.agg #[.slice Ao12 y271.length co12], .int .i64 t309, .int .i64 x10_2] (by rfl) rfl rfl uC ?_
            with_reducible refine (mon_May.calls k2 _ _ y271 t309 x10_2 none _ ?side1 ?side2 A186.out).mono ?_
            (case side1 => exact uS (Kd.R_reads' HO_275000.out).2.2)
            (case side2 => exact (Kd.R_reads' HO_275000.out).2.1)
            rintro e w200 ⟨rfl, hb⟩
            refine ⟨_, rfl, ?_⟩
            replace HO_275000 := Aside0.mk (Kd.R_below (uR HO_275000) hb)
            replace HO_280001 := Aside0.mk (Kd.R_below (uR HO_280001) hb)
            replace HO_288001 := Aside0.mk (Kd.R_below (uR HO_288001) hb)
            replace BK266 := uD BK266 hb
            replace BK267 := uD BK267 hb
            replace BK274 := uD BK274 hb
            replace BK279 := uD BK279 hb
            replace BK287 := uD BK287 hb
            replace HB := Aside0.mk (below_step (uB5 HB GE266 GE267 GE274 GE279 GE287) hb)
            (try clear hb)
            (try clear hb2)
            (try clear hk)
            (try clear hi)
            (try simp only [errW_none, errW_some])
            refine hK.out _ _ ⟨uF BK274 0, uF BK287 0, uF BK287 1, uF BK279 0, uF BK279 1, uF BK267 0, uF BK267 1, uF BK267 2, uF BK267 3⟩ (fun hHeld => ?_)
            clear hK K
            refine norm_ (a' := ?_) ?_ ?_
            rotate_left
            ·show Act.put _ (some 123) _ = _
             exact uP
            refine pure_ (i := 11) (N := some 124) (v := ?_) (a' := ?_) u_t12f9 rfl rfl (any_of HT_.out (by kernel_rfl)) (fun _ _ _ h => h) (Or.inl ⟨by rfl, ?_⟩) ?_ ?_
            rotate_left
            ·intro w'
             go_simp
             with_reducible rfl
            rotate_left
            ·exact uP
            refine pure_ (i := 12) (N := some 125) (v := ?_) (a' := ?_) u_t13f8 rfl rfl (any_of HT_.out (by kernel_rfl)) (fun _ _ _ h => h) (Or.inl ⟨by rfl, ?_⟩) ?_ ?_
            rotate_left
            ·intro w'
             go_simp
             with_reducible rfl
            rotate_left
            ·exact uP
            refine pure_ (i := 14) (N := some 127) (v := ?_) (a' := ?_) u_t13f1t1f6 rfl rfl (any_of HT_.out (by kernel_rfl)) (fun _ _ _ h => h) (Or.inl ⟨by rfl, ?_⟩) ?_ ?_
            rotate_left
            ·intro w'
             go_simp
             with_reducible rfl
            rotate_left
            ·exact uP
            refine pure_ (i := 16) (N := some 129) (v := ?_) (a' := ?_) u_t13f1t1f1t1f4 rfl rfl (any_of HT_.out (by kernel_rfl)) (fun _ _ _ h => h) (Or.inl ⟨by rfl, ?_⟩) ?_ ?_
            rotate_left
            ·intro w'
             go_simp
             with_reducible rfl
            rotate_left
            ·exact uP
            refine take_ (i := 13) (N := some 126) (v := ?_) (a' := ?_) u_t15f1t1f4 rfl rfl (take_ofW HT_.out HW_.out (by kernel_rfl)) (fun _ _ _ h => h) (Or.inl ⟨by rfl, ?_⟩) hHeld ?_ ?_
            rotate_left
            ·rintro w' ⟨s0, s1, s2, s3, s4, s5, s6, s7, s8⟩
             go_simp
             with_reducible rfl
            rotate_left
            ·exact uP
            refine take_ (i := 15) (N := some 128) (v := ?_) (a' := ?_) u_t17f4 rfl rfl (take_ofW HT_.out HW_.out (by kernel_rfl)) (fun _ _ _ h => h) (Or.inl ⟨by rfl, ?_⟩) hHeld ?_ ?_
            rotate_left
            ·rintro w' ⟨s0, s1, s2, s3, s4, s5, s6, s7, s8⟩
             go_simp
             with_reducible rfl
            rotate_left
            ·exact uP
            refine one_ (i := 17) (N := some 130) u_t18f3 rfl rfl (one_of HT_.out (by kernel_rfl)) (by decide) (fun K hK => ?_)
            refine goes_ Tryd.func23 (by kernel_rfl) rfl #[.agg #[.slice Ao12 y271.length co12], .int .i64 a2_1, .int .i64 x10_2] (by rfl) rfl rfl uC ?_
            with_reducible refine (mon_May.calls k2 _ _ y271 a2_1 x10_2 (some q313) _ ?side1 ?side2 A187.out).mono ?_
            (case side1 => exact uS (Kd.R_reads' HO_275000.out).2.2)
            (case side2 => exact (Kd.R_reads' HO_275000.out).2.1)
            rintro e w201 ⟨rfl, hb⟩
            refine ⟨_, rfl, ?_⟩
            replace HO_275000 := Aside0.mk (Kd.R_below (uR HO_275000) hb)
            replace HO_280001 := Aside0.mk (Kd.R_below (uR HO_280001) hb)
            replace HO_288001 := Aside0.mk (Kd.R_below (uR HO_288001) hb)
            replace BK266 := uD BK266 hb
            replace BK267 := uD BK267 hb
            replace BK274 := uD BK274 hb
            replace BK279 := uD BK279 hb
            replace BK287 := uD BK287 hb
            replace HB := Aside0.mk (below_step (uB5 HB GE266 GE267 GE274 GE279 GE287) hb)
            (try clear hb)
            (try clear hb2)
            (try clear hk)
            (try clear hi)
            (try simp only [errW_none, errW_some])
            refine hK.out _ _ ⟨uF BK274 0, uF BK287 0, uF BK287 1, uF BK279 0, uF BK279 1, uF BK267 0, uF BK267 1, uF BK267 2, uF BK267 3⟩ (fun hHeld => ?_)
            clear hK K
            refine norm_ (a' := ?_) ?_ ?_
            rotate_left
            ·show Act.put _ (some 130) _ = _
             exact uP
            refine pure_ (i := 18) (N := some 131) (v := ?_) (a' := ?_) u_t19f2 rfl rfl (any_of HT_.out (by kernel_rfl)) (fun _ _ _ h => h) (Or.inl ⟨by rfl, ?_⟩) ?_ ?_
            rotate_left
            ·intro w'
             go_simp
             with_reducible rfl
            rotate_left
            ·exact uP
            refine pure_ (i := 19) (N := some 132) (v := ?_) (a' := ?_) u_t20f1 rfl rfl (any_of HT_.out (by kernel_rfl)) (fun _ _ _ h => h) (Or.inl ⟨by rfl, ?_⟩) ?_ ?_
            rotate_left
            ·intro w'
             go_simp
             with_reducible rfl
            rotate_left
            ·exact uP
            refine pure_ (i := 20) (N := some 133) (v := ?_) (a' := ?_) u_t21 rfl rfl (any_of HT_.out (by kernel_rfl)) (fun _ _ _ h => h) (Or.inl ⟨by rfl, ?_⟩) ?_ ?_
            rotate_left
            ·intro w'
             go_simp
             with_reducible rfl
            rotate_left
            ·exact uP
            refine done_ (done_of HT_.out (by kernel_rfl)) ?_
            try go_wp2
            go_roundg k2
            case measure => have := HJ5.out; have := HK2.out; omega
            case rel => exact ⟨(wrap64 (x10_2 + 1)), (by first | rfl | (simp; done) | (simp [*]; done)), H', ⟨by have := HJ5.out; have := HK2.out; omega⟩, ⟨uR HO_275000⟩, ⟨uR HO_280001⟩, ⟨uR HO_288001⟩, ⟨uK BK266⟩, ⟨uK BK267⟩, ⟨uK BK274⟩, ⟨uK BK279⟩, ⟨uK BK287⟩, ⟨uB5 HB GE266 GE267 GE274 GE279 GE287⟩⟩
           have H1 : (if (false != false) = true then (none) else (colloquylaw20_MonRises.l0 k2 l0 (wrap64 (x10_2 + 1)) a2_0 a2_1 a2_2 l2_3 y271 t275 t276 t283 t284)) = some r := by rw [if_neg (show ¬ (some q311).isNone = true by simp)] at H; exact H
           clear H
           have H := H1
           clear H1
           try simp only [errW_none, errW_some]
           by_cases c202 : (false != false) = true
           ·rw [if_pos c202] at H
            exact absurd H (by simp)
           rw [if_neg c202] at H
           have c202b0 : (false != false) = false := by simpa using c202
           (try (have c202b1 : decide (false = false) = true := by simpa using c202))
           (try (have c202b2 : (false == false) = true := by simpa using c202))
           clear c202
           have H' := Aside0.mk H
           clear H
           try go_wp2
           replace HO_275000 := Aside0.mk (Kd.R_drew HO_275000.out)
           replace HO_280001 := Aside0.mk (Kd.R_drew HO_280001.out)
           replace HO_288001 := Aside0.mk (Kd.R_drew HO_288001.out)
           replace BK266 := Aside0.mk (blk_drew BK266.out)
           replace BK267 := Aside0.mk (blk_drew BK267.out)
           replace BK274 := Aside0.mk (blk_drew BK274.out)
           replace BK279 := Aside0.mk (blk_drew BK279.out)
           replace BK287 := Aside0.mk (blk_drew BK287.out)
           replace HB := Aside0.mk (below_drew1 HB.out)
           refine start_ (n := 21) (S := fun w' => w'.cell? ⟨gb274, 0, none⟩ = some (.slice Ao12 y271.length co12) ∧ w'.cell? ⟨gb287, 0, none⟩ = some (.int .i64 t283) ∧ w'.cell? ⟨gb287, 1, none⟩ = some (.slice Ao145 t284.length co145) ∧ w'.cell? ⟨gb279, 0, none⟩ = some (.int .i64 t275) ∧ w'.cell? ⟨gb279, 1, none⟩ = some (.slice Ao25 t276.length co25)) (ds := []) u_f21 (by kernel_rfl) rfl rfl ⟨uF BK274 0, uF BK287 0, uF BK287 1, uF BK279 0, uF BK279 1⟩ (fun hHeld => ?_); refine with_tabW colloquylaw20_MonRises.tab11 colloquylaw20_MonRises.bits11 (fun HT_ HW_ => ?_)
           generalize wr.drew = w203 at HO_275000 HO_280001 HO_288001 BK266 BK267 BK274 BK279 BK287 HB hHeld ⊢
           refine pure_ (i := 3) (N := some 116) (v := ?_) (a' := ?_) u_f3t1f17 rfl rfl (any_of HT_.out (by kernel_rfl)) (fun _ _ _ h => h) (Or.inl ⟨by rfl, ?_⟩) ?_ ?_
           rotate_left
           ·intro w'
            go_simp
            with_reducible rfl
           rotate_left
           ·exact uP
           refine pure_ (i := 9) (N := some 122) (v := ?_) (a' := ?_) u_f3t1f5t1f11 rfl rfl (any_of HT_.out (by kernel_rfl)) (fun _ _ _ h => h) (Or.inl ⟨by rfl, ?_⟩) ?_ ?_
           rotate_left
           ·intro w'
            go_simp
            with_reducible rfl
           rotate_left
           ·exact uP
           refine take_ (i := 0) (N := some 113) (v := ?_) (a' := ?_) u_t1f2t1f5t1f11 rfl rfl (take_ofW HT_.out HW_.out (by kernel_rfl)) (fun _ _ _ h => h) (Or.inl ⟨by rfl, ?_⟩) hHeld ?_ ?_
           rotate_left
           ·rintro w' ⟨s0, s1, s2, s3, s4⟩
            go_simp
            with_reducible rfl
           rotate_left
           ·exact uP
           refine take_ (i := 1) (N := some 114) (v := ?_) (a' := ?_) u_t2f1t1f5t1f11 rfl rfl (take_ofW HT_.out HW_.out (by kernel_rfl)) (fun _ _ _ h => h) (Or.inl ⟨by rfl, ?_⟩) hHeld ?_ ?_
           rotate_left
           ·rintro w' ⟨s0, s1, s2, s3, s4⟩
            go_simp
            with_reducible rfl
           rotate_left
           ·exact uP
           refine take_ (i := 6) (N := some 119) (v := ?_) (a' := ?_) u_t2f1t1f2t1f2t1f11 rfl rfl (take_ofW HT_.out HW_.out (by kernel_rfl)) (fun _ _ _ h => h) (Or.inl ⟨by rfl, ?_⟩) hHeld ?_ ?_
           rotate_left
           ·rintro w' ⟨s0, s1, s2, s3, s4⟩
            go_simp
            with_reducible rfl
           rotate_left
           ·exact uP
           refine take_ (i := 7) (N := some 120) (v := ?_) (a' := ?_) u_t2f1t1f2t2f1t1f11 rfl rfl (take_ofW HT_.out HW_.out (by kernel_rfl)) (fun _ _ _ h => h) (Or.inl ⟨by rfl, ?_⟩) hHeld ?_ ?_
           rotate_left
           ·rintro w' ⟨s0, s1, s2, s3, s4⟩
            go_simp
            with_reducible rfl
           rotate_left
           ·exact uP
           refine one_ (i := 2) (N := some 115) u_t4f2t2f1t1f11 rfl rfl (one_of HT_.out (by kernel_rfl)) (by decide) (fun K hK => ?_)
           refine goes_ Tryd.func12 (by kernel_rfl) rfl #[.agg #[.int .i64 t283, .slice Ao145 t284.length co145]] (by rfl) rfl rfl uC ?_
           with_reducible refine (mon_Mon_Pc.calls t283 _ _ t284 t301 _ ?side1 ?side2 A160.out).mono ?_
           (case side1 => exact uS (Kd.R_reads' HO_288001.out).2.2)
           (case side2 => exact (Kd.R_reads' HO_288001.out).2.1)
           rintro e w204 ⟨rfl, hb⟩
           refine ⟨_, rfl, ?_⟩
           replace HO_275000 := Aside0.mk (Kd.R_below (uR HO_275000) hb)
           replace HO_280001 := Aside0.mk (Kd.R_below (uR HO_280001) hb)
           replace HO_288001 := Aside0.mk (Kd.R_below (uR HO_288001) hb)
           replace BK266 := uD BK266 hb
           replace BK267 := uD BK267 hb
           replace BK274 := uD BK274 hb
           replace BK279 := uD BK279 hb
           replace BK287 := uD BK287 hb
           replace HB := Aside0.mk (below_step (uB5 HB GE266 GE267 GE274 GE279 GE287) hb)
           (try clear hb)
           (try clear hb2)
           (try clear hk)
           (try clear hi)
           refine hK.out _ _ ⟨uF BK274 0, uF BK287 0, uF BK287 1, uF BK279 0, uF BK279 1⟩ (fun hHeld => ?_)
           clear hK K
           refine norm_ (a' := ?_) ?_ ?_
           rotate_left
           ·show Act.put _ (some 115) _ = _
            exact uP
           refine one_ (i := 4) (N := some 117) u_t5f1t2f1t1f11 rfl rfl (one_of HT_.out (by kernel_rfl)) (by decide) (fun K hK => ?_)
           refine goes_ Tryd.func23 (by kernel_rfl) rfl #[.agg #[.slice Ao12 y271.length co12], .int .i64 t301, .int .i64 x10_2] (by rfl) rfl rfl uC ?_
           with_reducible refine (mon_May.calls k2 _ _ y271 t301 x10_2 (some q303) _ ?side1 ?side2 A161.out).mono ?_
           (case side1 => exact uS (Kd.R_reads' HO_275000.out).2.2)
           (case side2 => exact (Kd.R_reads' HO_275000.out).2.1)
           rintro e w205 ⟨rfl, hb⟩
           refine ⟨_, rfl, ?_⟩
           replace HO_275000 := Aside0.mk (Kd.R_below (uR HO_275000) hb)
           replace HO_280001 := Aside0.mk (Kd.R_below (uR HO_280001) hb)
           replace HO_288001 := Aside0.mk (Kd.R_below (uR HO_288001) hb)
           replace BK266 := uD BK266 hb
           replace BK267 := uD BK267 hb
           replace BK274 := uD BK274 hb
           replace BK279 := uD BK279 hb
           replace BK287 := uD BK287 hb
           replace HB := Aside0.mk (below_step (uB5 HB GE266 GE267 GE274 GE279 GE287) hb)
           (try clear hb)
           (try clear hb2)
           (try clear hk)
           (try clear hi)
           (try simp only [errW_none, errW_some])
           refine hK.out _ _ ⟨uF BK274 0, uF BK287 0, uF BK287 1, uF BK279 0, uF BK279 1⟩ (fun hHeld => ?_)
           clear hK K
           refine norm_ (a' := ?_) ?_ ?_
           rotate_left
           ·show Act.put _ (some 117) _ = _
            exact uP
           refine pure_ (i := 5) (N := some 118) (v := ?_) (a' := ?_) u_t8f1t1f11 rfl rfl (any_of HT_.out (by kernel_rfl)) (fun _ _ _ h => h) (Or.inl ⟨by rfl, ?_⟩) ?_ ?_
           rotate_left
           ·intro w'
            go_simp
            with_reducible rfl
           rotate_left
           ·exact uP
           refine one_ (i := 8) (N := some 121) u_t10f11 rfl rfl (one_of HT_.out (by kernel_rfl)) (by decide) (fun K hK => ?_)
           refine goes_ Tryd.func12 (by kernel_rfl) rfl #[.agg #[.int .i64 t275, .slice Ao25 t276.length co25]] (by rfl) rfl rfl uC ?_
           with_reducible refine (mon_Mon_Pc.calls t275 _ _ t276 t309 _ ?side1 ?side2 A185.out).mono ?_
           (case side1 => exact uS (Kd.R_reads' HO_280001.out).2.2)
           (case side2 => exact (Kd.R_reads' HO_280001.out).2.1)
           rintro e w206 ⟨rfl, hb⟩
           refine ⟨_, rfl, ?_⟩
           replace HO_275000 := Aside0.mk (Kd.R_below (uR HO_275000) hb)
           replace HO_280001 := Aside0.mk (Kd.R_below (uR HO_280001) hb)
           replace HO_288001 := Aside0.mk (Kd.R_below (uR HO_288001) hb)
           replace BK266 := uD BK266 hb
           replace BK267 := uD BK267 hb
           replace BK274 := uD BK274 hb
           replace BK279 := uD BK279 hb
           replace BK287 := uD BK287 hb
           replace HB := Aside0.mk (below_step (uB5 HB GE266 GE267 GE274 GE279 GE287) hb)
           (try clear hb)
           (try clear hb2)
           (try clear hk)
           (try clear hi)
           refine hK.out _ _ ⟨uF BK274 0, uF BK287 0, uF BK287 1, uF BK279 0, uF BK279 1⟩ (fun hHeld => ?_)
           clear hK K
           refine norm_ (a' := ?_) ?_ ?_
           rotate_left
           ·show Act.put _ (some 121) _ = _
            exact uP
           refine one_ (i := 10) (N := some 123) u_t11f10 rfl rfl (one_of HT_.out (by kernel_rfl)) (by decide) (fun K hK => ?_)
           refine goes_ Tryd.func23 (by kernel_rfl) rfl #[.agg #[.slice Ao12 y271.length co12], .int .i64 t309, .int .i64 x10_2] (by rfl) rfl rfl uC ?_
           with_reducible refine (mon_May.calls k2 _ _ y271 t309 x10_2 (some q311) _ ?side1 ?side2 A186.out).mono ?_
           (case side1 => exact uS (Kd.R_reads' HO_275000.out).2.2)
           (case side2 => exact (Kd.R_reads' HO_275000.out).2.1)
           rintro e w207 ⟨rfl, hb⟩
           refine ⟨_, rfl, ?_⟩
           replace HO_275000 := Aside0.mk (Kd.R_below (uR HO_275000) hb)
           replace HO_280001 := Aside0.mk (Kd.R_below (uR HO_280001) hb)
           replace HO_288001 := Aside0.mk (Kd.R_below (uR HO_288001) hb)
           replace BK266 := uD BK266 hb
           replace BK267 := uD BK267 hb
           replace BK274 := uD BK274 hb
           replace BK279 := uD BK279 hb
           replace BK287 := uD BK287 hb
           replace HB := Aside0.mk (below_step (uB5 HB GE266 GE267 GE274 GE279 GE287) hb)
           (try clear hb)
           (try clear hb2)
           (try clear hk)
           (try clear hi)
           (try simp only [errW_none, errW_some])
           refine hK.out _ _ ⟨uF BK274 0, uF BK287 0, uF BK287 1, uF BK279 0, uF BK279 1⟩ (fun hHeld => ?_)
           clear hK K
           refine norm_ (a' := ?_) ?_ ?_
           rotate_left
           ·show Act.put _ (some 123) _ = _
            exact uP
           refine pure_ (i := 11) (N := some 124) (v := ?_) (a' := ?_) u_t12f9 rfl rfl (any_of HT_.out (by kernel_rfl)) (fun _ _ _ h => h) (Or.inl ⟨by rfl, ?_⟩) ?_ ?_
           rotate_left
           ·intro w'
            go_simp
            with_reducible rfl
           rotate_left
           ·exact uP
           refine pure_ (i := 12) (N := some 125) (v := ?_) (a' := ?_) u_t13f8 rfl rfl (any_of HT_.out (by kernel_rfl)) (fun _ _ _ h => h) (Or.inl ⟨by rfl, ?_⟩) ?_ ?_
           rotate_left
           ·intro w'
            go_simp
            with_reducible rfl
           rotate_left
           ·exact uP
           refine pure_ (i := 13) (N := some 126) (v := undef) (a' := ?_) u_t14f7 rfl rfl (any_of HT_.out (by kernel_rfl)) (fun _ _ _ h => h) (Or.inr ⟨by rfl, rfl⟩) ?_ ?_
           rotate_left
           ·exact uP
           refine pure_ (i := 14) (N := some 127) (v := undef) (a' := ?_) u_t15f6 rfl rfl (any_of HT_.out (by kernel_rfl)) (fun _ _ _ h => h) (Or.inr ⟨by rfl, rfl⟩) ?_ ?_
           rotate_left
           ·exact uP
           refine pure_ (i := 15) (N := some 128) (v := undef) (a' := ?_) u_t16f5 rfl rfl (any_of HT_.out (by kernel_rfl)) (fun _ _ _ h => h) (Or.inr ⟨by rfl, rfl⟩) ?_ ?_
           rotate_left
           ·exact uP
           refine pure_ (i := 16) (N := some 129) (v := undef) (a' := ?_) u_t17f4 rfl rfl (any_of HT_.out (by kernel_rfl)) (fun _ _ _ h => h) (Or.inr ⟨by rfl, rfl⟩) ?_ ?_
           rotate_left
           ·exact uP
           refine pure_ (i := 17) (N := some 130) (v := undef) (a' := ?_) u_t18f3 rfl rfl (any_of HT_.out (by kernel_rfl)) (fun _ _ _ h => h) (Or.inr ⟨by rfl, rfl⟩) ?_ ?_
           rotate_left
           ·exact uP
           refine pure_ (i := 18) (N := some 131) (v := undef) (a' := ?_) u_t19f2 rfl rfl (any_of HT_.out (by kernel_rfl)) (fun _ _ _ h => h) (Or.inr ⟨by rfl, rfl⟩) ?_ ?_
           rotate_left
           ·exact uP
           refine pure_ (i := 19) (N := some 132) (v := ?_) (a' := ?_) u_t20f1 rfl rfl (any_of HT_.out (by kernel_rfl)) (fun _ _ _ h => h) (Or.inl ⟨by rfl, ?_⟩) ?_ ?_
           rotate_left
           ·intro w'
            go_simp
            with_reducible rfl
           rotate_left
           ·exact uP
           refine pure_ (i := 20) (N := some 133) (v := ?_) (a' := ?_) u_t21 rfl rfl (any_of HT_.out (by kernel_rfl)) (fun _ _ _ h => h) (Or.inl ⟨by rfl, ?_⟩) ?_ ?_
           rotate_left
           ·intro w'
            go_simp
            with_reducible rfl
           rotate_left
           ·exact uP
           refine done_ (done_of HT_.out (by kernel_rfl)) ?_
           try go_wp2
           go_roundg k2
           case measure => have := HJ5.out; have := HK2.out; omega
           case rel => exact ⟨(wrap64 (x10_2 + 1)), (by first | rfl | (simp; done) | (simp [*]; done)), H', ⟨by have := HJ5.out; have := HK2.out; omega⟩, ⟨uR HO_275000⟩, ⟨uR HO_280001⟩, ⟨uR HO_288001⟩, ⟨uK BK266⟩, ⟨uK BK267⟩, ⟨uK BK274⟩, ⟨uK BK279⟩, ⟨uK BK287⟩, ⟨uB5 HB GE266 GE267 GE274 GE279 GE287⟩⟩
          rw [if_neg c159] at H
          have c159b0 : decide (x10_2 < (l0.length : Int)) = false := decide_eq_false c159
          clear c159
          replace H := Option.bind_eq_some_iff.mp H
          obtain ⟨t300, A2080, H⟩ := H
          replace H : (some t300) = some r := H
          have A208 := Aside0.mk A2080
          clear A2080
          obtain rfl := Option.some.inj H
          go_wp2_with (first | ((with_reducible refine gate_callee (f := 7) rfl ?_); refine goesL_ (some 134) rfl rfl Tryd.func7 (by kernel_rfl) rfl #[] rfl uC ?_; (with_reducible refine (colloquylaw20_sure.calls k2  t300 _ ?side1 A208.out).mono ?_); (case side1 => exact HG.out.below (uB5 HB GE266 GE267 GE274 GE279 GE287)); rintro e w209 ⟨rfl, hb⟩; refine ⟨_, rfl, ?_⟩; replace BK266 := uD BK266 hb; replace BK267 := uD BK267 hb; replace BK274 := uD BK274 hb; replace BK279 := uD BK279 hb; replace BK287 := uD BK287 hb; replace HB := Aside0.mk (below_step (uB5 HB GE266 GE267 GE274 GE279 GE287) hb); (try clear hb); (try clear hb2); (try clear hk); (try clear hi)))
          go_ret
          exact ⟨by first | rfl | (simp [errW_none, errW_some] <;> rfl) | (simp [*, errW_none, errW_some] <;> rfl), uB5 HB GE266 GE267 GE274 GE279 GE287⟩
       rw [if_neg c128] at H
       exact absurd H (by simp)
      replace c125 := Bool.eq_false_iff.mpr c125
      subst c125
      have H1 : (none) = some r := by rw [if_neg (show ¬ (false = true) by decide)] at H; exact H
      clear H
      have H := H1
      clear H1
      exact absurd H (by simp)
     replace c122 := Bool.eq_false_iff.mpr c122
     subst c122
     have H1 : (none) = some r := by rw [if_neg (show ¬ (false = true) by decide)] at H; exact H
     clear H
     have H := H1
     clear H1
     exact absurd H (by simp)
    have H1 : (none) = some r := by rw [if_neg (show ¬ (some q289).isNone = true by simp)] at H; exact H
    clear H
    have H := H1
    clear H1
    try simp only [errW_none, errW_some]
    exact absurd H (by simp)
 rw [if_neg c4] at H
 exact absurd H (by simp)

/-- THE ONE PURE STATEMENT of colloquylaw20_MonRises: yours. -/
def colloquylaw20_MonRises.Pure : Prop := ∀ (l0 : List Int) (a1_0 : Int) (l1_1 : List (S62)) (a2_0 : Int) (a2_1 : Int) (a2_2 : Int) (l2_3 : List Int), l0.length ≤ maxLen → l0.length * 1 ≤ 140737488351232 → (∀ x ∈ l0, (Lit.int .u8 x).wf = true) → (Lit.int .i64 a1_0).wf = true → l1_1.length ≤ maxLen → l1_1.length * 24 ≤ 140737488351232 → (∀ y_ ∈ l1_1, ((Lit.int .i64 y_.f0).wf = true) ∧ ((Lit.int .i64 y_.f1).wf = true) ∧ ((Lit.int .i64 y_.f2).wf = true)) → (Lit.int .i64 a2_0).wf = true → (Lit.int .i64 a2_1).wf = true → (Lit.int .i64 a2_2).wf = true → l2_3.length ≤ maxLen → l2_3.length * 8 ≤ 140737488351232 → (∀ y_ ∈ l2_3, (Lit.int .i64 y_).wf = true) → ∃ k, colloquylaw20_MonRises.f k l0 a1_0 l1_1 a2_0 a2_1 a2_2 l2_3 = some true
theorem colloquylaw20_MonRises.walk (P : colloquylaw20_MonRises.Pure) (a0 : Option Addr) (len0 cap0 : Nat) (z0 : List Int) (a1_0 : Int) (A1_1 : Option Addr) (c1_1 : Nat) (l1_1 : List (S62)) (a2_0 : Int) (a2_1 : Int) (a2_2 : Int) (A2_3 : Option Addr) (c2_3 : Nat) (l2_3 : List Int) (w : World) (hg : Go.Proofs.YtodfomkhhfcnhaaDoor.AsNum.GP w) (w0 : (a0 = none ∧ len0 = 0 ∧ cap0 = 0 ∧ z0 = []) ∨ ∃ x, a0 = some x ∧ len0 ≤ cap0 ∧ cap0 ≤ maxLen ∧ z0.length = cap0 ∧ (∀ i, i < z0.length → w.cell? (x.add i) = some (.int .u8 (z0.getD i 0))) ∧ ∀ n ∈ z0, (Lit.int .u8 n).wf = true) (y0 : len0 * 1 ≤ 140737488351232) (w1_0 : (Lit.int .i64 a1_0).wf = true) (hr1_1 : Kd.C k62 w A1_1 l1_1.length l1_1) (hc1_1 : l1_1.length ≤ c1_1) (m1_1 : l1_1.length ≤ maxLen) (z1_1 : l1_1.length * 24 ≤ 140737488351232) (e1_1 : ∀ y_ ∈ l1_1, ((Lit.int .i64 y_.f0).wf = true) ∧ ((Lit.int .i64 y_.f1).wf = true) ∧ ((Lit.int .i64 y_.f2).wf = true)) (w2_0 : (Lit.int .i64 a2_0).wf = true) (w2_1 : (Lit.int .i64 a2_1).wf = true) (w2_2 : (Lit.int .i64 a2_2).wf = true) (hr2_3 : Kd.C (Kd.int .i64) w A2_3 l2_3.length l2_3) (hc2_3 : l2_3.length ≤ c2_3) (m2_3 : l2_3.length ≤ maxLen) (z2_3 : l2_3.length * 8 ≤ 140737488351232) (e2_3 : ∀ y_ ∈ l2_3, (Lit.int .i64 y_).wf = true) :
  Calls Tryd.prog 5 #[.slice a0 len0 cap0, .agg #[.int .i64 a1_0, .slice A1_1 l1_1.length c1_1], .agg #[.int .i64 a2_0, .int .i64 a2_1, .int .i64 a2_2, .slice A2_3 l2_3.length c2_3]] w fun e w' => e = .returned (.bool true) ∧ Below w.heap.size w w' := by
 obtain ⟨l0, rfl, hr0, hm0, hw0, hc0⟩ := ReadsInt.ofRowC w0
 obtain ⟨k, h⟩ := P l0 a1_0 l1_1 a2_0 a2_1 a2_2 l2_3 hm0 y0 hw0 w1_0 m1_1 z1_1 e1_1 w2_0 w2_1 w2_2 m2_3 z2_3 e2_3
 refine (colloquylaw20_MonRises.calls k _ _ l0 a1_0 A1_1 c1_1 l1_1 a2_0 a2_1 a2_2 A2_3 c2_3 l2_3 true w (Kd.C_of_reads (d := (0 : Int)) (h1 := fun _ => rfl) hr0) hc0 hr1_1 hc1_1 hr2_3 hc2_3 hg h).mono ?_
 rintro e w' ⟨rfl, hd⟩
 exact ⟨rfl, hd⟩

end Go.Proofs.YtodfomkhhfcnhaaDoor.PMonRises
