/- The functions that the law reaches, as plain functions of lists and numbers, and that a call of the Go code comes to just their answers; laid by this repo's own program over the seat's translation. Conditions: each contract's own premises. -/
import Derived.Test.YtodfomkhhfcnhaaDoorPMonBackx0
import Derived.Test.YtodfomkhhfcnhaaDoorPMonBackx2
namespace Go.Proofs.YtodfomkhhfcnhaaDoor.PMonBack
open Go.RowKit Go.Proofs.YtodfomkhhfcnhaaDoorW.PrintWords Go.Proofs.YtodfomkhhfcnhaaDoorW.PrintLast Go.Proofs.YtodfomkhhfcnhaaDoorW.PrintMore
attribute [local go_sem] max2_int min2_int max_two min_two max_three min_three max_four min_four   -- for this text's walks alone
set_option linter.unusedVariables false
set_option linter.unusedSimpArgs false

/-! ### lattice_Check: function 28 -/
mutual
def lattice_Check.j0 : Nat → Bool → List Int → Option (Option Int)
 | 0, _, _ => none
 | k + 1, x19, x116000 => if x19 = true then (some (some 7)) else (lattice_Check.l0 k (x116000.length : Int) 0 x116000)
def lattice_Check.l0 : Nat → Int → Int → List Int → Option (Option Int)
 | 0, _, _, _ => none
 | k + 1, x23, x24, x116000 => if x24 < x23 then (lattice_Check.l1 k x24 x23 x24 x24 0 x116000) else (some none)
def lattice_Check.l1 : Nat → Int → Int → Int → Int → Int → List Int → Option (Option Int)
 | 0, _, _, _, _, _, _ => none
 | k + 1, x3, x23, x24, x27, x28, x116000 => if x28 < x27 then (if 0 ≤ x3 then (if x3 < (x116000.length : Int) then (if 0 ≤ x28 then (if x28 < (x116000.length : Int) then ((lattice_Lat_least.f k x116000 (Go.bits .and .u8 (rd x116000 x3) (rd x116000 x28))).bind fun t119 => (if t119 < 0 then (some (some 7)) else ((lattice_Lat_down.f k x116000 x3).bind fun t120 => ((lattice_Lat_down.f k x116000 x28).bind fun t121 => ((lattice_Lat_greatest.f k x116000 (Go.bits .and .u8 t120 t121)).bind fun t122 => (if t122 < 0 then (some (some 7)) else (lattice_Check.l1 k x3 x23 x24 x27 (wrap64 (x28 + 1)) x116000))))))) else (none)) else (none)) else (none)) else (none)) else (lattice_Check.l0 k x23 (wrap64 (x24 + 1)) x116000)
end
def lattice_Check.f (k : Nat) (l0_0 : List Int) : Option (Option Int) := if (l0_0.length : Int) < 1 then (lattice_Check.j0 k true l0_0) else (if (l0_0.length : Int) > 8 then (lattice_Check.j0 k true l0_0) else ((lattice_Lat_ordered.f k l0_0).bind fun t116 => (lattice_Check.j0 k (!t116) l0_0)))
theorem lattice_Check.mono_l : ∀ k, (∀ y0 y1, LeO (lattice_Check.j0 k y0 y1) (lattice_Check.j0 (k + 1) y0 y1)) ∧ (∀ y0 y1 y2, LeO (lattice_Check.l0 k y0 y1 y2) (lattice_Check.l0 (k + 1) y0 y1 y2)) ∧ (∀ y0 y1 y2 y3 y4 y5, LeO (lattice_Check.l1 k y0 y1 y2 y3 y4 y5) (lattice_Check.l1 (k + 1) y0 y1 y2 y3 y4 y5))
 | 0 => ⟨fun _ _ r h => by simp [lattice_Check.j0] at h, fun _ _ _ r h => by simp [lattice_Check.l0] at h, fun _ _ _ _ _ _ r h => by simp [lattice_Check.l1] at h⟩
 | k + 1 => by
  obtain ⟨ih0, ih1, ih2⟩ := lattice_Check.mono_l k
  refine ⟨?_, ?_, ?_⟩
  ·intro y0 y1
   unfold lattice_Check.j0
   repeat' first
   | (with_reducible exact ih0 _ _)
   | (with_reducible exact ih1 _ _ _)
   | (with_reducible exact ih2 _ _ _ _ _ _)
   | (with_reducible exact lattice_Lat_down.mono _ _ _)
   | (with_reducible exact lattice_Lat_greatest.mono _ _ _)
   | (with_reducible exact lattice_Lat_least.mono _ _ _)
   | (with_reducible exact lattice_Lat_ordered.mono _ _)
   | (with_reducible exact LeO.refl _)
   | (with_reducible exact LeO.none _)
   | (with_reducible refine LeO.ite ?_ ?_)
   | (with_reducible refine LeO.bind ?_ (fun _ => ?_))
   | exact ih0 _ _
   | exact ih1 _ _ _
   | exact ih2 _ _ _ _ _ _
   | exact lattice_Lat_down.mono _ _ _
   | exact lattice_Lat_greatest.mono _ _ _
   | exact lattice_Lat_least.mono _ _ _
   | exact lattice_Lat_ordered.mono _ _
   | exact LeO.none _
   | refine LeO.ite ?_ ?_
   | refine LeO.bind ?_ (fun _ => ?_)
  ·intro y0 y1 y2
   unfold lattice_Check.l0
   repeat' first
   | (with_reducible exact ih0 _ _)
   | (with_reducible exact ih1 _ _ _)
   | (with_reducible exact ih2 _ _ _ _ _ _)
   | (with_reducible exact lattice_Lat_down.mono _ _ _)
   | (with_reducible exact lattice_Lat_greatest.mono _ _ _)
   | (with_reducible exact lattice_Lat_least.mono _ _ _)
   | (with_reducible exact lattice_Lat_ordered.mono _ _)
   | (with_reducible exact LeO.refl _)
   | (with_reducible exact LeO.none _)
   | (with_reducible refine LeO.ite ?_ ?_)
   | (with_reducible refine LeO.bind ?_ (fun _ => ?_))
   | exact ih0 _ _
   | exact ih1 _ _ _
   | exact ih2 _ _ _ _ _ _
   | exact lattice_Lat_down.mono _ _ _
   | exact lattice_Lat_greatest.mono _ _ _
   | exact lattice_Lat_least.mono _ _ _
   | exact lattice_Lat_ordered.mono _ _
   | exact LeO.none _
   | refine LeO.ite ?_ ?_
   | refine LeO.bind ?_ (fun _ => ?_)
  intro y0 y1 y2 y3 y4 y5
  unfold lattice_Check.l1
  repeat' first
  | (with_reducible exact ih0 _ _)
  | (with_reducible exact ih1 _ _ _)
  | (with_reducible exact ih2 _ _ _ _ _ _)
  | (with_reducible exact lattice_Lat_down.mono _ _ _)
  | (with_reducible exact lattice_Lat_greatest.mono _ _ _)
  | (with_reducible exact lattice_Lat_least.mono _ _ _)
  | (with_reducible exact lattice_Lat_ordered.mono _ _)
  | (with_reducible exact LeO.refl _)
  | (with_reducible exact LeO.none _)
  | (with_reducible refine LeO.ite ?_ ?_)
  | (with_reducible refine LeO.bind ?_ (fun _ => ?_))
  | exact ih0 _ _
  | exact ih1 _ _ _
  | exact ih2 _ _ _ _ _ _
  | exact lattice_Lat_down.mono _ _ _
  | exact lattice_Lat_greatest.mono _ _ _
  | exact lattice_Lat_least.mono _ _ _
  | exact lattice_Lat_ordered.mono _ _
  | exact LeO.none _
  | refine LeO.ite ?_ ?_
  | refine LeO.bind ?_ (fun _ => ?_)
theorem lattice_Check.mono : ∀ a0 k, LeO (lattice_Check.f k a0) (lattice_Check.f (k + 1) a0) := by
 intro a0 k
 obtain ⟨ih0, ih1, ih2⟩ := lattice_Check.mono_l k
 unfold lattice_Check.f
 repeat' first
   | (with_reducible exact ih0 _ _)
   | (with_reducible exact ih1 _ _ _)
   | (with_reducible exact ih2 _ _ _ _ _ _)
   | (with_reducible exact lattice_Lat_down.mono _ _ _)
   | (with_reducible exact lattice_Lat_greatest.mono _ _ _)
   | (with_reducible exact lattice_Lat_least.mono _ _ _)
   | (with_reducible exact lattice_Lat_ordered.mono _ _)
   | (with_reducible exact LeO.refl _)
   | (with_reducible exact LeO.none _)
   | (with_reducible refine LeO.ite ?_ ?_)
   | (with_reducible refine LeO.bind ?_ (fun _ => ?_))
   | exact ih0 _ _
   | exact ih1 _ _ _
   | exact ih2 _ _ _ _ _ _
   | exact lattice_Lat_down.mono _ _ _
   | exact lattice_Lat_greatest.mono _ _ _
   | exact lattice_Lat_least.mono _ _ _
   | exact lattice_Lat_ordered.mono _ _
   | exact LeO.none _
   | refine LeO.ite ?_ ?_
   | refine LeO.bind ?_ (fun _ => ?_)
def lattice_Check.T9 : Bool × List (List Nat × List Nat) := (true, [([], []), ([], []), ([1], [1]), ([], []), ([2, 3], [2, 3]), ([4], [4]), ([], []), ([6], [6]), ([], []), ([7, 8], [7, 8]), ([9], [9]), ([5, 10], [5, 10]), ([0, 11], [0, 11]), ([12], [12]), ([13, 12], [13]), ([14], [14]), ([14], [14]), ([14], [14]), ([16, 17, 14, 14], [14, 16, 17]), ([14], [14]), ([14], [14]), ([19, 20, 18, 14], [14, 19, 20]), ([18, 21, 14], [14, 18, 21]), ([15, 22, 21, 14], [14, 15, 22]), ([23, 14], [14, 23]), ([14, 24], [14, 24])])
def lattice_Check.B9 : List Nat := [0, 0, 2, 0, 14, 30, 0, 64, 0, 448, 960, 2046, 4095, 8191, 16383, 32767, 32767, 32767, 229375, 32767, 32767, 2064383, 4161535, 8388607, 16777215, 33554431]
theorem lattice_Check.tab9 : rtab .any (opsOf Tryd.f28 9) = lattice_Check.T9 := by kernel_rfl
theorem lattice_Check.bits9 : waitsOk lattice_Check.T9.2 lattice_Check.B9 = true := by kernel_rfl
set_option maxHeartbeats 8000000 in
set_option maxRecDepth 100000 in
theorem lattice_Check.calls (k : Nat) (A0_0 : Option Addr) (c0_0 : Nat) (l0_0 : List Int) (r : Option Int) (w : World) (hr0_0 : Kd.C (Kd.int .u8) w A0_0 l0_0.length l0_0) (hc0_0 : l0_0.length ≤ c0_0) (h : lattice_Check.f k l0_0 = some r) :
  Calls Tryd.prog 28 #[.agg #[.slice A0_0 l0_0.length c0_0]] w fun e w' => e = .returned (errW r) ∧ Below w.heap.size w w' := by
 have hu31 := Tryd.underlying31
 have hu38 := Tryd.underlying38
 have hu63 := Tryd.underlying63
 have HR0_0 := Aside0.mk hr0_0
 have HC0_0 := Aside0.mk hc0_0
 clear hr0_0 hc0_0
 have HB := Aside0.mk (Below.refl w.heap.size w)
 have H : (if (l0_0.length : Int) < 1 then (lattice_Check.j0 k true l0_0) else (if (l0_0.length : Int) > 8 then (lattice_Check.j0 k true l0_0) else ((lattice_Lat_ordered.f k l0_0).bind fun t116 => (lattice_Check.j0 k (!t116) l0_0)))) = some r := h
 clear h
 have HC2 := Aside0.mk H
 clear H
 go_enter Tryd.func28, Tryd.ntmps28
 go_upto_region 1 with (first | ((with_reducible refine gate_dst (N := 1) rfl ?_); (try (refine gate_guard (by rfl) ?_; dsimp only)); refine box_event ?hg (N := 1) ?hd (cs := #[.slice A0_0 l0_0.length c0_0]) (t := 31) ?hr ?_; (case hd => rfl); (case hg => rfl); (case hr => first | (go_simp; done) | (go_simp; rfl)); intro gb115 hg w3 hbox hb; have BK115 := Aside0.mk (hbox); have GW115 := Aside0.mk ((by rw [hg]; exact (below_size (uB0 HB)) : w.heap.size ≤ gb115)); have GE115 := Aside0.mk ((by rw [hg]; exact (below_size (uB0 HB)) : w.heap.size ≤ gb115)); replace HB := Aside0.mk (below_step (uB0 HB) hb); clear hb hbox hg))
 (try simp only [Act.put, List.setIfInBounds_toArray, List.set_cons_zero, List.set_cons_succ])
 go_cut [19] (fun v19 wc => ∃ (kq : Nat) (x19_1 : Bool), v19 = .bool x19_1 ∧ Aside0 (lattice_Check.j0 kq x19_1 l0_0 = some r) ∧ Aside0 (kq ≤ k) ∧ Aside0 (wc.heap[gb115]? = some (.cells #[(.slice A0_0 l0_0.length c0_0)] 31 (0, 0))) ∧ Aside0 (Below w.heap.size w wc))
 case first =>
  have H := HC2.out
  clear HC2
  by_cases c4 : (l0_0.length : Int) < 1
  ·rw [if_pos c4] at H
   have c4b0 : decide ((l0_0.length : Int) < 1) = true := decide_eq_true c4
   have c4b1 : decide (l0_0.length < 1) = true := decide_eq_true (by omega)
   clear c4
   (first | rw [c4b0] | (simp only [i64_w, i32_w]; rw [c4b0]) | skip)
   have H' := Aside0.mk H
   clear H
   have hcz5_0 : w3.cell? ⟨gb115, 0, none⟩ = some (.slice A0_0 l0_0.length c0_0) := uF BK115 0
   have hfz5_0 := blk_frozen BK115.out 0
   go_wp2
   go_meet
   case rel => exact ⟨_, (true), (by first | rfl | (simp; done) | (simp [*]; done)), H', ⟨by first | omega | exact Nat.le_refl _⟩, ⟨uK BK115⟩, ⟨uB1 HB GE115⟩⟩
  rw [if_neg c4] at H
  have c4b0 : decide ((l0_0.length : Int) < 1) = false := decide_eq_false c4
  have c4b1 : decide (l0_0.length < 1) = false := decide_eq_false (by omega)
  clear c4
  (first | rw [c4b0] | (simp only [i64_w, i32_w]; rw [c4b0]) | skip)
  by_cases c6 : (l0_0.length : Int) > 8
  ·rw [if_pos c6] at H
   have c6b0 : decide (8 < (l0_0.length : Int)) = true := decide_eq_true c6
   have c6b1 : decide (8 < l0_0.length) = true := decide_eq_true (by omega)
   clear c6
   have H' := Aside0.mk H
   clear H
   have hcz7_0 : w3.cell? ⟨gb115, 0, none⟩ = some (.slice A0_0 l0_0.length c0_0) := uF BK115 0
   have hfz7_0 := blk_frozen BK115.out 0
   go_wp2
   go_meet
   case rel => exact ⟨_, (true), (by first | rfl | (simp; done) | (simp [*]; done)), H', ⟨by first | omega | exact Nat.le_refl _⟩, ⟨uK BK115⟩, ⟨uB1 HB GE115⟩⟩
  rw [if_neg c6] at H
  have c6b0 : decide (8 < (l0_0.length : Int)) = false := decide_eq_false c6
  have c6b1 : decide (8 < l0_0.length) = false := decide_eq_false (by omega)
  clear c6
  replace H := Option.bind_eq_some_iff.mp H
  obtain ⟨t116, A80, H⟩ := H
  replace H : (lattice_Check.j0 k (!t116) l0_0) = some r := H
  have A8 := Aside0.mk A80
  clear A80
  have H' := Aside0.mk H
  clear H
  have hcz9_0 : w3.cell? ⟨gb115, 0, none⟩ = some (.slice A0_0 l0_0.length c0_0) := uF BK115 0
  have hfz9_0 := blk_frozen BK115.out 0
  go_wp2_with (first | (go_at_call 42; (with_reducible refine (lattice_Lat_ordered.calls k _ _ l0_0 t116 _ ?side1 ?side2 A8.out).mono ?_); (case side1 => exact uS (Kd.C_below HR0_0.out HB.out)); (case side2 => exact HC0_0.out); rintro e w10 ⟨rfl, hb⟩; replace BK115 := uD BK115 hb; replace HB := Aside0.mk (below_step (uB1 HB GE115) hb); (try clear hb); (try clear hb2); (try clear hk); (try clear hi)))
  go_meet
  case rel => exact ⟨_, (!t116), (by first | rfl | (simp; done) | (simp [*]; done)), H', ⟨by first | omega | exact Nat.le_refl _⟩, ⟨uK BK115⟩, ⟨uB1 HB GE115⟩⟩
 case rest =>
 clear HC2
 try clear c2
 try clear p2
 try clear c4
 try clear c4b0
 try clear c4b1
 try clear c6
 try clear c6b0
 try clear c6b1
 try clear hcz5_0
 try clear hcz7_0
 try clear hcz9_0
 try clear hfz5_0
 try clear hfz7_0
 try clear hfz9_0
 obtain ⟨kq, x19_1, rfl, HA, HJ1, BK115, HB⟩ := hcut
 cases kq with
 | zero => exact absurd HA.out (by simp [lattice_Check.j0])
 | succ kj1 =>
 have H := HA.out
 clear HA
 simp only [lattice_Check.j0] at H
 by_cases c11 : x19_1 = true
 ·subst c11
  have H1 : (some (some 7)) = some r := by rw [if_pos rfl] at H; exact H
  clear H
  have H := H1
  clear H1
  obtain rfl := Option.some.inj H
  go_wp2
  go_ret
  exact ⟨by first | rfl | (simp [errW_none, errW_some] <;> rfl) | (simp [*, errW_none, errW_some] <;> rfl), uB1 HB GE115⟩
 replace c11 := Bool.eq_false_iff.mpr c11
 subst c11
 have H1 : (lattice_Check.l0 kj1 (l0_0.length : Int) 0 l0_0) = some r := by rw [if_neg (show ¬ (false = true) by decide)] at H; exact H
 clear H
 have H := H1
 clear H1
 have H' := Aside0.mk H
 clear H
 have hcz12_0 : wc.cell? ⟨gb115, 0, none⟩ = some (.slice A0_0 l0_0.length c0_0) := uF BK115 0
 have hfz12_0 := blk_frozen BK115.out 0
 go_wp2
 go_loopg [24] kj1 (fun kq v24 w' => ∃ (x24_2 : Int), v24 = .int .i64 x24_2 ∧ Aside0 (lattice_Check.l0 kq (l0_0.length : Int) x24_2 l0_0 = some r) ∧ Aside0 (kq ≤ kj1) ∧ Aside0 (w'.heap[gb115]? = some (.cells #[(.slice A0_0 l0_0.length c0_0)] 31 (0, 0))) ∧ Aside0 (Below w.heap.size w w'))
 case atStart => exact ⟨(0), (by first | rfl | (simp; done) | (simp [*]; done)), H', ⟨Nat.le_refl _⟩, ⟨uK BK115⟩, ⟨uB1 HB GE115⟩⟩
 case round =>
 clear H'
 try clear c1
 try clear c2
 try clear p2
 try clear c4
 try clear c4b0
 try clear c4b1
 try clear c6
 try clear c6b0
 try clear c6b1
 try clear c11
 try clear hcz12_0
 try clear hcz5_0
 try clear hcz7_0
 try clear hcz9_0
 try clear hfz12_0
 try clear hfz5_0
 try clear hfz7_0
 try clear hfz9_0
 try clear p2
 obtain ⟨x24_2, rfl, HA, HK2, BK115, HB⟩ := hrel
 cases gk with
 | zero => exact absurd HA.out (by simp [lattice_Check.l0])
 | succ k2 =>
 have H := HA.out
 clear HA
 simp only [lattice_Check.l0] at H
 by_cases c13 : x24_2 < (l0_0.length : Int)
 ·rw [if_pos c13] at H
  have c13b0 : decide (x24_2 < (l0_0.length : Int)) = true := decide_eq_true c13
  clear c13
  have H' := Aside0.mk H
  clear H
  go_wp2
  go_loopg [28] k2 (fun kq v28 w' => ∃ (x28_3 : Int), v28 = .int .i64 x28_3 ∧ Aside0 (lattice_Check.l1 kq x24_2 (l0_0.length : Int) x24_2 x24_2 x28_3 l0_0 = some r) ∧ Aside0 (kq ≤ k2) ∧ Aside0 (w'.heap[gb115]? = some (.cells #[(.slice A0_0 l0_0.length c0_0)] 31 (0, 0))) ∧ Aside0 (Below w.heap.size w w'))
  case atStart => exact ⟨(0), (by first | rfl | (simp; done) | (simp [*]; done)), H', ⟨Nat.le_refl _⟩, ⟨uK BK115⟩, ⟨uB1 HB GE115⟩⟩
  case round =>
  clear H'
  try clear c1
  try clear c2
  try clear p2
  try clear c4
  try clear c4b0
  try clear c4b1
  try clear c6
  try clear c6b0
  try clear c6b1
  try clear c11
  try clear c13
  try clear c13b0
  try clear hcz12_0
  try clear hcz5_0
  try clear hcz7_0
  try clear hcz9_0
  try clear hfz12_0
  try clear hfz5_0
  try clear hfz7_0
  try clear hfz9_0
  try clear p2
  obtain ⟨x28_3, rfl, HA, HK3, BK115, HB⟩ := hrel
  cases gk with
  | zero => exact absurd HA.out (by simp [lattice_Check.l1])
  | succ k3 =>
  have H := HA.out
  clear HA
  simp only [lattice_Check.l1] at H
  by_cases c14 : x28_3 < x24_2
  ·rw [if_pos c14] at H
   have c14b0 : decide (x28_3 < x24_2) = true := decide_eq_true c14
   clear c14
   by_cases c15 : 0 ≤ x24_2
   ·rw [if_pos c15] at H
    have c15b0 : decide (0 ≤ x24_2) = true := decide_eq_true c15
    clear c15
    by_cases c16 : x24_2 < (l0_0.length : Int)
    ·rw [if_pos c16] at H
     have c16b0 : decide (x24_2 < (l0_0.length : Int)) = true := decide_eq_true c16
     clear c16
     by_cases c17 : 0 ≤ x28_3
     ·rw [if_pos c17] at H
      have c17b0 : decide (0 ≤ x28_3) = true := decide_eq_true c17
      clear c17
      by_cases c18 : x28_3 < (l0_0.length : Int)
      ·rw [if_pos c18] at H
       have c18b0 : decide (x28_3 < (l0_0.length : Int)) = true := decide_eq_true c18
       clear c18
       replace H := Option.bind_eq_some_iff.mp H
       obtain ⟨t119, A190, H⟩ := H
       replace H : (if t119 < 0 then (some (some 7)) else ((lattice_Lat_down.f k3 l0_0 x24_2).bind fun t120 => ((lattice_Lat_down.f k3 l0_0 x28_3).bind fun t121 => ((lattice_Lat_greatest.f k3 l0_0 (Go.bits .and .u8 t120 t121)).bind fun t122 => (if t122 < 0 then (some (some 7)) else (lattice_Check.l1 k3 x24_2 (l0_0.length : Int) x24_2 x24_2 (wrap64 (x28_3 + 1)) l0_0)))))) = some r := H
       have A19 := Aside0.mk A190
       clear A190
       by_cases c20 : t119 < 0
       ·rw [if_pos c20] at H
        have c20b0 : decide (t119 < 0) = true := decide_eq_true c20
        clear c20
        obtain rfl := Option.some.inj H
        try go_wp2
        replace BK115 := Aside0.mk (blk_drew BK115.out)
        replace HB := Aside0.mk (below_drew1 HB.out)
        have p117 : 0 ≤ (x24_2 : Int) := of_decide_eq_true (by first | (with_reducible assumption) | assumption)
        have q117 : x24_2 < (l0_0.length : Int) := of_decide_eq_true (by first | (with_reducible assumption) | assumption)
        obtain ⟨ad117, e117, hx117_0⟩ := Kd.at_int HR0_0.out x24_2 p117 q117
        have hw117_0 := hx117_0
        cases e117
        replace hx117_0 := (HB.out.cell (World.block_lt_of_cell? w _ hx117_0)).trans hx117_0
        replace p117 := eq_true p117
        replace q117 := eq_true q117
        have p118 : 0 ≤ (x28_3 : Int) := of_decide_eq_true (by first | (with_reducible assumption) | assumption)
        have q118 : x28_3 < (l0_0.length : Int) := of_decide_eq_true (by first | (with_reducible assumption) | assumption)
        obtain ⟨ad118, e118, hx118_0⟩ := Kd.at_int HR0_0.out x28_3 p118 q118
        have hw118_0 := hx118_0
        obtain rfl : ad117 = ad118 := (by injection e118)
        replace hx118_0 := (HB.out.cell (World.block_lt_of_cell? w _ hx118_0)).trans hx118_0
        replace p118 := eq_true p118
        replace q118 := eq_true q118
        refine start_ (n := 26) (S := fun w' => w'.cell? ⟨gb115, 0, none⟩ = some (.slice (some ad117) l0_0.length c0_0) ∧ w'.cell? (ad117.add (x24_2).toNat) = some (.int .u8 (rd l0_0 x24_2)) ∧ w'.cell? (ad117.add (x28_3).toNat) = some (.int .u8 (rd l0_0 x28_3))) (ds := []) u_f26 (by kernel_rfl) rfl rfl ⟨uF BK115 0, ((HB.out.cell (World.block_lt_of_cell? w _ hw117_0)).trans hw117_0), ((HB.out.cell (World.block_lt_of_cell? w _ hw118_0)).trans hw118_0)⟩ (fun hHeld => ?_); refine with_tabW lattice_Check.tab9 lattice_Check.bits9 (fun HT_ HW_ => ?_)
        generalize wr.drew = w21 at BK115 HB hx117_0 hx118_0 hHeld ⊢
        refine uPu 1 32 u_f1t1f24 (v := ?_) (a' := ?_) rfl rfl HT_ ?_ ?_ ?_
        rotate_left
        ·intro w'
         go_simp
         with_reducible rfl
        rotate_left
        ·exact uP
        refine uPu 3 34 u_f1t1f1t1f22 (v := ?_) (a' := ?_) rfl rfl HT_ ?_ ?_ ?_
        rotate_left
        ·intro w'
         go_simp
         with_reducible rfl
        rotate_left
        ·exact uP
        refine uPu 6 37 u_f1t1f1t1f2t1f19 (v := ?_) (a' := ?_) rfl rfl HT_ ?_ ?_ ?_
        rotate_left
        ·intro w'
         go_simp
         with_reducible rfl
        rotate_left
        ·exact uP
        refine uPu 8 39 u_f1t1f1t1f2t1f1t1f17 (v := ?_) (a' := ?_) rfl rfl HT_ ?_ ?_ ?_
        rotate_left
        ·intro w'
         go_simp
         with_reducible rfl
        rotate_left
        ·exact uP
        refine uTk 0 31 u_t2f1t1f2t1f1t1f17 (v := ?_) (a' := ?_) rfl rfl HT_ HW_ hHeld ?_ ?_ ?_
        rotate_left
        ·rintro w' ⟨s0, s1, s2⟩
         go_simp
         with_reducible rfl
        rotate_left
        ·exact uP
        refine uTk 2 33 u_t4f2t1f1t1f17 (v := ?_) (a' := ?_) rfl rfl HT_ HW_ hHeld ?_ ?_ ?_
        rotate_left
        ·rintro w' ⟨s0, s1, s2⟩
         go_simp
         with_reducible rfl
        rotate_left
        ·exact uP
        refine uPu 4 35 u_t5f1t1f1t1f17 (v := ?_) (a' := ?_) rfl rfl HT_ ?_ ?_ ?_
        rotate_left
        ·intro w'
         go_simp
         with_reducible rfl
        rotate_left
        ·exact uP
        refine uTk 5 36 u_t7f1t1f17 (v := ?_) (a' := ?_) rfl rfl HT_ HW_ hHeld ?_ ?_ ?_
        rotate_left
        ·rintro w' ⟨s0, s1, s2⟩
         go_simp
         with_reducible rfl
        rotate_left
        ·exact uP
        refine uTk 7 38 u_t9f17 (v := ?_) (a' := ?_) rfl rfl HT_ HW_ hHeld ?_ ?_ ?_
        rotate_left
        ·rintro w' ⟨s0, s1, s2⟩
         go_simp
         with_reducible rfl
        rotate_left
        ·exact uP
        refine uPu 9 40 u_t10f16 (v := ?_) (a' := ?_) rfl rfl HT_ ?_ ?_ ?_
        rotate_left
        ·intro w'
         go_simp
         with_reducible rfl
        rotate_left
        ·exact uP
        refine uTk 10 41 u_t11f15 (v := ?_) (a' := ?_) rfl rfl HT_ HW_ hHeld ?_ ?_ ?_
        rotate_left
        ·rintro w' ⟨s0, s1, s2⟩
         go_simp
         with_reducible rfl
        rotate_left
        ·exact uP
        refine uPu 11 42 u_t12f14 (v := ?_) (a' := ?_) rfl rfl HT_ ?_ ?_ ?_
        rotate_left
        ·intro w'
         go_simp
         with_reducible rfl
        rotate_left
        ·exact uP
        refine one_ (i := 12) (N := some 43) u_t13f13 rfl rfl (one_of HT_.out (by kernel_rfl)) (by decide) (fun K hK => ?_)
        refine goes_ Tryd.func43 (by kernel_rfl) rfl #[.agg #[.slice (some ad117) l0_0.length c0_0], .int .u8 (Go.bits .and .u8 (rd l0_0 x24_2) (rd l0_0 x28_3))] (by rfl) rfl rfl uC ?_
        with_reducible refine (lattice_Lat_least.calls k3 _ _ l0_0 (Go.bits .and .u8 (rd l0_0 x24_2) (rd l0_0 x28_3)) t119 _ ?side1 ?side2 A19.out).mono ?_
        (case side1 => exact uS (Kd.C_below HR0_0.out HB.out))
        (case side2 => exact HC0_0.out)
        rintro e w22 ⟨rfl, hb⟩
        refine ⟨_, rfl, ?_⟩
        replace BK115 := uD BK115 hb
        replace HB := Aside0.mk (below_step (uB1 HB GE115) hb)
        (try clear hb)
        (try clear hb2)
        (try clear hk)
        (try clear hi)
        refine hK.out _ _ ⟨uF BK115 0, ((HB.out.cell (World.block_lt_of_cell? w _ hw117_0)).trans hw117_0), ((HB.out.cell (World.block_lt_of_cell? w _ hw118_0)).trans hw118_0)⟩ (fun hHeld => ?_)
        clear hK K
        refine norm_ (a' := ?_) ?_ ?_
        rotate_left
        ·show Act.put _ (some 43) _ = _
         exact uP
        refine uPu 13 44 u_t14f12 (v := ?_) (a' := ?_) rfl rfl HT_ ?_ ?_ ?_
        rotate_left
        ·intro w'
         go_simp
         with_reducible rfl
        rotate_left
        ·exact uP
        refine uPu 14 45 u_t15f11 (v := ?_) (a' := ?_) rfl rfl HT_ ?_ ?_ ?_
        rotate_left
        ·intro w'
         go_simp
         with_reducible rfl
        rotate_left
        ·exact uP
        refine uPn 15 46 u_t16f10 (a' := ?_) rfl rfl HT_ ?_ ?_
        rotate_left
        ·exact uP
        refine uPn 16 47 u_t17f9 (a' := ?_) rfl rfl HT_ ?_ ?_
        rotate_left
        ·exact uP
        refine uPn 17 48 u_t18f8 (a' := ?_) rfl rfl HT_ ?_ ?_
        rotate_left
        ·exact uP
        refine uPn 18 49 u_t19f7 (a' := ?_) rfl rfl HT_ ?_ ?_
        rotate_left
        ·exact uP
        refine uPn 19 50 u_t20f6 (a' := ?_) rfl rfl HT_ ?_ ?_
        rotate_left
        ·exact uP
        refine uPn 20 51 u_t21f5 (a' := ?_) rfl rfl HT_ ?_ ?_
        rotate_left
        ·exact uP
        refine uPn 21 52 u_t22f4 (a' := ?_) rfl rfl HT_ ?_ ?_
        rotate_left
        ·exact uP
        refine uPn 22 53 u_t23f3 (a' := ?_) rfl rfl HT_ ?_ ?_
        rotate_left
        ·exact uP
        refine uPn 23 54 u_t24f2 (a' := ?_) rfl rfl HT_ ?_ ?_
        rotate_left
        ·exact uP
        refine uPn 24 55 u_t25f1 (a' := ?_) rfl rfl HT_ ?_ ?_
        rotate_left
        ·exact uP
        refine uPu 25 56 u_t26 (v := ?_) (a' := ?_) rfl rfl HT_ ?_ ?_ ?_
        rotate_left
        ·intro w'
         go_simp
         with_reducible rfl
        rotate_left
        ·exact uP
        refine done_ (done_of HT_.out (by kernel_rfl)) ?_
        try go_wp2
        go_ret
        exact ⟨by first | rfl | (simp [errW_none, errW_some] <;> rfl) | (simp [*, errW_none, errW_some] <;> rfl), uB1 HB GE115⟩
       rw [if_neg c20] at H
       have c20b0 : decide (t119 < 0) = false := decide_eq_false c20
       clear c20
       replace H := Option.bind_eq_some_iff.mp H
       obtain ⟨t120, A230, H⟩ := H
       replace H : ((lattice_Lat_down.f k3 l0_0 x28_3).bind fun t121 => ((lattice_Lat_greatest.f k3 l0_0 (Go.bits .and .u8 t120 t121)).bind fun t122 => (if t122 < 0 then (some (some 7)) else (lattice_Check.l1 k3 x24_2 (l0_0.length : Int) x24_2 x24_2 (wrap64 (x28_3 + 1)) l0_0)))) = some r := H
       have A23 := Aside0.mk A230
       clear A230
       replace H := Option.bind_eq_some_iff.mp H
       obtain ⟨t121, A240, H⟩ := H
       replace H : ((lattice_Lat_greatest.f k3 l0_0 (Go.bits .and .u8 t120 t121)).bind fun t122 => (if t122 < 0 then (some (some 7)) else (lattice_Check.l1 k3 x24_2 (l0_0.length : Int) x24_2 x24_2 (wrap64 (x28_3 + 1)) l0_0))) = some r := H
       have A24 := Aside0.mk A240
       clear A240
       replace H := Option.bind_eq_some_iff.mp H
       obtain ⟨t122, A250, H⟩ := H
       replace H : (if t122 < 0 then (some (some 7)) else (lattice_Check.l1 k3 x24_2 (l0_0.length : Int) x24_2 x24_2 (wrap64 (x28_3 + 1)) l0_0)) = some r := H
       have A25 := Aside0.mk A250
       clear A250
       by_cases c26 : t122 < 0
       ·rw [if_pos c26] at H
        have c26b0 : decide (t122 < 0) = true := decide_eq_true c26
        clear c26
        obtain rfl := Option.some.inj H
        try go_wp2
        replace BK115 := Aside0.mk (blk_drew BK115.out)
        replace HB := Aside0.mk (below_drew1 HB.out)
        have p117 : 0 ≤ (x24_2 : Int) := of_decide_eq_true (by first | (with_reducible assumption) | assumption)
        have q117 : x24_2 < (l0_0.length : Int) := of_decide_eq_true (by first | (with_reducible assumption) | assumption)
        obtain ⟨ad117, e117, hx117_0⟩ := Kd.at_int HR0_0.out x24_2 p117 q117
        have hw117_0 := hx117_0
        cases e117
        replace hx117_0 := (HB.out.cell (World.block_lt_of_cell? w _ hx117_0)).trans hx117_0
        replace p117 := eq_true p117
        replace q117 := eq_true q117
        have p118 : 0 ≤ (x28_3 : Int) := of_decide_eq_true (by first | (with_reducible assumption) | assumption)
        have q118 : x28_3 < (l0_0.length : Int) := of_decide_eq_true (by first | (with_reducible assumption) | assumption)
        obtain ⟨ad118, e118, hx118_0⟩ := Kd.at_int HR0_0.out x28_3 p118 q118
        have hw118_0 := hx118_0
        obtain rfl : ad117 = ad118 := (by injection e118)
        replace hx118_0 := (HB.out.cell (World.block_lt_of_cell? w _ hx118_0)).trans hx118_0
        replace p118 := eq_true p118
        replace q118 := eq_true q118
        refine start_ (n := 26) (S := fun w' => w'.cell? ⟨gb115, 0, none⟩ = some (.slice (some ad117) l0_0.length c0_0) ∧ w'.cell? (ad117.add (x24_2).toNat) = some (.int .u8 (rd l0_0 x24_2)) ∧ w'.cell? (ad117.add (x28_3).toNat) = some (.int .u8 (rd l0_0 x28_3))) (ds := []) u_f26 (by kernel_rfl) rfl rfl ⟨uF BK115 0, ((HB.out.cell (World.block_lt_of_cell? w _ hw117_0)).trans hw117_0), ((HB.out.cell (World.block_lt_of_cell? w _ hw118_0)).trans hw118_0)⟩ (fun hHeld => ?_); refine with_tabW lattice_Check.tab9 lattice_Check.bits9 (fun HT_ HW_ => ?_)
        generalize wr.drew = w27 at BK115 HB hx117_0 hx118_0 hHeld ⊢
        refine uPu 1 32 u_f1t1f24 (v := ?_) (a' := ?_) rfl rfl HT_ ?_ ?_ ?_
        rotate_left
        ·intro w'
         go_simp
         with_reducible rfl
        rotate_left
        ·exact uP
        refine uPu 3 34 u_f1t1f1t1f22 (v := ?_) (a' := ?_) rfl rfl HT_ ?_ ?_ ?_
        rotate_left
        ·intro w'
         go_simp
         with_reducible rfl
        rotate_left
        ·exact uP
        refine uPu 6 37 u_f1t1f1t1f2t1f19 (v := ?_) (a' := ?_) rfl rfl HT_ ?_ ?_ ?_
        rotate_left
        ·intro w'
         go_simp
         with_reducible rfl
        rotate_left
        ·exact uP
        refine uPu 8 39 u_f1t1f1t1f2t1f1t1f17 (v := ?_) (a' := ?_) rfl rfl HT_ ?_ ?_ ?_
        rotate_left
        ·intro w'
         go_simp
         with_reducible rfl
        rotate_left
        ·exact uP
        refine uTk 0 31 u_t2f1t1f2t1f1t1f17 (v := ?_) (a' := ?_) rfl rfl HT_ HW_ hHeld ?_ ?_ ?_
        rotate_left
        ·rintro w' ⟨s0, s1, s2⟩
         go_simp
         with_reducible rfl
        rotate_left
        ·exact uP
        refine uTk 2 33 u_t4f2t1f1t1f17 (v := ?_) (a' := ?_) rfl rfl HT_ HW_ hHeld ?_ ?_ ?_
        rotate_left
        ·rintro w' ⟨s0, s1, s2⟩
         go_simp
         with_reducible rfl
        rotate_left
        ·exact uP
        refine uPu 4 35 u_t5f1t1f1t1f17 (v := ?_) (a' := ?_) rfl rfl HT_ ?_ ?_ ?_
        rotate_left
        ·intro w'
         go_simp
         with_reducible rfl
        rotate_left
        ·exact uP
        refine uTk 5 36 u_t7f1t1f17 (v := ?_) (a' := ?_) rfl rfl HT_ HW_ hHeld ?_ ?_ ?_
        rotate_left
        ·rintro w' ⟨s0, s1, s2⟩
         go_simp
         with_reducible rfl
        rotate_left
        ·exact uP
        refine uTk 7 38 u_t9f17 (v := ?_) (a' := ?_) rfl rfl HT_ HW_ hHeld ?_ ?_ ?_
        rotate_left
        ·rintro w' ⟨s0, s1, s2⟩
         go_simp
         with_reducible rfl
        rotate_left
        ·exact uP
        refine uPu 9 40 u_t10f16 (v := ?_) (a' := ?_) rfl rfl HT_ ?_ ?_ ?_
        rotate_left
        ·intro w'
         go_simp
         with_reducible rfl
        rotate_left
        ·exact uP
        refine uTk 10 41 u_t11f15 (v := ?_) (a' := ?_) rfl rfl HT_ HW_ hHeld ?_ ?_ ?_
        rotate_left
        ·rintro w' ⟨s0, s1, s2⟩
         go_simp
         with_reducible rfl
        rotate_left
        ·exact uP
        refine uPu 11 42 u_t12f14 (v := ?_) (a' := ?_) rfl rfl HT_ ?_ ?_ ?_
        rotate_left
        ·intro w'
         go_simp
         with_reducible rfl
        rotate_left
        ·exact uP
        refine one_ (i := 12) (N := some 43) u_t13f13 rfl rfl (one_of HT_.out (by kernel_rfl)) (by decide) (fun K hK => ?_)
        refine goes_ Tryd.func43 (by kernel_rfl) rfl #[.agg #[.slice (some ad117) l0_0.length c0_0], .int .u8 (Go.bits .and .u8 (rd l0_0 x24_2) (rd l0_0 x28_3))] (by rfl) rfl rfl uC ?_
        with_reducible refine (lattice_Lat_least.calls k3 _ _ l0_0 (Go.bits .and .u8 (rd l0_0 x24_2) (rd l0_0 x28_3)) t119 _ ?side1 ?side2 A19.out).mono ?_
        (case side1 => exact uS (Kd.C_below HR0_0.out HB.out))
        (case side2 => exact HC0_0.out)
        rintro e w28 ⟨rfl, hb⟩
        refine ⟨_, rfl, ?_⟩
        replace BK115 := uD BK115 hb
        replace HB := Aside0.mk (below_step (uB1 HB GE115) hb)
        (try clear hb)
        (try clear hb2)
        (try clear hk)
        (try clear hi)
        refine hK.out _ _ ⟨uF BK115 0, ((HB.out.cell (World.block_lt_of_cell? w _ hw117_0)).trans hw117_0), ((HB.out.cell (World.block_lt_of_cell? w _ hw118_0)).trans hw118_0)⟩ (fun hHeld => ?_)
        clear hK K
        refine norm_ (a' := ?_) ?_ ?_
        rotate_left
        ·show Act.put _ (some 43) _ = _
         exact uP
        refine uPu 13 44 u_t14f12 (v := ?_) (a' := ?_) rfl rfl HT_ ?_ ?_ ?_
        rotate_left
        ·intro w'
         go_simp
         with_reducible rfl
        rotate_left
        ·exact uP
        refine uPu 14 45 u_t15f11 (v := ?_) (a' := ?_) rfl rfl HT_ ?_ ?_ ?_
        rotate_left
        ·intro w'
         go_simp
         with_reducible rfl
        rotate_left
        ·exact uP
        refine uPu 17 48 u_t15f2t1f8 (v := ?_) (a' := ?_) rfl rfl HT_ ?_ ?_ ?_
        rotate_left
        ·intro w'
         go_simp
         with_reducible rfl
        rotate_left
        ·exact uP
        refine uPu 20 51 u_t15f2t1f2t1f5 (v := ?_) (a' := ?_) rfl rfl HT_ ?_ ?_ ?_
        rotate_left
        ·intro w'
         go_simp
         with_reducible rfl
        rotate_left
        ·exact uP
        refine uTk 15 46 u_t16f1t1f2t1f5 (v := ?_) (a' := ?_) rfl rfl HT_ HW_ hHeld ?_ ?_ ?_
        rotate_left
        ·rintro w' ⟨s0, s1, s2⟩
         go_simp
         with_reducible rfl
        rotate_left
        ·exact uP
        refine uTk 16 47 u_t18f2t1f5 (v := ?_) (a' := ?_) rfl rfl HT_ HW_ hHeld ?_ ?_ ?_
        rotate_left
        ·rintro w' ⟨s0, s1, s2⟩
         go_simp
         with_reducible rfl
        rotate_left
        ·exact uP
        refine uTk 19 50 u_t18f1t2f5 (v := ?_) (a' := ?_) rfl rfl HT_ HW_ hHeld ?_ ?_ ?_
        rotate_left
        ·rintro w' ⟨s0, s1, s2⟩
         go_simp
         with_reducible rfl
        rotate_left
        ·exact uP
        refine one_ (i := 18) (N := some 49) u_t21f5 rfl rfl (one_of HT_.out (by kernel_rfl)) (by decide) (fun K hK => ?_)
        refine goes_ Tryd.func45 (by kernel_rfl) rfl #[.agg #[.slice (some ad117) l0_0.length c0_0], .int .i64 x24_2] (by rfl) rfl rfl uC ?_
        with_reducible refine (lattice_Lat_down.calls k3 _ _ l0_0 x24_2 t120 _ ?side1 ?side2 A23.out).mono ?_
        (case side1 => exact uS (Kd.C_below HR0_0.out HB.out))
        (case side2 => exact HC0_0.out)
        rintro e w29 ⟨rfl, hb⟩
        refine ⟨_, rfl, ?_⟩
        replace BK115 := uD BK115 hb
        replace HB := Aside0.mk (below_step (uB1 HB GE115) hb)
        (try clear hb)
        (try clear hb2)
        (try clear hk)
        (try clear hi)
        refine hK.out _ _ ⟨uF BK115 0, ((HB.out.cell (World.block_lt_of_cell? w _ hw117_0)).trans hw117_0), ((HB.out.cell (World.block_lt_of_cell? w _ hw118_0)).trans hw118_0)⟩ (fun hHeld => ?_)
        clear hK K
        refine norm_ (a' := ?_) ?_ ?_
        rotate_left
        ·show Act.put _ (some 49) _ = _
         exact uP
        refine one_ (i := 21) (N := some 52) u_t22f4 rfl rfl (one_of HT_.out (by kernel_rfl)) (by decide) (fun K hK => ?_)
        refine goes_ Tryd.func45 (by kernel_rfl) rfl #[.agg #[.slice (some ad117) l0_0.length c0_0], .int .i64 x28_3] (by rfl) rfl rfl uC ?_
        with_reducible refine (lattice_Lat_down.calls k3 _ _ l0_0 x28_3 t121 _ ?side1 ?side2 A24.out).mono ?_
        (case side1 => exact uS (Kd.C_below HR0_0.out HB.out))
        (case side2 => exact HC0_0.out)
        rintro e w30 ⟨rfl, hb⟩
        refine ⟨_, rfl, ?_⟩
        replace BK115 := uD BK115 hb
        replace HB := Aside0.mk (below_step (uB1 HB GE115) hb)
        (try clear hb)
        (try clear hb2)
        (try clear hk)
        (try clear hi)
        refine hK.out _ _ ⟨uF BK115 0, ((HB.out.cell (World.block_lt_of_cell? w _ hw117_0)).trans hw117_0), ((HB.out.cell (World.block_lt_of_cell? w _ hw118_0)).trans hw118_0)⟩ (fun hHeld => ?_)
        clear hK K
        refine norm_ (a' := ?_) ?_ ?_
        rotate_left
        ·show Act.put _ (some 52) _ = _
         exact uP
        refine uPu 22 53 u_t23f3 (v := ?_) (a' := ?_) rfl rfl HT_ ?_ ?_ ?_
        rotate_left
        ·intro w'
         go_simp
         with_reducible rfl
        rotate_left
        ·exact uP
        refine one_ (i := 23) (N := some 54) u_t24f2 rfl rfl (one_of HT_.out (by kernel_rfl)) (by decide) (fun K hK => ?_)
        refine goes_ Tryd.func44 (by kernel_rfl) rfl #[.agg #[.slice (some ad117) l0_0.length c0_0], .int .u8 (Go.bits .and .u8 t120 t121)] (by rfl) rfl rfl uC ?_
        with_reducible refine (lattice_Lat_greatest.calls k3 _ _ l0_0 (Go.bits .and .u8 t120 t121) t122 _ ?side1 ?side2 A25.out).mono ?_
        (case side1 => exact uS (Kd.C_below HR0_0.out HB.out))
        (case side2 => exact HC0_0.out)
        rintro e w31 ⟨rfl, hb⟩
        refine ⟨_, rfl, ?_⟩
        replace BK115 := uD BK115 hb
        replace HB := Aside0.mk (below_step (uB1 HB GE115) hb)
        (try clear hb)
        (try clear hb2)
        (try clear hk)
        (try clear hi)
        refine hK.out _ _ ⟨uF BK115 0, ((HB.out.cell (World.block_lt_of_cell? w _ hw117_0)).trans hw117_0), ((HB.out.cell (World.block_lt_of_cell? w _ hw118_0)).trans hw118_0)⟩ (fun hHeld => ?_)
        clear hK K
        refine norm_ (a' := ?_) ?_ ?_
        rotate_left
        ·show Act.put _ (some 54) _ = _
         exact uP
        refine uPu 24 55 u_t25f1 (v := ?_) (a' := ?_) rfl rfl HT_ ?_ ?_ ?_
        rotate_left
        ·intro w'
         go_simp
         with_reducible rfl
        rotate_left
        ·exact uP
        refine uPu 25 56 u_t26 (v := ?_) (a' := ?_) rfl rfl HT_ ?_ ?_ ?_
        rotate_left
        ·intro w'
         go_simp
         with_reducible rfl
        rotate_left
        ·exact uP
        refine done_ (done_of HT_.out (by kernel_rfl)) ?_
        try go_wp2
        go_ret
        exact ⟨by first | rfl | (simp [errW_none, errW_some] <;> rfl) | (simp [*, errW_none, errW_some] <;> rfl), uB1 HB GE115⟩
       rw [if_neg c26] at H
       have c26b0 : decide (t122 < 0) = false := decide_eq_false c26
       clear c26
       have H' := Aside0.mk H
       clear H
       try go_wp2
       replace BK115 := Aside0.mk (blk_drew BK115.out)
       replace HB := Aside0.mk (below_drew1 HB.out)
       have p117 : 0 ≤ (x24_2 : Int) := of_decide_eq_true (by first | (with_reducible assumption) | assumption)
       have q117 : x24_2 < (l0_0.length : Int) := of_decide_eq_true (by first | (with_reducible assumption) | assumption)
       obtain ⟨ad117, e117, hx117_0⟩ := Kd.at_int HR0_0.out x24_2 p117 q117
       have hw117_0 := hx117_0
       cases e117
       replace hx117_0 := (HB.out.cell (World.block_lt_of_cell? w _ hx117_0)).trans hx117_0
       replace p117 := eq_true p117
       replace q117 := eq_true q117
       have p118 : 0 ≤ (x28_3 : Int) := of_decide_eq_true (by first | (with_reducible assumption) | assumption)
       have q118 : x28_3 < (l0_0.length : Int) := of_decide_eq_true (by first | (with_reducible assumption) | assumption)
       obtain ⟨ad118, e118, hx118_0⟩ := Kd.at_int HR0_0.out x28_3 p118 q118
       have hw118_0 := hx118_0
       obtain rfl : ad117 = ad118 := (by injection e118)
       replace hx118_0 := (HB.out.cell (World.block_lt_of_cell? w _ hx118_0)).trans hx118_0
       replace p118 := eq_true p118
       replace q118 := eq_true q118
       refine start_ (n := 26) (S := fun w' => w'.cell? ⟨gb115, 0, none⟩ = some (.slice (some ad117) l0_0.length c0_0) ∧ w'.cell? (ad117.add (x24_2).toNat) = some (.int .u8 (rd l0_0 x24_2)) ∧ w'.cell? (ad117.add (x28_3).toNat) = some (.int .u8 (rd l0_0 x28_3))) (ds := []) u_f26 (by kernel_rfl) rfl rfl ⟨uF BK115 0, ((HB.out.cell (World.block_lt_of_cell? w _ hw117_0)).trans hw117_0), ((HB.out.cell (World.block_lt_of_cell? w _ hw118_0)).trans hw118_0)⟩ (fun hHeld => ?_); refine with_tabW lattice_Check.tab9 lattice_Check.bits9 (fun HT_ HW_ => ?_)
       generalize wr.drew = w32 at BK115 HB hx117_0 hx118_0 hHeld ⊢
       refine uPu 1 32 u_f1t1f24 (v := ?_) (a' := ?_) rfl rfl HT_ ?_ ?_ ?_
       rotate_left
       ·intro w'
        go_simp
        with_reducible rfl
       rotate_left
       ·exact uP
       refine uPu 3 34 u_f1t1f1t1f22 (v := ?_) (a' := ?_) rfl rfl HT_ ?_ ?_ ?_
       rotate_left
       ·intro w'
        go_simp
        with_reducible rfl
       rotate_left
       ·exact uP
       refine uPu 6 37 u_f1t1f1t1f2t1f19 (v := ?_) (a' := ?_) rfl rfl HT_ ?_ ?_ ?_
       rotate_left
       ·intro w'
        go_simp
        with_reducible rfl
       rotate_left
       ·exact uP
       refine uPu 8 39 u_f1t1f1t1f2t1f1t1f17 (v := ?_) (a' := ?_) rfl rfl HT_ ?_ ?_ ?_
       rotate_left
       ·intro w'
        go_simp
        with_reducible rfl
       rotate_left
       ·exact uP
       refine uTk 0 31 u_t2f1t1f2t1f1t1f17 (v := ?_) (a' := ?_) rfl rfl HT_ HW_ hHeld ?_ ?_ ?_
       rotate_left
       ·rintro w' ⟨s0, s1, s2⟩
        go_simp
        with_reducible rfl
       rotate_left
       ·exact uP
       refine uTk 2 33 u_t4f2t1f1t1f17 (v := ?_) (a' := ?_) rfl rfl HT_ HW_ hHeld ?_ ?_ ?_
       rotate_left
       ·rintro w' ⟨s0, s1, s2⟩
        go_simp
        with_reducible rfl
       rotate_left
       ·exact uP
       refine uPu 4 35 u_t5f1t1f1t1f17 (v := ?_) (a' := ?_) rfl rfl HT_ ?_ ?_ ?_
       rotate_left
       ·intro w'
        go_simp
        with_reducible rfl
       rotate_left
       ·exact uP
       refine uTk 5 36 u_t7f1t1f17 (v := ?_) (a' := ?_) rfl rfl HT_ HW_ hHeld ?_ ?_ ?_
       rotate_left
       ·rintro w' ⟨s0, s1, s2⟩
        go_simp
        with_reducible rfl
       rotate_left
       ·exact uP
       refine uTk 7 38 u_t9f17 (v := ?_) (a' := ?_) rfl rfl HT_ HW_ hHeld ?_ ?_ ?_
       rotate_left
       ·rintro w' ⟨s0, s1, s2⟩
        go_simp
        with_reducible rfl
       rotate_left
       ·exact uP
       refine uPu 9 40 u_t10f16 (v := ?_) (a' := ?_) rfl rfl HT_ ?_ ?_ ?_
       rotate_left
       ·intro w'
        go_simp
        with_reducible rfl
       rotate_left
       ·exact uP
       refine uTk 10 41 u_t11f15 (v := ?_) (a' := ?_) rfl rfl HT_ HW_ hHeld ?_ ?_ ?_
       rotate_left
       ·rintro w' ⟨s0, s1, s2⟩
        go_simp
        with_reducible rfl
       rotate_left
       ·exact uP
       refine uPu 11 42 u_t12f14 (v := ?_) (a' := ?_) rfl rfl HT_ ?_ ?_ ?_
       rotate_left
       ·intro w'
        go_simp
        with_reducible rfl
       rotate_left
       ·exact uP
       refine one_ (i := 12) (N := some 43) u_t13f13 rfl rfl (one_of HT_.out (by kernel_rfl)) (by decide) (fun K hK => ?_)
       refine goes_ Tryd.func43 (by kernel_rfl) rfl #[.agg #[.slice (some ad117) l0_0.length c0_0], .int .u8 (Go.bits .and .u8 (rd l0_0 x24_2) (rd l0_0 x28_3))] (by rfl) rfl rfl uC ?_
       with_reducible refine (lattice_Lat_least.calls k3 _ _ l0_0 (Go.bits .and .u8 (rd l0_0 x24_2) (rd l0_0 x28_3)) t119 _ ?side1 ?side2 A19.out).mono ?_
       (case side1 => exact uS (Kd.C_below HR0_0.out HB.out))
       (case side2 => exact HC0_0.out)
       rintro e w33 ⟨rfl, hb⟩
       refine ⟨_, rfl, ?_⟩
       replace BK115 := uD BK115 hb
       replace HB := Aside0.mk (below_step (uB1 HB GE115) hb)
       (try clear hb)
       (try clear hb2)
       (try clear hk)
       (try clear hi)
       refine hK.out _ _ ⟨uF BK115 0, ((HB.out.cell (World.block_lt_of_cell? w _ hw117_0)).trans hw117_0), ((HB.out.cell (World.block_lt_of_cell? w _ hw118_0)).trans hw118_0)⟩ (fun hHeld => ?_)
       clear hK K
       refine norm_ (a' := ?_) ?_ ?_
       rotate_left
       ·show Act.put _ (some 43) _ = _
        exact uP
       refine uPu 13 44 u_t14f12 (v := ?_) (a' := ?_) rfl rfl HT_ ?_ ?_ ?_
       rotate_left
       ·intro w'
        go_simp
        with_reducible rfl
       rotate_left
       ·exact uP
       refine uPu 14 45 u_t15f11 (v := ?_) (a' := ?_) rfl rfl HT_ ?_ ?_ ?_
       rotate_left
       ·intro w'
        go_simp
        with_reducible rfl
       rotate_left
       ·exact uP
       refine uPu 17 48 u_t15f2t1f8 (v := ?_) (a' := ?_) rfl rfl HT_ ?_ ?_ ?_
       rotate_left
       ·intro w'
        go_simp
        with_reducible rfl
       rotate_left
       ·exact uP
       refine uPu 20 51 u_t15f2t1f2t1f5 (v := ?_) (a' := ?_) rfl rfl HT_ ?_ ?_ ?_
       rotate_left
       ·intro w'
        go_simp
        with_reducible rfl
       rotate_left
       ·exact uP
       refine uTk 15 46 u_t16f1t1f2t1f5 (v := ?_) (a' := ?_) rfl rfl HT_ HW_ hHeld ?_ ?_ ?_
       rotate_left
       ·rintro w' ⟨s0, s1, s2⟩
        go_simp
        with_reducible rfl
       rotate_left
       ·exact uP
       refine uTk 16 47 u_t18f2t1f5 (v := ?_) (a' := ?_) rfl rfl HT_ HW_ hHeld ?_ ?_ ?_
       rotate_left
       ·rintro w' ⟨s0, s1, s2⟩
        go_simp
        with_reducible rfl
       rotate_left
       ·exact uP
       refine uTk 19 50 u_t18f1t2f5 (v := ?_) (a' := ?_) rfl rfl HT_ HW_ hHeld ?_ ?_ ?_
       rotate_left
       ·rintro w' ⟨s0, s1, s2⟩
        go_simp
        with_reducible rfl
       rotate_left
       ·exact uP
       refine one_ (i := 18) (N := some 49) u_t21f5 rfl rfl (one_of HT_.out (by kernel_rfl)) (by decide) (fun K hK => ?_)
       refine goes_ Tryd.func45 (by kernel_rfl) rfl #[.agg #[.slice (some ad117) l0_0.length c0_0], .int .i64 x24_2] (by rfl) rfl rfl uC ?_
       with_reducible refine (lattice_Lat_down.calls k3 _ _ l0_0 x24_2 t120 _ ?side1 ?side2 A23.out).mono ?_
       (case side1 => exact uS (Kd.C_below HR0_0.out HB.out))
       (case side2 => exact HC0_0.out)
       rintro e w34 ⟨rfl, hb⟩
       refine ⟨_, rfl, ?_⟩
       replace BK115 := uD BK115 hb
       replace HB := Aside0.mk (below_step (uB1 HB GE115) hb)
       (try clear hb)
       (try clear hb2)
       (try clear hk)
       (try clear hi)
       refine hK.out _ _ ⟨uF BK115 0, ((HB.out.cell (World.block_lt_of_cell? w _ hw117_0)).trans hw117_0), ((HB.out.cell (World.block_lt_of_cell? w _ hw118_0)).trans hw118_0)⟩ (fun hHeld => ?_)
       clear hK K
       refine norm_ (a' := ?_) ?_ ?_
       rotate_left
       ·show Act.put _ (some 49) _ = _
        exact uP
       refine one_ (i := 21) (N := some 52) u_t22f4 rfl rfl (one_of HT_.out (by kernel_rfl)) (by decide) (fun K hK => ?_)
       refine goes_ Tryd.func45 (by kernel_rfl) rfl #[.agg #[.slice (some ad117) l0_0.length c0_0], .int .i64 x28_3] (by rfl) rfl rfl uC ?_
       with_reducible refine (lattice_Lat_down.calls k3 _ _ l0_0 x28_3 t121 _ ?side1 ?side2 A24.out).mono ?_
       (case side1 => exact uS (Kd.C_below HR0_0.out HB.out))
       (case side2 => exact HC0_0.out)
       rintro e w35 ⟨rfl, hb⟩
       refine ⟨_, rfl, ?_⟩
       replace BK115 := uD BK115 hb
       replace HB := Aside0.mk (below_step (uB1 HB GE115) hb)
       (try clear hb)
       (try clear hb2)
       (try clear hk)
       (try clear hi)
       refine hK.out _ _ ⟨uF BK115 0, ((HB.out.cell (World.block_lt_of_cell? w _ hw117_0)).trans hw117_0), ((HB.out.cell (World.block_lt_of_cell? w _ hw118_0)).trans hw118_0)⟩ (fun hHeld => ?_)
       clear hK K
       refine norm_ (a' := ?_) ?_ ?_
       rotate_left
       ·show Act.put _ (some 52) _ = _
        exact uP
       refine uPu 22 53 u_t23f3 (v := ?_) (a' := ?_) rfl rfl HT_ ?_ ?_ ?_
       rotate_left
       ·intro w'
        go_simp
        with_reducible rfl
       rotate_left
       ·exact uP
       refine one_ (i := 23) (N := some 54) u_t24f2 rfl rfl (one_of HT_.out (by kernel_rfl)) (by decide) (fun K hK => ?_)
       refine goes_ Tryd.func44 (by kernel_rfl) rfl #[.agg #[.slice (some ad117) l0_0.length c0_0], .int .u8 (Go.bits .and .u8 t120 t121)] (by rfl) rfl rfl uC ?_
       with_reducible refine (lattice_Lat_greatest.calls k3 _ _ l0_0 (Go.bits .and .u8 t120 t121) t122 _ ?side1 ?side2 A25.out).mono ?_
       (case side1 => exact uS (Kd.C_below HR0_0.out HB.out))
       (case side2 => exact HC0_0.out)
       rintro e w36 ⟨rfl, hb⟩
       refine ⟨_, rfl, ?_⟩
       replace BK115 := uD BK115 hb
       replace HB := Aside0.mk (below_step (uB1 HB GE115) hb)
       (try clear hb)
       (try clear hb2)
       (try clear hk)
       (try clear hi)
       refine hK.out _ _ ⟨uF BK115 0, ((HB.out.cell (World.block_lt_of_cell? w _ hw117_0)).trans hw117_0), ((HB.out.cell (World.block_lt_of_cell? w _ hw118_0)).trans hw118_0)⟩ (fun hHeld => ?_)
       clear hK K
       refine norm_ (a' := ?_) ?_ ?_
       rotate_left
       ·show Act.put _ (some 54) _ = _
        exact uP
       refine uPu 24 55 u_t25f1 (v := ?_) (a' := ?_) rfl rfl HT_ ?_ ?_ ?_
       rotate_left
       ·intro w'
        go_simp
        with_reducible rfl
       rotate_left
       ·exact uP
       refine uPu 25 56 u_t26 (v := ?_) (a' := ?_) rfl rfl HT_ ?_ ?_ ?_
       rotate_left
       ·intro w'
        go_simp
        with_reducible rfl
       rotate_left
       ·exact uP
       refine done_ (done_of HT_.out (by kernel_rfl)) ?_
       try go_wp2
       go_roundg k3
       case measure => have := HJ1.out; have := HK2.out; have := HK3.out; omega
       case rel => exact ⟨(wrap64 (x28_3 + 1)), (by first | rfl | (simp; done) | (simp [*]; done)), H', ⟨by have := HJ1.out; have := HK2.out; have := HK3.out; omega⟩, ⟨uK BK115⟩, ⟨uB1 HB GE115⟩⟩
      rw [if_neg c18] at H
      exact absurd H (by simp)
     rw [if_neg c17] at H
     exact absurd H (by simp)
    rw [if_neg c16] at H
    exact absurd H (by simp)
   rw [if_neg c15] at H
   exact absurd H (by simp)
  rw [if_neg c14] at H
  have c14b0 : decide (x28_3 < x24_2) = false := decide_eq_false c14
  clear c14
  have H' := Aside0.mk H
  clear H
  go_wp2
  go_roundg k3
  case measure => have := HJ1.out; have := HK2.out; have := HK3.out; omega
  case rel => exact ⟨(wrap64 (x24_2 + 1)), (by first | rfl | (simp; done) | (simp [*]; done)), H', ⟨by have := HJ1.out; have := HK2.out; have := HK3.out; omega⟩, ⟨uK BK115⟩, ⟨uB1 HB GE115⟩⟩
 rw [if_neg c13] at H
 have c13b0 : decide (x24_2 < (l0_0.length : Int)) = false := decide_eq_false c13
 clear c13
 obtain rfl := Option.some.inj H
 go_wp2
 go_ret
 exact ⟨by first | rfl | (simp [errW_none, errW_some] <;> rfl) | (simp [*, errW_none, errW_some] <;> rfl), uB1 HB GE115⟩

end Go.Proofs.YtodfomkhhfcnhaaDoor.PMonBack
