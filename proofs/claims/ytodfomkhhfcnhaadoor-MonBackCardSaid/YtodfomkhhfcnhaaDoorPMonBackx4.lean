/- The functions that the law reaches, as plain functions of lists and numbers, and that a call of the Go code comes to just their answers; laid by this repo's own program over the seat's translation. Conditions: each contract's own premises. -/
import Derived.Test.YtodfomkhhfcnhaaDoorPMonBackx0
import Derived.Test.YtodfomkhhfcnhaaDoorPMonBackx2
import Derived.Test.YtodfomkhhfcnhaaDoorPMonBackx3
namespace Go.Proofs.YtodfomkhhfcnhaaDoor.PMonBack
open Go.RowKit Go.Proofs.YtodfomkhhfcnhaaDoorW.PrintWords Go.Proofs.YtodfomkhhfcnhaaDoorW.PrintLast Go.Proofs.YtodfomkhhfcnhaaDoorW.PrintMore
attribute [local go_sem] max2_int min2_int max_two min_two max_three min_three max_four min_four   -- for this text's walks alone
set_option linter.unusedVariables false
set_option linter.unusedSimpArgs false

/-! ### lattice_Lat_has: function 47 -/
def lattice_Lat_has.f (l0_0 : List Int) (a1 : Int) : Option (Bool) := if a1 ≥ 0 then (some (decide (a1 < (l0_0.length : Int)))) else (some false)
set_option maxHeartbeats 8000000 in
set_option maxRecDepth 100000 in
theorem lattice_Lat_has.calls (A0_0 : Option Addr) (c0_0 : Nat) (l0_0 : List Int) (a1 : Int) (r : Bool) (w : World) (hr0_0 : Kd.C (Kd.int .u8) w A0_0 l0_0.length l0_0) (hc0_0 : l0_0.length ≤ c0_0) (h : lattice_Lat_has.f l0_0 a1 = some r) :
  Calls Tryd.prog 47 #[.agg #[.slice A0_0 l0_0.length c0_0], .int .i64 a1] w fun e w' => e = .returned (.bool r) ∧ Below w.heap.size w w' := by
 have hu31 := Tryd.underlying31
 have HR0_0 := Aside0.mk hr0_0
 have HC0_0 := Aside0.mk hc0_0
 clear hr0_0 hc0_0
 have HB := Aside0.mk (Below.refl w.heap.size w)
 have H : (if a1 ≥ 0 then (some (decide (a1 < (l0_0.length : Int)))) else (some false)) = some r := h
 clear h
 by_cases c3 : a1 ≥ 0
 ·rw [if_pos c3] at H
  have c3b0 : decide (0 ≤ a1) = true := decide_eq_true c3
  clear c3
  obtain rfl := Option.some.inj H
  go_enter Tryd.func47, Tryd.ntmps47
  go_wp2_with (first | ((with_reducible refine gate_dst (N := 2) rfl ?_); (try (refine gate_guard (by rfl) ?_; dsimp only)); refine box_event ?hg (N := 2) ?hd (cs := #[.slice A0_0 l0_0.length c0_0]) (t := 31) ?hr ?_; (case hd => rfl); (case hg => rfl); (case hr => first | (go_simp; done) | (go_simp; rfl)); intro gb123 hg w4 hbox hb; have BK123 := Aside0.mk (hbox); have GW123 := Aside0.mk ((by rw [hg]; exact (below_size (uB0 HB)) : w.heap.size ≤ gb123)); have GE123 := Aside0.mk ((by rw [hg]; exact (below_size (uB0 HB)) : w.heap.size ≤ gb123)); replace HB := Aside0.mk (below_step (uB0 HB) hb); clear hb hbox hg; have hcz5_0 : w4.cell? ⟨gb123, 0, none⟩ = some (.slice A0_0 l0_0.length c0_0) := uF BK123 0; have hfz5_0 := blk_frozen BK123.out 0))
  go_ret
  exact ⟨by first | rfl | (simp [errW_none, errW_some] <;> rfl) | (simp [*, errW_none, errW_some] <;> rfl), uB1 HB GE123⟩
 rw [if_neg c3] at H
 have c3b0 : decide (0 ≤ a1) = false := decide_eq_false c3
 clear c3
 obtain rfl := Option.some.inj H
 go_enter Tryd.func47, Tryd.ntmps47
 go_wp2_with (first | ((with_reducible refine gate_dst (N := 2) rfl ?_); (try (refine gate_guard (by rfl) ?_; dsimp only)); refine box_event ?hg (N := 2) ?hd (cs := #[.slice A0_0 l0_0.length c0_0]) (t := 31) ?hr ?_; (case hd => rfl); (case hg => rfl); (case hr => first | (go_simp; done) | (go_simp; rfl)); intro gb123 hg w6 hbox hb; have BK123 := Aside0.mk (hbox); have GW123 := Aside0.mk ((by rw [hg]; exact (below_size (uB0 HB)) : w.heap.size ≤ gb123)); have GE123 := Aside0.mk ((by rw [hg]; exact (below_size (uB0 HB)) : w.heap.size ≤ gb123)); replace HB := Aside0.mk (below_step (uB0 HB) hb); clear hb hbox hg))
 go_ret
 exact ⟨by first | rfl | (simp [errW_none, errW_some] <;> rfl) | (simp [*, errW_none, errW_some] <;> rfl), uB1 HB GE123⟩

/-! ### lattice_Lat_may: function 36 -/
def lattice_Lat_may.f (k : Nat) (l0_0 : List Int) (a1 : Int) (a2 : Int) : Option (Bool) := (lattice_Lat_has.f l0_0 a1).bind fun t125 => (if t125 = true then ((lattice_Lat_has.f l0_0 a2).bind fun t126 => (if t126 = true then ((lattice_Check.f k l0_0).bind fun t127 => (if t127.isNone = true then (some true) else (some false))) else (some false))) else (some false))
theorem lattice_Lat_may.mono : ∀ a0 a1 a2 k, LeO (lattice_Lat_may.f k a0 a1 a2) (lattice_Lat_may.f (k + 1) a0 a1 a2) := by
 intro a0 a1 a2 k
 unfold lattice_Lat_may.f
 repeat' first
   | (with_reducible exact lattice_Check.mono _ _)
   | (with_reducible exact LeO.refl _)
   | (with_reducible exact LeO.none _)
   | (with_reducible refine LeO.ite ?_ ?_)
   | (with_reducible refine LeO.bind ?_ (fun _ => ?_))
   | exact lattice_Check.mono _ _
   | exact LeO.none _
   | refine LeO.ite ?_ ?_
   | refine LeO.bind ?_ (fun _ => ?_)
set_option maxHeartbeats 8000000 in
set_option maxRecDepth 100000 in
theorem lattice_Lat_may.calls (k : Nat) (A0_0 : Option Addr) (c0_0 : Nat) (l0_0 : List Int) (a1 : Int) (a2 : Int) (r : Bool) (w : World) (hr0_0 : Kd.C (Kd.int .u8) w A0_0 l0_0.length l0_0) (hc0_0 : l0_0.length ≤ c0_0) (h : lattice_Lat_may.f k l0_0 a1 a2 = some r) :
  Calls Tryd.prog 36 #[.agg #[.slice A0_0 l0_0.length c0_0], .int .i64 a1, .int .i64 a2] w fun e w' => e = .returned (.bool r) ∧ Below w.heap.size w w' := by
 have hu31 := Tryd.underlying31
 have hu38 := Tryd.underlying38
 have hu63 := Tryd.underlying63
 have HR0_0 := Aside0.mk hr0_0
 have HC0_0 := Aside0.mk hc0_0
 clear hr0_0 hc0_0
 have HB := Aside0.mk (Below.refl w.heap.size w)
 have H : ((lattice_Lat_has.f l0_0 a1).bind fun t125 => (if t125 = true then ((lattice_Lat_has.f l0_0 a2).bind fun t126 => (if t126 = true then ((lattice_Check.f k l0_0).bind fun t127 => (if t127.isNone = true then (some true) else (some false))) else (some false))) else (some false))) = some r := h
 clear h
 replace H := Option.bind_eq_some_iff.mp H
 obtain ⟨t125, A40, H⟩ := H
 replace H : (if t125 = true then ((lattice_Lat_has.f l0_0 a2).bind fun t126 => (if t126 = true then ((lattice_Check.f k l0_0).bind fun t127 => (if t127.isNone = true then (some true) else (some false))) else (some false))) else (some false)) = some r := H
 have A4 := Aside0.mk A40
 clear A40
 by_cases c5 : t125 = true
 ·subst c5
  have H1 : ((lattice_Lat_has.f l0_0 a2).bind fun t126 => (if t126 = true then ((lattice_Check.f k l0_0).bind fun t127 => (if t127.isNone = true then (some true) else (some false))) else (some false))) = some r := by rw [if_pos rfl] at H; exact H
  clear H
  have H := H1
  clear H1
  replace H := Option.bind_eq_some_iff.mp H
  obtain ⟨t126, A60, H⟩ := H
  replace H : (if t126 = true then ((lattice_Check.f k l0_0).bind fun t127 => (if t127.isNone = true then (some true) else (some false))) else (some false)) = some r := H
  have A6 := Aside0.mk A60
  clear A60
  by_cases c7 : t126 = true
  ·subst c7
   have H1 : ((lattice_Check.f k l0_0).bind fun t127 => (if t127.isNone = true then (some true) else (some false))) = some r := by rw [if_pos rfl] at H; exact H
   clear H
   have H := H1
   clear H1
   replace H := Option.bind_eq_some_iff.mp H
   obtain ⟨t127, A80, H⟩ := H
   replace H : (if t127.isNone = true then (some true) else (some false)) = some r := H
   have A8 := Aside0.mk A80
   clear A80
   rcases t127 with _ | q128
   ·have H1 : (some true) = some r := by rw [if_pos (show (none : Option Int).isNone = true by rfl)] at H; exact H
    clear H
    have H := H1
    clear H1
    try simp only [errW_none, errW_some]
    obtain rfl := Option.some.inj H
    go_enter Tryd.func36, Tryd.ntmps36
    go_wp2_with (first | ((with_reducible refine gate_dst (N := 3) rfl ?_); refine box_event ?hg (N := 3) ?hd (cs := #[.slice A0_0 l0_0.length c0_0]) (t := 31) ?hr ?_; (case hd => rfl); (case hg => rfl); (case hr => first | (go_simp; done) | (go_simp; rfl)); intro gb124 hg w9 hbox hb; have BK124 := Aside0.mk (hbox); have GW124 := Aside0.mk ((by rw [hg]; exact (below_size (uB0 HB)) : w.heap.size ≤ gb124)); have GE124 := Aside0.mk ((by rw [hg]; exact (below_size (uB0 HB)) : w.heap.size ≤ gb124)); replace HB := Aside0.mk (below_step (uB0 HB) hb); clear hb hbox hg; have hcz10_0 : w9.cell? ⟨gb124, 0, none⟩ = some (.slice A0_0 l0_0.length c0_0) := uF BK124 0; have hfz10_0 := blk_frozen BK124.out 0) | ((with_reducible refine gate_callee (f := 47) rfl ?_); refine goesL_ (some 9) rfl rfl Tryd.func47 (by kernel_rfl) rfl #[.agg #[.slice A0_0 l0_0.length c0_0], .int .i64 a1] rfl uC ?_; (with_reducible refine (lattice_Lat_has.calls _ _ l0_0 a1 true _ ?side1 ?side2 A4.out).mono ?_); (case side1 => exact uS (Kd.C_below HR0_0.out HB.out)); (case side2 => exact HC0_0.out); rintro e w11 ⟨rfl, hb⟩; refine ⟨_, rfl, ?_⟩; replace BK124 := uD BK124 hb; replace HB := Aside0.mk (below_step (uB1 HB GE124) hb); (try clear hb); (try clear hb2); (try clear hk); (try clear hi); have hcz12_0 : w11.cell? ⟨gb124, 0, none⟩ = some (.slice A0_0 l0_0.length c0_0) := uF BK124 0; have hfz12_0 := blk_frozen BK124.out 0) | (go_at_call 47; (with_reducible refine (lattice_Lat_has.calls _ _ l0_0 a2 true _ ?side1 ?side2 A6.out).mono ?_); (case side1 => exact uS (Kd.C_below HR0_0.out HB.out)); (case side2 => exact HC0_0.out); rintro e w13 ⟨rfl, hb⟩; replace BK124 := uD BK124 hb; replace HB := Aside0.mk (below_step (uB1 HB GE124) hb); (try clear hb); (try clear hb2); (try clear hk); (try clear hi); have hcz14_0 : w13.cell? ⟨gb124, 0, none⟩ = some (.slice A0_0 l0_0.length c0_0) := uF BK124 0; have hfz14_0 := blk_frozen BK124.out 0) | (go_at_call 28; (with_reducible refine (lattice_Check.calls k _ _ l0_0 none _ ?side1 ?side2 A8.out).mono ?_); (case side1 => exact uS (Kd.C_below HR0_0.out HB.out)); (case side2 => exact HC0_0.out); rintro e w15 ⟨rfl, hb⟩; replace BK124 := uD BK124 hb; replace HB := Aside0.mk (below_step (uB1 HB GE124) hb); (try clear hb); (try clear hb2); (try clear hk); (try clear hi); (try simp only [errW_none, errW_some])))
    go_ret
    exact ⟨by first | rfl | (simp [errW_none, errW_some] <;> rfl) | (simp [*, errW_none, errW_some] <;> rfl), uB1 HB GE124⟩
   have H1 : (some false) = some r := by rw [if_neg (show ¬ (some q128).isNone = true by simp)] at H; exact H
   clear H
   have H := H1
   clear H1
   try simp only [errW_none, errW_some]
   obtain rfl := Option.some.inj H
   go_enter Tryd.func36, Tryd.ntmps36
   go_wp2_with (first | ((with_reducible refine gate_dst (N := 3) rfl ?_); refine box_event ?hg (N := 3) ?hd (cs := #[.slice A0_0 l0_0.length c0_0]) (t := 31) ?hr ?_; (case hd => rfl); (case hg => rfl); (case hr => first | (go_simp; done) | (go_simp; rfl)); intro gb124 hg w16 hbox hb; have BK124 := Aside0.mk (hbox); have GW124 := Aside0.mk ((by rw [hg]; exact (below_size (uB0 HB)) : w.heap.size ≤ gb124)); have GE124 := Aside0.mk ((by rw [hg]; exact (below_size (uB0 HB)) : w.heap.size ≤ gb124)); replace HB := Aside0.mk (below_step (uB0 HB) hb); clear hb hbox hg; have hcz17_0 : w16.cell? ⟨gb124, 0, none⟩ = some (.slice A0_0 l0_0.length c0_0) := uF BK124 0; have hfz17_0 := blk_frozen BK124.out 0) | ((with_reducible refine gate_callee (f := 47) rfl ?_); refine goesL_ (some 9) rfl rfl Tryd.func47 (by kernel_rfl) rfl #[.agg #[.slice A0_0 l0_0.length c0_0], .int .i64 a1] rfl uC ?_; (with_reducible refine (lattice_Lat_has.calls _ _ l0_0 a1 true _ ?side1 ?side2 A4.out).mono ?_); (case side1 => exact uS (Kd.C_below HR0_0.out HB.out)); (case side2 => exact HC0_0.out); rintro e w18 ⟨rfl, hb⟩; refine ⟨_, rfl, ?_⟩; replace BK124 := uD BK124 hb; replace HB := Aside0.mk (below_step (uB1 HB GE124) hb); (try clear hb); (try clear hb2); (try clear hk); (try clear hi); have hcz19_0 : w18.cell? ⟨gb124, 0, none⟩ = some (.slice A0_0 l0_0.length c0_0) := uF BK124 0; have hfz19_0 := blk_frozen BK124.out 0) | (go_at_call 47; (with_reducible refine (lattice_Lat_has.calls _ _ l0_0 a2 true _ ?side1 ?side2 A6.out).mono ?_); (case side1 => exact uS (Kd.C_below HR0_0.out HB.out)); (case side2 => exact HC0_0.out); rintro e w20 ⟨rfl, hb⟩; replace BK124 := uD BK124 hb; replace HB := Aside0.mk (below_step (uB1 HB GE124) hb); (try clear hb); (try clear hb2); (try clear hk); (try clear hi); have hcz21_0 : w20.cell? ⟨gb124, 0, none⟩ = some (.slice A0_0 l0_0.length c0_0) := uF BK124 0; have hfz21_0 := blk_frozen BK124.out 0) | (go_at_call 28; (with_reducible refine (lattice_Check.calls k _ _ l0_0 (some q128) _ ?side1 ?side2 A8.out).mono ?_); (case side1 => exact uS (Kd.C_below HR0_0.out HB.out)); (case side2 => exact HC0_0.out); rintro e w22 ⟨rfl, hb⟩; replace BK124 := uD BK124 hb; replace HB := Aside0.mk (below_step (uB1 HB GE124) hb); (try clear hb); (try clear hb2); (try clear hk); (try clear hi); (try simp only [errW_none, errW_some])))
   go_ret
   exact ⟨by first | rfl | (simp [errW_none, errW_some] <;> rfl) | (simp [*, errW_none, errW_some] <;> rfl), uB1 HB GE124⟩
  replace c7 := Bool.eq_false_iff.mpr c7
  subst c7
  have H1 : (some false) = some r := by rw [if_neg (show ¬ (false = true) by decide)] at H; exact H
  clear H
  have H := H1
  clear H1
  obtain rfl := Option.some.inj H
  go_enter Tryd.func36, Tryd.ntmps36
  go_wp2_with (first | ((with_reducible refine gate_dst (N := 3) rfl ?_); refine box_event ?hg (N := 3) ?hd (cs := #[.slice A0_0 l0_0.length c0_0]) (t := 31) ?hr ?_; (case hd => rfl); (case hg => rfl); (case hr => first | (go_simp; done) | (go_simp; rfl)); intro gb124 hg w23 hbox hb; have BK124 := Aside0.mk (hbox); have GW124 := Aside0.mk ((by rw [hg]; exact (below_size (uB0 HB)) : w.heap.size ≤ gb124)); have GE124 := Aside0.mk ((by rw [hg]; exact (below_size (uB0 HB)) : w.heap.size ≤ gb124)); replace HB := Aside0.mk (below_step (uB0 HB) hb); clear hb hbox hg; have hcz24_0 : w23.cell? ⟨gb124, 0, none⟩ = some (.slice A0_0 l0_0.length c0_0) := uF BK124 0; have hfz24_0 := blk_frozen BK124.out 0) | ((with_reducible refine gate_callee (f := 47) rfl ?_); refine goesL_ (some 9) rfl rfl Tryd.func47 (by kernel_rfl) rfl #[.agg #[.slice A0_0 l0_0.length c0_0], .int .i64 a1] rfl uC ?_; (with_reducible refine (lattice_Lat_has.calls _ _ l0_0 a1 true _ ?side1 ?side2 A4.out).mono ?_); (case side1 => exact uS (Kd.C_below HR0_0.out HB.out)); (case side2 => exact HC0_0.out); rintro e w25 ⟨rfl, hb⟩; refine ⟨_, rfl, ?_⟩; replace BK124 := uD BK124 hb; replace HB := Aside0.mk (below_step (uB1 HB GE124) hb); (try clear hb); (try clear hb2); (try clear hk); (try clear hi); have hcz26_0 : w25.cell? ⟨gb124, 0, none⟩ = some (.slice A0_0 l0_0.length c0_0) := uF BK124 0; have hfz26_0 := blk_frozen BK124.out 0) | (go_at_call 47; (with_reducible refine (lattice_Lat_has.calls _ _ l0_0 a2 false _ ?side1 ?side2 A6.out).mono ?_); (case side1 => exact uS (Kd.C_below HR0_0.out HB.out)); (case side2 => exact HC0_0.out); rintro e w27 ⟨rfl, hb⟩; replace BK124 := uD BK124 hb; replace HB := Aside0.mk (below_step (uB1 HB GE124) hb); (try clear hb); (try clear hb2); (try clear hk); (try clear hi)))
  go_ret
  exact ⟨by first | rfl | (simp [errW_none, errW_some] <;> rfl) | (simp [*, errW_none, errW_some] <;> rfl), uB1 HB GE124⟩
 replace c5 := Bool.eq_false_iff.mpr c5
 subst c5
 have H1 : (some false) = some r := by rw [if_neg (show ¬ (false = true) by decide)] at H; exact H
 clear H
 have H := H1
 clear H1
 obtain rfl := Option.some.inj H
 go_enter Tryd.func36, Tryd.ntmps36
 go_wp2_with (first | ((with_reducible refine gate_dst (N := 3) rfl ?_); refine box_event ?hg (N := 3) ?hd (cs := #[.slice A0_0 l0_0.length c0_0]) (t := 31) ?hr ?_; (case hd => rfl); (case hg => rfl); (case hr => first | (go_simp; done) | (go_simp; rfl)); intro gb124 hg w28 hbox hb; have BK124 := Aside0.mk (hbox); have GW124 := Aside0.mk ((by rw [hg]; exact (below_size (uB0 HB)) : w.heap.size ≤ gb124)); have GE124 := Aside0.mk ((by rw [hg]; exact (below_size (uB0 HB)) : w.heap.size ≤ gb124)); replace HB := Aside0.mk (below_step (uB0 HB) hb); clear hb hbox hg; have hcz29_0 : w28.cell? ⟨gb124, 0, none⟩ = some (.slice A0_0 l0_0.length c0_0) := uF BK124 0; have hfz29_0 := blk_frozen BK124.out 0) | ((with_reducible refine gate_callee (f := 47) rfl ?_); refine goesL_ (some 9) rfl rfl Tryd.func47 (by kernel_rfl) rfl #[.agg #[.slice A0_0 l0_0.length c0_0], .int .i64 a1] rfl uC ?_; (with_reducible refine (lattice_Lat_has.calls _ _ l0_0 a1 false _ ?side1 ?side2 A4.out).mono ?_); (case side1 => exact uS (Kd.C_below HR0_0.out HB.out)); (case side2 => exact HC0_0.out); rintro e w30 ⟨rfl, hb⟩; refine ⟨_, rfl, ?_⟩; replace BK124 := uD BK124 hb; replace HB := Aside0.mk (below_step (uB1 HB GE124) hb); (try clear hb); (try clear hb2); (try clear hk); (try clear hi)))
 go_ret
 exact ⟨by first | rfl | (simp [errW_none, errW_some] <;> rfl) | (simp [*, errW_none, errW_some] <;> rfl), uB1 HB GE124⟩

/-! ### lattice_Lat_Leq: function 25 -/
def lattice_Lat_Leq.f (k : Nat) (l0_0 : List Int) (a1 : Int) (a2 : Int) : Option (Bool) := (lattice_Lat_may.f k l0_0 a1 a2).bind fun t130 => (if t130 = true then ((lattice_Lat_leq.f l0_0 a1 a2).bind fun t131 => (some t131)) else (some false))
theorem lattice_Lat_Leq.mono : ∀ a0 a1 a2 k, LeO (lattice_Lat_Leq.f k a0 a1 a2) (lattice_Lat_Leq.f (k + 1) a0 a1 a2) := by
 intro a0 a1 a2 k
 unfold lattice_Lat_Leq.f
 repeat' first
   | (with_reducible exact lattice_Lat_may.mono _ _ _ _)
   | (with_reducible exact LeO.refl _)
   | (with_reducible exact LeO.none _)
   | (with_reducible refine LeO.ite ?_ ?_)
   | (with_reducible refine LeO.bind ?_ (fun _ => ?_))
   | exact lattice_Lat_may.mono _ _ _ _
   | exact LeO.none _
   | refine LeO.ite ?_ ?_
   | refine LeO.bind ?_ (fun _ => ?_)
set_option maxHeartbeats 8000000 in
set_option maxRecDepth 100000 in
theorem lattice_Lat_Leq.calls (k : Nat) (A0_0 : Option Addr) (c0_0 : Nat) (l0_0 : List Int) (a1 : Int) (a2 : Int) (r : Bool) (w : World) (hr0_0 : Kd.C (Kd.int .u8) w A0_0 l0_0.length l0_0) (hc0_0 : l0_0.length ≤ c0_0) (h : lattice_Lat_Leq.f k l0_0 a1 a2 = some r) :
  Calls Tryd.prog 25 #[.agg #[.slice A0_0 l0_0.length c0_0], .int .i64 a1, .int .i64 a2] w fun e w' => e = .returned (.bool r) ∧ Below w.heap.size w w' := by
 have hu31 := Tryd.underlying31
 have HR0_0 := Aside0.mk hr0_0
 have HC0_0 := Aside0.mk hc0_0
 clear hr0_0 hc0_0
 have HB := Aside0.mk (Below.refl w.heap.size w)
 have H : ((lattice_Lat_may.f k l0_0 a1 a2).bind fun t130 => (if t130 = true then ((lattice_Lat_leq.f l0_0 a1 a2).bind fun t131 => (some t131)) else (some false))) = some r := h
 clear h
 replace H := Option.bind_eq_some_iff.mp H
 obtain ⟨t130, A40, H⟩ := H
 replace H : (if t130 = true then ((lattice_Lat_leq.f l0_0 a1 a2).bind fun t131 => (some t131)) else (some false)) = some r := H
 have A4 := Aside0.mk A40
 clear A40
 by_cases c5 : t130 = true
 ·subst c5
  have H1 : ((lattice_Lat_leq.f l0_0 a1 a2).bind fun t131 => (some t131)) = some r := by rw [if_pos rfl] at H; exact H
  clear H
  have H := H1
  clear H1
  replace H := Option.bind_eq_some_iff.mp H
  obtain ⟨t131, A60, H⟩ := H
  replace H : (some t131) = some r := H
  have A6 := Aside0.mk A60
  clear A60
  obtain rfl := Option.some.inj H
  go_enter Tryd.func25, Tryd.ntmps25
  go_wp2_with (first | ((with_reducible refine gate_dst (N := 3) rfl ?_); refine box_event ?hg (N := 3) ?hd (cs := #[.slice A0_0 l0_0.length c0_0]) (t := 31) ?hr ?_; (case hd => rfl); (case hg => rfl); (case hr => first | (go_simp; done) | (go_simp; rfl)); intro gb129 hg w7 hbox hb; have BK129 := Aside0.mk (hbox); have GW129 := Aside0.mk ((by rw [hg]; exact (below_size (uB0 HB)) : w.heap.size ≤ gb129)); have GE129 := Aside0.mk ((by rw [hg]; exact (below_size (uB0 HB)) : w.heap.size ≤ gb129)); replace HB := Aside0.mk (below_step (uB0 HB) hb); clear hb hbox hg; have hcz8_0 : w7.cell? ⟨gb129, 0, none⟩ = some (.slice A0_0 l0_0.length c0_0) := uF BK129 0; have hfz8_0 := blk_frozen BK129.out 0) | ((with_reducible refine gate_callee (f := 36) rfl ?_); refine goesL_ (some 10) rfl rfl Tryd.func36 (by kernel_rfl) rfl #[.agg #[.slice A0_0 l0_0.length c0_0], .int .i64 a1, .int .i64 a2] rfl uC ?_; (with_reducible refine (lattice_Lat_may.calls k _ _ l0_0 a1 a2 true _ ?side1 ?side2 A4.out).mono ?_); (case side1 => exact uS (Kd.C_below HR0_0.out HB.out)); (case side2 => exact HC0_0.out); rintro e w9 ⟨rfl, hb⟩; refine ⟨_, rfl, ?_⟩; replace BK129 := uD BK129 hb; replace HB := Aside0.mk (below_step (uB1 HB GE129) hb); (try clear hb); (try clear hb2); (try clear hk); (try clear hi); have hcz10_0 : w9.cell? ⟨gb129, 0, none⟩ = some (.slice A0_0 l0_0.length c0_0) := uF BK129 0; have hfz10_0 := blk_frozen BK129.out 0) | (go_at_call 37; (with_reducible refine (lattice_Lat_leq.calls _ _ l0_0 a1 a2 t131 _ ?side1 ?side2 A6.out).mono ?_); (case side1 => exact uS (Kd.C_below HR0_0.out HB.out)); (case side2 => exact HC0_0.out); rintro e w11 ⟨rfl, hb⟩; replace BK129 := uD BK129 hb; replace HB := Aside0.mk (below_step (uB1 HB GE129) hb); (try clear hb); (try clear hb2); (try clear hk); (try clear hi)))
  go_ret
  exact ⟨by first | rfl | (simp [errW_none, errW_some] <;> rfl) | (simp [*, errW_none, errW_some] <;> rfl), uB1 HB GE129⟩
 replace c5 := Bool.eq_false_iff.mpr c5
 subst c5
 have H1 : (some false) = some r := by rw [if_neg (show ¬ (false = true) by decide)] at H; exact H
 clear H
 have H := H1
 clear H1
 obtain rfl := Option.some.inj H
 go_enter Tryd.func25, Tryd.ntmps25
 go_wp2_with (first | ((with_reducible refine gate_dst (N := 3) rfl ?_); refine box_event ?hg (N := 3) ?hd (cs := #[.slice A0_0 l0_0.length c0_0]) (t := 31) ?hr ?_; (case hd => rfl); (case hg => rfl); (case hr => first | (go_simp; done) | (go_simp; rfl)); intro gb129 hg w12 hbox hb; have BK129 := Aside0.mk (hbox); have GW129 := Aside0.mk ((by rw [hg]; exact (below_size (uB0 HB)) : w.heap.size ≤ gb129)); have GE129 := Aside0.mk ((by rw [hg]; exact (below_size (uB0 HB)) : w.heap.size ≤ gb129)); replace HB := Aside0.mk (below_step (uB0 HB) hb); clear hb hbox hg; have hcz13_0 : w12.cell? ⟨gb129, 0, none⟩ = some (.slice A0_0 l0_0.length c0_0) := uF BK129 0; have hfz13_0 := blk_frozen BK129.out 0) | ((with_reducible refine gate_callee (f := 36) rfl ?_); refine goesL_ (some 10) rfl rfl Tryd.func36 (by kernel_rfl) rfl #[.agg #[.slice A0_0 l0_0.length c0_0], .int .i64 a1, .int .i64 a2] rfl uC ?_; (with_reducible refine (lattice_Lat_may.calls k _ _ l0_0 a1 a2 false _ ?side1 ?side2 A4.out).mono ?_); (case side1 => exact uS (Kd.C_below HR0_0.out HB.out)); (case side2 => exact HC0_0.out); rintro e w14 ⟨rfl, hb⟩; refine ⟨_, rfl, ?_⟩; replace BK129 := uD BK129 hb; replace HB := Aside0.mk (below_step (uB1 HB GE129) hb); (try clear hb); (try clear hb2); (try clear hk); (try clear hi)))
 go_ret
 exact ⟨by first | rfl | (simp [errW_none, errW_some] <;> rfl) | (simp [*, errW_none, errW_some] <;> rfl), uB1 HB GE129⟩

/-! ### mon_Region_may: function 29 -/
def mon_Region_may.f (k : Nat) (a0_0 : Int) (a0_1 : Int) (a0_2 : Int) (l1_0 : List Int) (a2 : Int) : Option (Bool) := if a0_0 ≥ 0 then (if a0_0 < 512 then (if a0_2 ≥ 0 then (if a0_2 ≤ 32 then (if a0_1 = a2 then (some false) else ((lattice_Lat_Leq.f k l1_0 a2 a0_1).bind fun t134 => (some t134))) else (some false)) else (some false)) else (some false)) else (some false)
theorem mon_Region_may.mono : ∀ a0 a1 a2 a3 a4 k, LeO (mon_Region_may.f k a0 a1 a2 a3 a4) (mon_Region_may.f (k + 1) a0 a1 a2 a3 a4) := by
 intro a0 a1 a2 a3 a4 k
 unfold mon_Region_may.f
 repeat' first
   | (with_reducible exact lattice_Lat_Leq.mono _ _ _ _)
   | (with_reducible exact LeO.refl _)
   | (with_reducible exact LeO.none _)
   | (with_reducible refine LeO.ite ?_ ?_)
   | (with_reducible refine LeO.bind ?_ (fun _ => ?_))
   | exact lattice_Lat_Leq.mono _ _ _ _
   | exact LeO.none _
   | refine LeO.ite ?_ ?_
   | refine LeO.bind ?_ (fun _ => ?_)
set_option maxHeartbeats 8000000 in
set_option maxRecDepth 100000 in
theorem mon_Region_may.calls (k : Nat) (a0_0 : Int) (a0_1 : Int) (a0_2 : Int) (A1_0 : Option Addr) (c1_0 : Nat) (l1_0 : List Int) (a2 : Int) (r : Bool) (w : World) (hr1_0 : Kd.C (Kd.int .u8) w A1_0 l1_0.length l1_0) (hc1_0 : l1_0.length ≤ c1_0) (h : mon_Region_may.f k a0_0 a0_1 a0_2 l1_0 a2 = some r) :
  Calls Tryd.prog 29 #[.agg #[.int .i64 a0_0, .int .i64 a0_1, .int .i64 a0_2], .agg #[.slice A1_0 l1_0.length c1_0], .int .i64 a2] w fun e w' => e = .returned (.bool r) ∧ Below w.heap.size w w' := by
 have hu58 := Tryd.underlying58
 have hu31 := Tryd.underlying31
 have HR1_0 := Aside0.mk hr1_0
 have HC1_0 := Aside0.mk hc1_0
 clear hr1_0 hc1_0
 have HB := Aside0.mk (Below.refl w.heap.size w)
 have H : (if a0_0 ≥ 0 then (if a0_0 < 512 then (if a0_2 ≥ 0 then (if a0_2 ≤ 32 then (if a0_1 = a2 then (some false) else ((lattice_Lat_Leq.f k l1_0 a2 a0_1).bind fun t134 => (some t134))) else (some false)) else (some false)) else (some false)) else (some false)) = some r := h
 clear h
 by_cases c4 : a0_0 ≥ 0
 ·rw [if_pos c4] at H
  have c4b0 : decide (0 ≤ a0_0) = true := decide_eq_true c4
  clear c4
  by_cases c5 : a0_0 < 512
  ·rw [if_pos c5] at H
   have c5b0 : decide (a0_0 < 512) = true := decide_eq_true c5
   clear c5
   by_cases c6 : a0_2 ≥ 0
   ·rw [if_pos c6] at H
    have c6b0 : decide (0 ≤ a0_2) = true := decide_eq_true c6
    clear c6
    by_cases c7 : a0_2 ≤ 32
    ·rw [if_pos c7] at H
     have c7b0 : decide (a0_2 ≤ 32) = true := decide_eq_true c7
     clear c7
     by_cases c8 : a0_1 = a2
     ·rw [if_pos c8] at H
      have c8b0 : (a0_1 == a2) = true := beq_iff_eq.mpr c8
      have c8b1 : (a0_1 != a2) = false := bne_eq_false_iff_eq.mpr c8
      clear c8
      obtain rfl := Option.some.inj H
      go_enter Tryd.func29, Tryd.ntmps29
      go_wp2_with (first | ((with_reducible refine gate_dst (N := 3) rfl ?_); refine box_event ?hg (N := 3) ?hd (cs := #[.int .i64 a0_0, .int .i64 a0_1, .int .i64 a0_2]) (t := 58) ?hr ?_; (case hd => rfl); (case hg => rfl); (case hr => first | (go_simp; done) | (go_simp; rfl)); intro gb132 hg w9 hbox hb; have BK132 := Aside0.mk (hbox); have GW132 := Aside0.mk ((by rw [hg]; exact (below_size (uB0 HB)) : w.heap.size ≤ gb132)); have GE132 := Aside0.mk ((by rw [hg]; exact (below_size (uB0 HB)) : w.heap.size ≤ gb132)); replace HB := Aside0.mk (below_step (uB0 HB) hb); clear hb hbox hg) | ((with_reducible refine gate_dst (N := 4) rfl ?_); refine box_event ?hg (N := 4) ?hd (cs := #[.slice A1_0 l1_0.length c1_0]) (t := 31) ?hr ?_; (case hd => rfl); (case hg => rfl); (case hr => first | (go_simp; done) | (go_simp; rfl)); intro gb133 hg w10 hbox hb; have BK133 := Aside0.mk (hbox); have GW133 := Aside0.mk ((by rw [hg]; exact (below_size (uB1 HB GE132)) : w.heap.size ≤ gb133)); have GE133 := Aside0.mk ((by rw [hg]; exact (below_size (uB1 HB GE132)) : w.heap.size ≤ gb133)); replace HB := Aside0.mk (below_step (uB1 HB GE132) hb); have NB132_133 := uN1 BK132 hg; have NB133_132 := uN2 BK132 hg; replace BK132 := uD BK132 hb; clear hb hbox hg; have hnb11 := NB132_133.out; have hnc11 := NB133_132.out; have hcz12_0 : w10.cell? ⟨gb132, 0, none⟩ = some (.int .i64 a0_0) := uF BK132 0; have hcz12_1 : w10.cell? ⟨gb132, 1, none⟩ = some (.int .i64 a0_1) := uF BK132 1; have hcz12_2 : w10.cell? ⟨gb132, 2, none⟩ = some (.int .i64 a0_2) := uF BK132 2; have hfz12_0 := blk_frozen BK132.out 0; have hfz12_1 := blk_frozen BK132.out 1; have hfz12_2 := blk_frozen BK132.out 2))
      go_ret
      exact ⟨by first | rfl | (simp [errW_none, errW_some] <;> rfl) | (simp [*, errW_none, errW_some] <;> rfl), uB2 HB GE132 GE133⟩
     rw [if_neg c8] at H
     have c8b0 : (a0_1 == a2) = false := beq_eq_false_iff_ne.mpr c8
     have c8b1 : (a0_1 != a2) = true := bne_iff_ne.mpr c8
     replace H := Option.bind_eq_some_iff.mp H
     obtain ⟨t134, A130, H⟩ := H
     replace H : (some t134) = some r := H
     have A13 := Aside0.mk A130
     clear A130
     obtain rfl := Option.some.inj H
     go_enter Tryd.func29, Tryd.ntmps29
     go_wp2_with (first | ((with_reducible refine gate_dst (N := 3) rfl ?_); refine box_event ?hg (N := 3) ?hd (cs := #[.int .i64 a0_0, .int .i64 a0_1, .int .i64 a0_2]) (t := 58) ?hr ?_; (case hd => rfl); (case hg => rfl); (case hr => first | (go_simp; done) | (go_simp; rfl)); intro gb132 hg w14 hbox hb; have BK132 := Aside0.mk (hbox); have GW132 := Aside0.mk ((by rw [hg]; exact (below_size (uB0 HB)) : w.heap.size ≤ gb132)); have GE132 := Aside0.mk ((by rw [hg]; exact (below_size (uB0 HB)) : w.heap.size ≤ gb132)); replace HB := Aside0.mk (below_step (uB0 HB) hb); clear hb hbox hg) | ((with_reducible refine gate_dst (N := 4) rfl ?_); refine box_event ?hg (N := 4) ?hd (cs := #[.slice A1_0 l1_0.length c1_0]) (t := 31) ?hr ?_; (case hd => rfl); (case hg => rfl); (case hr => first | (go_simp; done) | (go_simp; rfl)); intro gb133 hg w15 hbox hb; have BK133 := Aside0.mk (hbox); have GW133 := Aside0.mk ((by rw [hg]; exact (below_size (uB1 HB GE132)) : w.heap.size ≤ gb133)); have GE133 := Aside0.mk ((by rw [hg]; exact (below_size (uB1 HB GE132)) : w.heap.size ≤ gb133)); replace HB := Aside0.mk (below_step (uB1 HB GE132) hb); have NB132_133 := uN1 BK132 hg; have NB133_132 := uN2 BK132 hg; replace BK132 := uD BK132 hb; clear hb hbox hg; have hnb16 := NB132_133.out; have hnc16 := NB133_132.out; have hcz17_0 : w15.cell? ⟨gb132, 0, none⟩ = some (.int .i64 a0_0) := uF BK132 0; have hcz17_1 : w15.cell? ⟨gb132, 1, none⟩ = some (.int .i64 a0_1) := uF BK132 1; have hcz17_2 : w15.cell? ⟨gb132, 2, none⟩ = some (.int .i64 a0_2) := uF BK132 2; have hfz17_0 := blk_frozen BK132.out 0; have hfz17_1 := blk_frozen BK132.out 1; have hfz17_2 := blk_frozen BK132.out 2; have hcz18_0 : w15.cell? ⟨gb133, 0, none⟩ = some (.slice A1_0 l1_0.length c1_0) := uF BK133 0; have hfz18_0 := blk_frozen BK133.out 0) | (go_at_call 25; (with_reducible refine (lattice_Lat_Leq.calls k _ _ l1_0 a2 a0_1 t134 _ ?side1 ?side2 A13.out).mono ?_); (case side1 => exact uS (Kd.C_below HR1_0.out HB.out)); (case side2 => exact HC1_0.out); rintro e w19 ⟨rfl, hb⟩; replace BK132 := uD BK132 hb; replace BK133 := uD BK133 hb; replace HB := Aside0.mk (below_step (uB2 HB GE132 GE133) hb); (try clear hb); (try clear hb2); (try clear hk); (try clear hi)))
     go_ret
     exact ⟨by first | rfl | (simp [errW_none, errW_some] <;> rfl) | (simp [*, errW_none, errW_some] <;> rfl), uB2 HB GE132 GE133⟩
    rw [if_neg c7] at H
    have c7b0 : decide (a0_2 ≤ 32) = false := decide_eq_false c7
    clear c7
    obtain rfl := Option.some.inj H
    go_enter Tryd.func29, Tryd.ntmps29
    go_wp2_with (first | ((with_reducible refine gate_dst (N := 3) rfl ?_); refine box_event ?hg (N := 3) ?hd (cs := #[.int .i64 a0_0, .int .i64 a0_1, .int .i64 a0_2]) (t := 58) ?hr ?_; (case hd => rfl); (case hg => rfl); (case hr => first | (go_simp; done) | (go_simp; rfl)); intro gb132 hg w20 hbox hb; have BK132 := Aside0.mk (hbox); have GW132 := Aside0.mk ((by rw [hg]; exact (below_size (uB0 HB)) : w.heap.size ≤ gb132)); have GE132 := Aside0.mk ((by rw [hg]; exact (below_size (uB0 HB)) : w.heap.size ≤ gb132)); replace HB := Aside0.mk (below_step (uB0 HB) hb); clear hb hbox hg) | ((with_reducible refine gate_dst (N := 4) rfl ?_); refine box_event ?hg (N := 4) ?hd (cs := #[.slice A1_0 l1_0.length c1_0]) (t := 31) ?hr ?_; (case hd => rfl); (case hg => rfl); (case hr => first | (go_simp; done) | (go_simp; rfl)); intro gb133 hg w21 hbox hb; have BK133 := Aside0.mk (hbox); have GW133 := Aside0.mk ((by rw [hg]; exact (below_size (uB1 HB GE132)) : w.heap.size ≤ gb133)); have GE133 := Aside0.mk ((by rw [hg]; exact (below_size (uB1 HB GE132)) : w.heap.size ≤ gb133)); replace HB := Aside0.mk (below_step (uB1 HB GE132) hb); have NB132_133 := uN1 BK132 hg; have NB133_132 := uN2 BK132 hg; replace BK132 := uD BK132 hb; clear hb hbox hg; have hnb22 := NB132_133.out; have hnc22 := NB133_132.out; have hcz23_0 : w21.cell? ⟨gb132, 0, none⟩ = some (.int .i64 a0_0) := uF BK132 0; have hcz23_1 : w21.cell? ⟨gb132, 1, none⟩ = some (.int .i64 a0_1) := uF BK132 1; have hcz23_2 : w21.cell? ⟨gb132, 2, none⟩ = some (.int .i64 a0_2) := uF BK132 2; have hfz23_0 := blk_frozen BK132.out 0; have hfz23_1 := blk_frozen BK132.out 1; have hfz23_2 := blk_frozen BK132.out 2))
    go_ret
    exact ⟨by first | rfl | (simp [errW_none, errW_some] <;> rfl) | (simp [*, errW_none, errW_some] <;> rfl), uB2 HB GE132 GE133⟩
   rw [if_neg c6] at H
   have c6b0 : decide (0 ≤ a0_2) = false := decide_eq_false c6
   clear c6
   obtain rfl := Option.some.inj H
   go_enter Tryd.func29, Tryd.ntmps29
   go_wp2_with (first | ((with_reducible refine gate_dst (N := 3) rfl ?_); refine box_event ?hg (N := 3) ?hd (cs := #[.int .i64 a0_0, .int .i64 a0_1, .int .i64 a0_2]) (t := 58) ?hr ?_; (case hd => rfl); (case hg => rfl); (case hr => first | (go_simp; done) | (go_simp; rfl)); intro gb132 hg w24 hbox hb; have BK132 := Aside0.mk (hbox); have GW132 := Aside0.mk ((by rw [hg]; exact (below_size (uB0 HB)) : w.heap.size ≤ gb132)); have GE132 := Aside0.mk ((by rw [hg]; exact (below_size (uB0 HB)) : w.heap.size ≤ gb132)); replace HB := Aside0.mk (below_step (uB0 HB) hb); clear hb hbox hg) | ((with_reducible refine gate_dst (N := 4) rfl ?_); refine box_event ?hg (N := 4) ?hd (cs := #[.slice A1_0 l1_0.length c1_0]) (t := 31) ?hr ?_; (case hd => rfl); (case hg => rfl); (case hr => first | (go_simp; done) | (go_simp; rfl)); intro gb133 hg w25 hbox hb; have BK133 := Aside0.mk (hbox); have GW133 := Aside0.mk ((by rw [hg]; exact (below_size (uB1 HB GE132)) : w.heap.size ≤ gb133)); have GE133 := Aside0.mk ((by rw [hg]; exact (below_size (uB1 HB GE132)) : w.heap.size ≤ gb133)); replace HB := Aside0.mk (below_step (uB1 HB GE132) hb); have NB132_133 := uN1 BK132 hg; have NB133_132 := uN2 BK132 hg; replace BK132 := uD BK132 hb; clear hb hbox hg; have hnb26 := NB132_133.out; have hnc26 := NB133_132.out; have hcz27_0 : w25.cell? ⟨gb132, 0, none⟩ = some (.int .i64 a0_0) := uF BK132 0; have hcz27_1 : w25.cell? ⟨gb132, 1, none⟩ = some (.int .i64 a0_1) := uF BK132 1; have hcz27_2 : w25.cell? ⟨gb132, 2, none⟩ = some (.int .i64 a0_2) := uF BK132 2; have hfz27_0 := blk_frozen BK132.out 0; have hfz27_1 := blk_frozen BK132.out 1; have hfz27_2 := blk_frozen BK132.out 2))
   go_ret
   exact ⟨by first | rfl | (simp [errW_none, errW_some] <;> rfl) | (simp [*, errW_none, errW_some] <;> rfl), uB2 HB GE132 GE133⟩
  rw [if_neg c5] at H
  have c5b0 : decide (a0_0 < 512) = false := decide_eq_false c5
  clear c5
  obtain rfl := Option.some.inj H
  go_enter Tryd.func29, Tryd.ntmps29
  go_wp2_with (first | ((with_reducible refine gate_dst (N := 3) rfl ?_); refine box_event ?hg (N := 3) ?hd (cs := #[.int .i64 a0_0, .int .i64 a0_1, .int .i64 a0_2]) (t := 58) ?hr ?_; (case hd => rfl); (case hg => rfl); (case hr => first | (go_simp; done) | (go_simp; rfl)); intro gb132 hg w28 hbox hb; have BK132 := Aside0.mk (hbox); have GW132 := Aside0.mk ((by rw [hg]; exact (below_size (uB0 HB)) : w.heap.size ≤ gb132)); have GE132 := Aside0.mk ((by rw [hg]; exact (below_size (uB0 HB)) : w.heap.size ≤ gb132)); replace HB := Aside0.mk (below_step (uB0 HB) hb); clear hb hbox hg) | ((with_reducible refine gate_dst (N := 4) rfl ?_); refine box_event ?hg (N := 4) ?hd (cs := #[.slice A1_0 l1_0.length c1_0]) (t := 31) ?hr ?_; (case hd => rfl); (case hg => rfl); (case hr => first | (go_simp; done) | (go_simp; rfl)); intro gb133 hg w29 hbox hb; have BK133 := Aside0.mk (hbox); have GW133 := Aside0.mk ((by rw [hg]; exact (below_size (uB1 HB GE132)) : w.heap.size ≤ gb133)); have GE133 := Aside0.mk ((by rw [hg]; exact (below_size (uB1 HB GE132)) : w.heap.size ≤ gb133)); replace HB := Aside0.mk (below_step (uB1 HB GE132) hb); have NB132_133 := uN1 BK132 hg; have NB133_132 := uN2 BK132 hg; replace BK132 := uD BK132 hb; clear hb hbox hg; have hnb30 := NB132_133.out; have hnc30 := NB133_132.out; have hcz31_0 : w29.cell? ⟨gb132, 0, none⟩ = some (.int .i64 a0_0) := uF BK132 0; have hcz31_1 : w29.cell? ⟨gb132, 1, none⟩ = some (.int .i64 a0_1) := uF BK132 1; have hcz31_2 : w29.cell? ⟨gb132, 2, none⟩ = some (.int .i64 a0_2) := uF BK132 2; have hfz31_0 := blk_frozen BK132.out 0; have hfz31_1 := blk_frozen BK132.out 1; have hfz31_2 := blk_frozen BK132.out 2))
  go_ret
  exact ⟨by first | rfl | (simp [errW_none, errW_some] <;> rfl) | (simp [*, errW_none, errW_some] <;> rfl), uB2 HB GE132 GE133⟩
 rw [if_neg c4] at H
 have c4b0 : decide (0 ≤ a0_0) = false := decide_eq_false c4
 clear c4
 obtain rfl := Option.some.inj H
 go_enter Tryd.func29, Tryd.ntmps29
 go_wp2_with (first | ((with_reducible refine gate_dst (N := 3) rfl ?_); refine box_event ?hg (N := 3) ?hd (cs := #[.int .i64 a0_0, .int .i64 a0_1, .int .i64 a0_2]) (t := 58) ?hr ?_; (case hd => rfl); (case hg => rfl); (case hr => first | (go_simp; done) | (go_simp; rfl)); intro gb132 hg w32 hbox hb; have BK132 := Aside0.mk (hbox); have GW132 := Aside0.mk ((by rw [hg]; exact (below_size (uB0 HB)) : w.heap.size ≤ gb132)); have GE132 := Aside0.mk ((by rw [hg]; exact (below_size (uB0 HB)) : w.heap.size ≤ gb132)); replace HB := Aside0.mk (below_step (uB0 HB) hb); clear hb hbox hg) | ((with_reducible refine gate_dst (N := 4) rfl ?_); refine box_event ?hg (N := 4) ?hd (cs := #[.slice A1_0 l1_0.length c1_0]) (t := 31) ?hr ?_; (case hd => rfl); (case hg => rfl); (case hr => first | (go_simp; done) | (go_simp; rfl)); intro gb133 hg w33 hbox hb; have BK133 := Aside0.mk (hbox); have GW133 := Aside0.mk ((by rw [hg]; exact (below_size (uB1 HB GE132)) : w.heap.size ≤ gb133)); have GE133 := Aside0.mk ((by rw [hg]; exact (below_size (uB1 HB GE132)) : w.heap.size ≤ gb133)); replace HB := Aside0.mk (below_step (uB1 HB GE132) hb); have NB132_133 := uN1 BK132 hg; have NB133_132 := uN2 BK132 hg; replace BK132 := uD BK132 hb; clear hb hbox hg; have hnb34 := NB132_133.out; have hnc34 := NB133_132.out; have hcz35_0 : w33.cell? ⟨gb132, 0, none⟩ = some (.int .i64 a0_0) := uF BK132 0; have hcz35_1 : w33.cell? ⟨gb132, 1, none⟩ = some (.int .i64 a0_1) := uF BK132 1; have hcz35_2 : w33.cell? ⟨gb132, 2, none⟩ = some (.int .i64 a0_2) := uF BK132 2; have hfz35_0 := blk_frozen BK132.out 0; have hfz35_1 := blk_frozen BK132.out 1; have hfz35_2 := blk_frozen BK132.out 2))
 go_ret
 exact ⟨by first | rfl | (simp [errW_none, errW_some] <;> rfl) | (simp [*, errW_none, errW_some] <;> rfl), uB2 HB GE132 GE133⟩

/-! ### mon_Check: function 10 -/
def mon_Check.l0 : Nat → Int → List (S58) → Int → Int → List Int → Option (Option Int)
 | 0, _, _, _, _, _ => none
 | k + 1, x6, x25, x26, x27, x136000 => if x27 < x26 then (if 0 ≤ x27 then (if x27 < (x25.length : Int) then ((mon_Region_may.f k ((rd_T58 x25 x27).f0) ((rd_T58 x25 x27).f1) ((rd_T58 x25 x27).f2) x136000 x6).bind fun t142 => (if t142 = true then (mon_Check.l0 k ((rd_T58 x25 x27).f1) x25 x26 (wrap64 (x27 + 1)) x136000) else (some (some 1)))) else (none)) else (none)) else (some none)
def mon_Check.f (k : Nat) (l0_0 : List Int) (a1_0 : Int) (l1_1 : List (S58)) : Option (Option Int) := (lattice_Check.f k l0_0).bind fun t137 => (if t137.isNone = true then ((lattice_Lat_Leq.f k l0_0 a1_0 a1_0).bind fun t139 => (if t139 = true then (mon_Check.l0 k a1_0 l1_1 (l1_1.length : Int) 0 l0_0) else (some (some 1)))) else (some (some (t137.getD 0))))
theorem mon_Check.mono_l : ∀ k, (∀ y0 y1 y2 y3 y4, LeO (mon_Check.l0 k y0 y1 y2 y3 y4) (mon_Check.l0 (k + 1) y0 y1 y2 y3 y4))
 | 0 => fun _ _ _ _ _ r h => by simp [mon_Check.l0] at h
 | k + 1 => by
  have ih0 := mon_Check.mono_l k
  intro y0 y1 y2 y3 y4
  unfold mon_Check.l0
  repeat' first
  | (with_reducible exact ih0 _ _ _ _ _)
  | (with_reducible exact lattice_Check.mono _ _)
  | (with_reducible exact lattice_Lat_Leq.mono _ _ _ _)
  | (with_reducible exact mon_Region_may.mono _ _ _ _ _ _)
  | (with_reducible exact LeO.refl _)
  | (with_reducible exact LeO.none _)
  | (with_reducible refine LeO.ite ?_ ?_)
  | (with_reducible refine LeO.bind ?_ (fun _ => ?_))
  | exact ih0 _ _ _ _ _
  | exact lattice_Check.mono _ _
  | exact lattice_Lat_Leq.mono _ _ _ _
  | exact mon_Region_may.mono _ _ _ _ _ _
  | exact LeO.none _
  | refine LeO.ite ?_ ?_
  | refine LeO.bind ?_ (fun _ => ?_)
theorem mon_Check.mono : ∀ a0 a1 a2 k, LeO (mon_Check.f k a0 a1 a2) (mon_Check.f (k + 1) a0 a1 a2) := by
 intro a0 a1 a2 k
 have ih0 := mon_Check.mono_l k
 unfold mon_Check.f
 repeat' first
   | (with_reducible exact ih0 _ _ _ _ _)
   | (with_reducible exact lattice_Check.mono _ _)
   | (with_reducible exact lattice_Lat_Leq.mono _ _ _ _)
   | (with_reducible exact mon_Region_may.mono _ _ _ _ _ _)
   | (with_reducible exact LeO.refl _)
   | (with_reducible exact LeO.none _)
   | (with_reducible refine LeO.ite ?_ ?_)
   | (with_reducible refine LeO.bind ?_ (fun _ => ?_))
   | exact ih0 _ _ _ _ _
   | exact lattice_Check.mono _ _
   | exact lattice_Lat_Leq.mono _ _ _ _
   | exact mon_Region_may.mono _ _ _ _ _ _
   | exact LeO.none _
   | refine LeO.ite ?_ ?_
   | refine LeO.bind ?_ (fun _ => ?_)
set_option maxHeartbeats 8000000 in
set_option maxRecDepth 100000 in
theorem mon_Check.calls (k : Nat) (A0_0 : Option Addr) (c0_0 : Nat) (l0_0 : List Int) (a1_0 : Int) (A1_1 : Option Addr) (c1_1 : Nat) (l1_1 : List (S58)) (r : Option Int) (w : World) (hr0_0 : Kd.C (Kd.int .u8) w A0_0 l0_0.length l0_0) (hc0_0 : l0_0.length ≤ c0_0) (hr1_1 : Kd.C k58 w A1_1 l1_1.length l1_1) (hc1_1 : l1_1.length ≤ c1_1) (h : mon_Check.f k l0_0 a1_0 l1_1 = some r) :
  Calls Tryd.prog 10 #[.agg #[.slice A0_0 l0_0.length c0_0], .agg #[.int .i64 a1_0, .slice A1_1 l1_1.length c1_1]] w fun e w' => e = .returned (errW r) ∧ Below w.heap.size w w' := by
 have hu31 := Tryd.underlying31
 have hu34 := Tryd.underlying34
 have hu58 := Tryd.underlying58
 have hu38 := Tryd.underlying38
 have hu63 := Tryd.underlying63
 have HR0_0 := Aside0.mk hr0_0
 have HC0_0 := Aside0.mk hc0_0
 clear hr0_0 hc0_0
 have HR1_1 := Aside0.mk hr1_1
 have HC1_1 := Aside0.mk hc1_1
 clear hr1_1 hc1_1
 have HB := Aside0.mk (Below.refl w.heap.size w)
 have H : ((lattice_Check.f k l0_0).bind fun t137 => (if t137.isNone = true then ((lattice_Lat_Leq.f k l0_0 a1_0 a1_0).bind fun t139 => (if t139 = true then (mon_Check.l0 k a1_0 l1_1 (l1_1.length : Int) 0 l0_0) else (some (some 1)))) else (some (some (t137.getD 0))))) = some r := h
 clear h
 replace H := Option.bind_eq_some_iff.mp H
 obtain ⟨t137, A30, H⟩ := H
 replace H : (if t137.isNone = true then ((lattice_Lat_Leq.f k l0_0 a1_0 a1_0).bind fun t139 => (if t139 = true then (mon_Check.l0 k a1_0 l1_1 (l1_1.length : Int) 0 l0_0) else (some (some 1)))) else (some (some (t137.getD 0)))) = some r := H
 have A3 := Aside0.mk A30
 clear A30
 rcases t137 with _ | q138
 ·have H1 : ((lattice_Lat_Leq.f k l0_0 a1_0 a1_0).bind fun t139 => (if t139 = true then (mon_Check.l0 k a1_0 l1_1 (l1_1.length : Int) 0 l0_0) else (some (some 1)))) = some r := by rw [if_pos (show (none : Option Int).isNone = true by rfl)] at H; exact H
  clear H
  have H := H1
  clear H1
  try simp only [errW_none, errW_some]
  replace H := Option.bind_eq_some_iff.mp H
  obtain ⟨t139, A40, H⟩ := H
  replace H : (if t139 = true then (mon_Check.l0 k a1_0 l1_1 (l1_1.length : Int) 0 l0_0) else (some (some 1))) = some r := H
  have A4 := Aside0.mk A40
  clear A40
  by_cases c5 : t139 = true
  ·subst c5
   have H1 : (mon_Check.l0 k a1_0 l1_1 (l1_1.length : Int) 0 l0_0) = some r := by rw [if_pos rfl] at H; exact H
   clear H
   have H := H1
   clear H1
   have H' := Aside0.mk H
   clear H
   go_enter Tryd.func10, Tryd.ntmps10
   go_wp2_with (first | ((with_reducible refine gate_dst (N := 2) rfl ?_); refine box_event ?hg (N := 2) ?hd (cs := #[.slice A0_0 l0_0.length c0_0]) (t := 31) ?hr ?_; (case hd => rfl); (case hg => rfl); (case hr => first | (go_simp; done) | (go_simp; rfl)); intro gb135 hg w6 hbox hb; have BK135 := Aside0.mk (hbox); have GW135 := Aside0.mk ((by rw [hg]; exact (below_size (uB0 HB)) : w.heap.size ≤ gb135)); have GE135 := Aside0.mk ((by rw [hg]; exact (below_size (uB0 HB)) : w.heap.size ≤ gb135)); replace HB := Aside0.mk (below_step (uB0 HB) hb); clear hb hbox hg) | ((with_reducible refine gate_dst (N := 3) rfl ?_); refine box_event ?hg (N := 3) ?hd (cs := #[.int .i64 a1_0, .slice A1_1 l1_1.length c1_1]) (t := 34) ?hr ?_; (case hd => rfl); (case hg => rfl); (case hr => first | (go_simp; done) | (go_simp; rfl)); intro gb136 hg w7 hbox hb; have BK136 := Aside0.mk (hbox); have GW136 := Aside0.mk ((by rw [hg]; exact (below_size (uB1 HB GE135)) : w.heap.size ≤ gb136)); have GE136 := Aside0.mk ((by rw [hg]; exact (below_size (uB1 HB GE135)) : w.heap.size ≤ gb136)); replace HB := Aside0.mk (below_step (uB1 HB GE135) hb); have NB135_136 := uN1 BK135 hg; have NB136_135 := uN2 BK135 hg; replace BK135 := uD BK135 hb; clear hb hbox hg; have hnb8 := NB135_136.out; have hnc8 := NB136_135.out; have hcz9_0 : w7.cell? ⟨gb135, 0, none⟩ = some (.slice A0_0 l0_0.length c0_0) := uF BK135 0; have hfz9_0 := blk_frozen BK135.out 0) | ((with_reducible refine gate_callee (f := 28) rfl ?_); refine goesL_ (some 10) rfl rfl Tryd.func28 (by kernel_rfl) rfl #[.agg #[.slice A0_0 l0_0.length c0_0]] rfl uC ?_; (with_reducible refine (lattice_Check.calls k _ _ l0_0 none _ ?side1 ?side2 A3.out).mono ?_); (case side1 => exact uS (Kd.C_below HR0_0.out HB.out)); (case side2 => exact HC0_0.out); rintro e w10 ⟨rfl, hb⟩; refine ⟨_, rfl, ?_⟩; replace BK135 := uD BK135 hb; replace BK136 := uD BK136 hb; replace HB := Aside0.mk (below_step (uB2 HB GE135 GE136) hb); (try clear hb); (try clear hb2); (try clear hk); (try clear hi); (try simp only [errW_none, errW_some]); have hcz11_0 : w10.cell? ⟨gb135, 0, none⟩ = some (.slice A0_0 l0_0.length c0_0) := uF BK135 0; have hfz11_0 := blk_frozen BK135.out 0; have hcz12_0 : w10.cell? ⟨gb136, 0, none⟩ = some (.int .i64 a1_0) := uF BK136 0; have hcz12_1 : w10.cell? ⟨gb136, 1, none⟩ = some (.slice A1_1 l1_1.length c1_1) := uF BK136 1; have hfz12_0 := blk_frozen BK136.out 0; have hfz12_1 := blk_frozen BK136.out 1) | ((with_reducible refine gate_callee (f := 25) rfl ?_); refine goesL_ (some 19) rfl rfl Tryd.func25 (by kernel_rfl) rfl #[.agg #[.slice A0_0 l0_0.length c0_0], .int .i64 a1_0, .int .i64 a1_0] rfl uC ?_; (with_reducible refine (lattice_Lat_Leq.calls k _ _ l0_0 a1_0 a1_0 true _ ?side1 ?side2 A4.out).mono ?_); (case side1 => exact uS (Kd.C_below HR0_0.out HB.out)); (case side2 => exact HC0_0.out); rintro e w13 ⟨rfl, hb⟩; refine ⟨_, rfl, ?_⟩; replace BK135 := uD BK135 hb; replace BK136 := uD BK136 hb; replace HB := Aside0.mk (below_step (uB2 HB GE135 GE136) hb); (try clear hb); (try clear hb2); (try clear hk); (try clear hi); have hcz14_0 : w13.cell? ⟨gb136, 0, none⟩ = some (.int .i64 a1_0) := uF BK136 0; have hcz14_1 : w13.cell? ⟨gb136, 1, none⟩ = some (.slice A1_1 l1_1.length c1_1) := uF BK136 1; have hfz14_0 := blk_frozen BK136.out 0; have hfz14_1 := blk_frozen BK136.out 1))
   go_loopg [6, 27] k (fun kq v6 v27 w' => ∃ (x6_1 : Int) (x27_1 : Int), v6 = .int .i64 x6_1 ∧ v27 = .int .i64 x27_1 ∧ Aside0 (mon_Check.l0 kq x6_1 l1_1 (l1_1.length : Int) x27_1 l0_0 = some r) ∧ Aside0 (kq ≤ k) ∧ Aside0 (w'.heap[gb135]? = some (.cells #[(.slice A0_0 l0_0.length c0_0)] 31 (0, 0))) ∧ Aside0 (w'.heap[gb136]? = some (.cells #[.int .i64 a1_0, (.slice A1_1 l1_1.length c1_1)] 34 (0, 0))) ∧ Aside0 (Below w.heap.size w w'))
   case atStart => exact ⟨(a1_0), (0), (by first | rfl | (simp; done) | (simp [*]; done)), (by first | rfl | (simp; done) | (simp [*]; done)), H', ⟨Nat.le_refl _⟩, ⟨uK BK135⟩, ⟨uK BK136⟩, ⟨uB2 HB GE135 GE136⟩⟩
   case round =>
   clear H'
   try clear c1
   try clear q1
   try clear c2
   try clear p2
   try clear c5
   try clear c8
   try clear c10
   try clear q13
   try clear hcz11_0
   try clear hcz12_0
   try clear hcz12_1
   try clear hcz14_0
   try clear hcz14_1
   try clear hcz9_0
   try clear hfz11_0
   try clear hfz12_0
   try clear hfz12_1
   try clear hfz14_0
   try clear hfz14_1
   try clear hfz9_0
   try clear q138
   obtain ⟨x6_1, x27_1, rfl, rfl, HA, HK1, BK135, BK136, HB⟩ := hrel
   cases gk with
   | zero => exact absurd HA.out (by simp [mon_Check.l0])
   | succ k1 =>
   have H := HA.out
   clear HA
   simp only [mon_Check.l0] at H
   by_cases c15 : x27_1 < (l1_1.length : Int)
   ·rw [if_pos c15] at H
    have c15b0 : decide (x27_1 < (l1_1.length : Int)) = true := decide_eq_true c15
    clear c15
    by_cases c16 : 0 ≤ x27_1
    ·rw [if_pos c16] at H
     have c16b0 : decide (0 ≤ x27_1) = true := decide_eq_true c16
     clear c16
     by_cases c17 : x27_1 < (l1_1.length : Int)
     ·rw [if_pos c17] at H
      have c17b0 : decide (x27_1 < (l1_1.length : Int)) = true := decide_eq_true c17
      clear c17
      replace H := Option.bind_eq_some_iff.mp H
      obtain ⟨t142, A180, H⟩ := H
      replace H : (if t142 = true then (mon_Check.l0 k1 ((rd_T58 l1_1 x27_1).f1) l1_1 (l1_1.length : Int) (wrap64 (x27_1 + 1)) l0_0) else (some (some 1))) = some r := H
      have A18 := Aside0.mk A180
      clear A180
      by_cases c19 : t142 = true
      ·subst c19
       have H1 : (mon_Check.l0 k1 ((rd_T58 l1_1 x27_1).f1) l1_1 (l1_1.length : Int) (wrap64 (x27_1 + 1)) l0_0) = some r := by rw [if_pos rfl] at H; exact H
       clear H
       have H := H1
       clear H1
       have H' := Aside0.mk H
       clear H
       have p140 : 0 ≤ (x27_1 : Int) := of_decide_eq_true (by first | (with_reducible assumption) | assumption)
       have q140 : x27_1 < (l1_1.length : Int) := of_decide_eq_true (by first | (with_reducible assumption) | assumption)
       obtain ⟨ad140, e140, hx140_0, hx140_1, hx140_2⟩ := at_T58 HR1_1.out x27_1 p140 q140
       cases e140
       replace hx140_0 := (HB.out.cell (World.block_lt_of_cell? w _ hx140_0)).trans hx140_0
       replace hx140_1 := (HB.out.cell (World.block_lt_of_cell? w _ hx140_1)).trans hx140_1
       replace hx140_2 := (HB.out.cell (World.block_lt_of_cell? w _ hx140_2)).trans hx140_2
       replace p140 := eq_true p140
       replace q140 := eq_true q140
       go_wp2_with (first | ((with_reducible refine gate_dst (N := 8) rfl ?_); refine box_event ?hg (N := 8) ?hd (cs := #[.int .i64 0, .int .i64 0, .int .i64 0]) (t := 58) ?hr ?_; (case hd => rfl); (case hg => rfl); (case hr => first | (go_simp; done) | (go_simp; rfl)); intro gb141 hg w20 hbox hb; have BK141 := Aside0.mk (hbox); have GW141 := Aside0.mk ((by rw [hg]; exact (below_size (uB2 HB GE135 GE136)) : w.heap.size ≤ gb141)); have GE141 := Aside0.mk ((by rw [hg]; exact (below_size (uB2 HB GE135 GE136)) : w.heap.size ≤ gb141)); replace HB := Aside0.mk (below_step (uB2 HB GE135 GE136) hb); have NB135_141 := uN1 BK135 hg; have NB141_135 := uN2 BK135 hg; replace BK135 := uD BK135 hb; have NB136_141 := uN1 BK136 hg; have NB141_136 := uN2 BK136 hg; replace BK136 := uD BK136 hb; clear hb hbox hg; have hnb21 := NB141_135.out; have hnc21 := NB135_141.out; have hnb22 := NB141_136.out; have hnc22 := NB136_141.out; have hcz23_0 : w20.cell? ⟨gb141, 0, none⟩ = some (.int .i64 0) := uF BK141 0; have hcz23_1 : w20.cell? ⟨gb141, 1, none⟩ = some (.int .i64 0) := uF BK141 1; have hcz23_2 : w20.cell? ⟨gb141, 2, none⟩ = some (.int .i64 0) := uF BK141 2; have hfz23_0 := blk_frozen BK141.out 0; have hfz23_1 := blk_frozen BK141.out 1; have hfz23_2 := blk_frozen BK141.out 2; have hnb24 := NB135_136.out; have hnc24 := NB136_135.out; have hcz25_0 : w20.cell? ⟨gb135, 0, none⟩ = some (.slice A0_0 l0_0.length c0_0) := uF BK135 0; have hfz25_0 := blk_frozen BK135.out 0) | ((with_reducible refine gate_callee (f := 29) rfl ?_); refine goesL_ (some 34) rfl rfl Tryd.func29 (by kernel_rfl) rfl #[.agg #[.int .i64 ((rd_T58 l1_1 x27_1).f0), .int .i64 ((rd_T58 l1_1 x27_1).f1), .int .i64 ((rd_T58 l1_1 x27_1).f2)], .agg #[.slice A0_0 l0_0.length c0_0], .int .i64 x6_1] rfl uC ?_; (with_reducible refine (mon_Region_may.calls k1 ((rd_T58 l1_1 x27_1).f0) ((rd_T58 l1_1 x27_1).f1) ((rd_T58 l1_1 x27_1).f2) _ _ l0_0 x6_1 true _ ?side1 ?side2 A18.out).mono ?_); (case side1 => exact Kd.C_below HR0_0.out (uB3 HB GE135 GE136 GE141)); (case side2 => exact HC0_0.out); rintro e w26 ⟨rfl, hb⟩; refine ⟨_, rfl, ?_⟩; replace BK135 := uX BK135 NB135_141 hb; replace BK136 := uX BK136 NB136_141 hb; replace BK141 := Aside0.mk (blk_below (g := gb141) (o := .cells #[.int .i64 ((rd_T58 l1_1 x27_1).f0), .int .i64 ((rd_T58 l1_1 x27_1).f1), .int .i64 ((rd_T58 l1_1 x27_1).f2)] 58 (0, 0)) (by (with_reducible repeat (first | refine blk_drewN ?_ _ | refine blk_drew ?_ | refine blk_alloc ?_ _)); refine blk_put (cs := #[.int .i64 ((rd_T58 l1_1 x27_1).f0), .int .i64 ((rd_T58 l1_1 x27_1).f1), .int .i64 0]) ?_ 2 _ rfl; (with_reducible repeat (first | refine blk_drewN ?_ _ | refine blk_drew ?_ | refine blk_alloc ?_ _)); refine blk_put (cs := #[.int .i64 ((rd_T58 l1_1 x27_1).f0), .int .i64 0, .int .i64 0]) ?_ 1 _ rfl; (with_reducible repeat (first | refine blk_drewN ?_ _ | refine blk_drew ?_ | refine blk_alloc ?_ _)); refine blk_put (cs := #[.int .i64 0, .int .i64 0, .int .i64 0]) ?_ 0 _ rfl; (with_reducible repeat (first | refine blk_drewN ?_ _ | refine blk_drew ?_ | refine blk_alloc ?_ _)); exact BK141.out) hb); replace HB := Aside0.mk (below_step (uB3 HB GE135 GE136 GE141) hb); (try clear hb); (try clear hb2); (try clear hk); (try clear hi); have hcz27_0 : w26.cell? ⟨gb141, 0, none⟩ = some (.int .i64 ((rd_T58 l1_1 x27_1).f0)) := uF BK141 0; have hcz27_1 : w26.cell? ⟨gb141, 1, none⟩ = some (.int .i64 ((rd_T58 l1_1 x27_1).f1)) := uF BK141 1; have hcz27_2 : w26.cell? ⟨gb141, 2, none⟩ = some (.int .i64 ((rd_T58 l1_1 x27_1).f2)) := uF BK141 2; have hfz27_0 := blk_frozen BK141.out 0; have hfz27_1 := blk_frozen BK141.out 1; have hfz27_2 := blk_frozen BK141.out 2))
       go_roundg k1
       case measure => have := HK1.out; omega
       case rel => exact ⟨((rd_T58 l1_1 x27_1).f1), (wrap64 (x27_1 + 1)), (by first | rfl | (simp; done) | (simp [*]; done)), (by first | rfl | (simp; done) | (simp [*]; done)), H', ⟨by have := HK1.out; omega⟩, ⟨uK BK135⟩, ⟨uK BK136⟩, ⟨uB3 HB GE135 GE136 GE141⟩⟩
      replace c19 := Bool.eq_false_iff.mpr c19
      subst c19
      have H1 : (some (some 1)) = some r := by rw [if_neg (show ¬ (false = true) by decide)] at H; exact H
      clear H
      have H := H1
      clear H1
      obtain rfl := Option.some.inj H
      have p140 : 0 ≤ (x27_1 : Int) := of_decide_eq_true (by first | (with_reducible assumption) | assumption)
      have q140 : x27_1 < (l1_1.length : Int) := of_decide_eq_true (by first | (with_reducible assumption) | assumption)
      obtain ⟨ad140, e140, hx140_0, hx140_1, hx140_2⟩ := at_T58 HR1_1.out x27_1 p140 q140
      cases e140
      replace hx140_0 := (HB.out.cell (World.block_lt_of_cell? w _ hx140_0)).trans hx140_0
      replace hx140_1 := (HB.out.cell (World.block_lt_of_cell? w _ hx140_1)).trans hx140_1
      replace hx140_2 := (HB.out.cell (World.block_lt_of_cell? w _ hx140_2)).trans hx140_2
      replace p140 := eq_true p140
      replace q140 := eq_true q140
      go_wp2_with (first | ((with_reducible refine gate_dst (N := 8) rfl ?_); refine box_event ?hg (N := 8) ?hd (cs := #[.int .i64 0, .int .i64 0, .int .i64 0]) (t := 58) ?hr ?_; (case hd => rfl); (case hg => rfl); (case hr => first | (go_simp; done) | (go_simp; rfl)); intro gb141 hg w28 hbox hb; have BK141 := Aside0.mk (hbox); have GW141 := Aside0.mk ((by rw [hg]; exact (below_size (uB2 HB GE135 GE136)) : w.heap.size ≤ gb141)); have GE141 := Aside0.mk ((by rw [hg]; exact (below_size (uB2 HB GE135 GE136)) : w.heap.size ≤ gb141)); replace HB := Aside0.mk (below_step (uB2 HB GE135 GE136) hb); have NB135_141 := uN1 BK135 hg; have NB141_135 := uN2 BK135 hg; replace BK135 := uD BK135 hb; have NB136_141 := uN1 BK136 hg; have NB141_136 := uN2 BK136 hg; replace BK136 := uD BK136 hb; clear hb hbox hg; have hnb29 := NB141_135.out; have hnc29 := NB135_141.out; have hnb30 := NB141_136.out; have hnc30 := NB136_141.out; have hcz31_0 : w28.cell? ⟨gb141, 0, none⟩ = some (.int .i64 0) := uF BK141 0; have hcz31_1 : w28.cell? ⟨gb141, 1, none⟩ = some (.int .i64 0) := uF BK141 1; have hcz31_2 : w28.cell? ⟨gb141, 2, none⟩ = some (.int .i64 0) := uF BK141 2; have hfz31_0 := blk_frozen BK141.out 0; have hfz31_1 := blk_frozen BK141.out 1; have hfz31_2 := blk_frozen BK141.out 2; have hnb32 := NB135_136.out; have hnc32 := NB136_135.out; have hcz33_0 : w28.cell? ⟨gb135, 0, none⟩ = some (.slice A0_0 l0_0.length c0_0) := uF BK135 0; have hfz33_0 := blk_frozen BK135.out 0) | ((with_reducible refine gate_callee (f := 29) rfl ?_); refine goesL_ (some 34) rfl rfl Tryd.func29 (by kernel_rfl) rfl #[.agg #[.int .i64 ((rd_T58 l1_1 x27_1).f0), .int .i64 ((rd_T58 l1_1 x27_1).f1), .int .i64 ((rd_T58 l1_1 x27_1).f2)], .agg #[.slice A0_0 l0_0.length c0_0], .int .i64 x6_1] rfl uC ?_; (with_reducible refine (mon_Region_may.calls k1 ((rd_T58 l1_1 x27_1).f0) ((rd_T58 l1_1 x27_1).f1) ((rd_T58 l1_1 x27_1).f2) _ _ l0_0 x6_1 false _ ?side1 ?side2 A18.out).mono ?_); (case side1 => exact Kd.C_below HR0_0.out (uB3 HB GE135 GE136 GE141)); (case side2 => exact HC0_0.out); rintro e w34 ⟨rfl, hb⟩; refine ⟨_, rfl, ?_⟩; replace BK135 := uX BK135 NB135_141 hb; replace BK136 := uX BK136 NB136_141 hb; replace BK141 := Aside0.mk (blk_below (g := gb141) (o := .cells #[.int .i64 ((rd_T58 l1_1 x27_1).f0), .int .i64 ((rd_T58 l1_1 x27_1).f1), .int .i64 ((rd_T58 l1_1 x27_1).f2)] 58 (0, 0)) (by (with_reducible repeat (first | refine blk_drewN ?_ _ | refine blk_drew ?_ | refine blk_alloc ?_ _)); refine blk_put (cs := #[.int .i64 ((rd_T58 l1_1 x27_1).f0), .int .i64 ((rd_T58 l1_1 x27_1).f1), .int .i64 0]) ?_ 2 _ rfl; (with_reducible repeat (first | refine blk_drewN ?_ _ | refine blk_drew ?_ | refine blk_alloc ?_ _)); refine blk_put (cs := #[.int .i64 ((rd_T58 l1_1 x27_1).f0), .int .i64 0, .int .i64 0]) ?_ 1 _ rfl; (with_reducible repeat (first | refine blk_drewN ?_ _ | refine blk_drew ?_ | refine blk_alloc ?_ _)); refine blk_put (cs := #[.int .i64 0, .int .i64 0, .int .i64 0]) ?_ 0 _ rfl; (with_reducible repeat (first | refine blk_drewN ?_ _ | refine blk_drew ?_ | refine blk_alloc ?_ _)); exact BK141.out) hb); replace HB := Aside0.mk (below_step (uB3 HB GE135 GE136 GE141) hb); (try clear hb); (try clear hb2); (try clear hk); (try clear hi)))
      go_ret
      exact ⟨by first | rfl | (simp [errW_none, errW_some] <;> rfl) | (simp [*, errW_none, errW_some] <;> rfl), uB3 HB GE135 GE136 GE141⟩
     rw [if_neg c17] at H
     exact absurd H (by simp)
    rw [if_neg c16] at H
    exact absurd H (by simp)
   rw [if_neg c15] at H
   have c15b0 : decide (x27_1 < (l1_1.length : Int)) = false := decide_eq_false c15
   clear c15
   obtain rfl := Option.some.inj H
   go_wp2
   go_ret
   exact ⟨by first | rfl | (simp [errW_none, errW_some] <;> rfl) | (simp [*, errW_none, errW_some] <;> rfl), uB2 HB GE135 GE136⟩
  replace c5 := Bool.eq_false_iff.mpr c5
  subst c5
  have H1 : (some (some 1)) = some r := by rw [if_neg (show ¬ (false = true) by decide)] at H; exact H
  clear H
  have H := H1
  clear H1
  obtain rfl := Option.some.inj H
  go_enter Tryd.func10, Tryd.ntmps10
  go_wp2_with (first | ((with_reducible refine gate_dst (N := 2) rfl ?_); refine box_event ?hg (N := 2) ?hd (cs := #[.slice A0_0 l0_0.length c0_0]) (t := 31) ?hr ?_; (case hd => rfl); (case hg => rfl); (case hr => first | (go_simp; done) | (go_simp; rfl)); intro gb135 hg w35 hbox hb; have BK135 := Aside0.mk (hbox); have GW135 := Aside0.mk ((by rw [hg]; exact (below_size (uB0 HB)) : w.heap.size ≤ gb135)); have GE135 := Aside0.mk ((by rw [hg]; exact (below_size (uB0 HB)) : w.heap.size ≤ gb135)); replace HB := Aside0.mk (below_step (uB0 HB) hb); clear hb hbox hg) | ((with_reducible refine gate_dst (N := 3) rfl ?_); refine box_event ?hg (N := 3) ?hd (cs := #[.int .i64 a1_0, .slice A1_1 l1_1.length c1_1]) (t := 34) ?hr ?_; (case hd => rfl); (case hg => rfl); (case hr => first | (go_simp; done) | (go_simp; rfl)); intro gb136 hg w36 hbox hb; have BK136 := Aside0.mk (hbox); have GW136 := Aside0.mk ((by rw [hg]; exact (below_size (uB1 HB GE135)) : w.heap.size ≤ gb136)); have GE136 := Aside0.mk ((by rw [hg]; exact (below_size (uB1 HB GE135)) : w.heap.size ≤ gb136)); replace HB := Aside0.mk (below_step (uB1 HB GE135) hb); have NB135_136 := uN1 BK135 hg; have NB136_135 := uN2 BK135 hg; replace BK135 := uD BK135 hb; clear hb hbox hg; have hnb37 := NB135_136.out; have hnc37 := NB136_135.out; have hcz38_0 : w36.cell? ⟨gb135, 0, none⟩ = some (.slice A0_0 l0_0.length c0_0) := uF BK135 0; have hfz38_0 := blk_frozen BK135.out 0) | ((with_reducible refine gate_callee (f := 28) rfl ?_); refine goesL_ (some 10) rfl rfl Tryd.func28 (by kernel_rfl) rfl #[.agg #[.slice A0_0 l0_0.length c0_0]] rfl uC ?_; (with_reducible refine (lattice_Check.calls k _ _ l0_0 none _ ?side1 ?side2 A3.out).mono ?_); (case side1 => exact uS (Kd.C_below HR0_0.out HB.out)); (case side2 => exact HC0_0.out); rintro e w39 ⟨rfl, hb⟩; refine ⟨_, rfl, ?_⟩; replace BK135 := uD BK135 hb; replace BK136 := uD BK136 hb; replace HB := Aside0.mk (below_step (uB2 HB GE135 GE136) hb); (try clear hb); (try clear hb2); (try clear hk); (try clear hi); (try simp only [errW_none, errW_some]); have hcz40_0 : w39.cell? ⟨gb135, 0, none⟩ = some (.slice A0_0 l0_0.length c0_0) := uF BK135 0; have hfz40_0 := blk_frozen BK135.out 0; have hcz41_0 : w39.cell? ⟨gb136, 0, none⟩ = some (.int .i64 a1_0) := uF BK136 0; have hcz41_1 : w39.cell? ⟨gb136, 1, none⟩ = some (.slice A1_1 l1_1.length c1_1) := uF BK136 1; have hfz41_0 := blk_frozen BK136.out 0; have hfz41_1 := blk_frozen BK136.out 1) | ((with_reducible refine gate_callee (f := 25) rfl ?_); refine goesL_ (some 19) rfl rfl Tryd.func25 (by kernel_rfl) rfl #[.agg #[.slice A0_0 l0_0.length c0_0], .int .i64 a1_0, .int .i64 a1_0] rfl uC ?_; (with_reducible refine (lattice_Lat_Leq.calls k _ _ l0_0 a1_0 a1_0 false _ ?side1 ?side2 A4.out).mono ?_); (case side1 => exact uS (Kd.C_below HR0_0.out HB.out)); (case side2 => exact HC0_0.out); rintro e w42 ⟨rfl, hb⟩; refine ⟨_, rfl, ?_⟩; replace BK135 := uD BK135 hb; replace BK136 := uD BK136 hb; replace HB := Aside0.mk (below_step (uB2 HB GE135 GE136) hb); (try clear hb); (try clear hb2); (try clear hk); (try clear hi)))
  go_ret
  exact ⟨by first | rfl | (simp [errW_none, errW_some] <;> rfl) | (simp [*, errW_none, errW_some] <;> rfl), uB2 HB GE135 GE136⟩
 have H1 : (some (some q138)) = some r := by rw [if_neg (show ¬ (some q138).isNone = true by simp)] at H; exact H
 clear H
 have H := H1
 clear H1
 try simp only [errW_none, errW_some]
 obtain rfl := Option.some.inj H
 go_enter Tryd.func10, Tryd.ntmps10
 go_wp2_with (first | ((with_reducible refine gate_dst (N := 2) rfl ?_); refine box_event ?hg (N := 2) ?hd (cs := #[.slice A0_0 l0_0.length c0_0]) (t := 31) ?hr ?_; (case hd => rfl); (case hg => rfl); (case hr => first | (go_simp; done) | (go_simp; rfl)); intro gb135 hg w43 hbox hb; have BK135 := Aside0.mk (hbox); have GW135 := Aside0.mk ((by rw [hg]; exact (below_size (uB0 HB)) : w.heap.size ≤ gb135)); have GE135 := Aside0.mk ((by rw [hg]; exact (below_size (uB0 HB)) : w.heap.size ≤ gb135)); replace HB := Aside0.mk (below_step (uB0 HB) hb); clear hb hbox hg) | ((with_reducible refine gate_dst (N := 3) rfl ?_); refine box_event ?hg (N := 3) ?hd (cs := #[.int .i64 a1_0, .slice A1_1 l1_1.length c1_1]) (t := 34) ?hr ?_; (case hd => rfl); (case hg => rfl); (case hr => first | (go_simp; done) | (go_simp; rfl)); intro gb136 hg w44 hbox hb; have BK136 := Aside0.mk (hbox); have GW136 := Aside0.mk ((by rw [hg]; exact (below_size (uB1 HB GE135)) : w.heap.size ≤ gb136)); have GE136 := Aside0.mk ((by rw [hg]; exact (below_size (uB1 HB GE135)) : w.heap.size ≤ gb136)); replace HB := Aside0.mk (below_step (uB1 HB GE135) hb); have NB135_136 := uN1 BK135 hg; have NB136_135 := uN2 BK135 hg; replace BK135 := uD BK135 hb; clear hb hbox hg; have hnb45 := NB135_136.out; have hnc45 := NB136_135.out; have hcz46_0 : w44.cell? ⟨gb135, 0, none⟩ = some (.slice A0_0 l0_0.length c0_0) := uF BK135 0; have hfz46_0 := blk_frozen BK135.out 0) | ((with_reducible refine gate_callee (f := 28) rfl ?_); refine goesL_ (some 10) rfl rfl Tryd.func28 (by kernel_rfl) rfl #[.agg #[.slice A0_0 l0_0.length c0_0]] rfl uC ?_; (with_reducible refine (lattice_Check.calls k _ _ l0_0 (some q138) _ ?side1 ?side2 A3.out).mono ?_); (case side1 => exact uS (Kd.C_below HR0_0.out HB.out)); (case side2 => exact HC0_0.out); rintro e w47 ⟨rfl, hb⟩; refine ⟨_, rfl, ?_⟩; replace BK135 := uD BK135 hb; replace BK136 := uD BK136 hb; replace HB := Aside0.mk (below_step (uB2 HB GE135 GE136) hb); (try clear hb); (try clear hb2); (try clear hk); (try clear hi); (try simp only [errW_none, errW_some])))
 go_ret
 exact ⟨by first | rfl | (simp [errW_none, errW_some] <;> rfl) | (simp [*, errW_none, errW_some] <;> rfl), uB2 HB GE135 GE136⟩

/-! ### mon_Mon_Pc: function 12 -/
def mon_Mon_Pc.f (a0_0 : Int) (l0_1 : List (S58)) : Option (Int) := if (l0_1.length : Int) = 0 then (some a0_0) else (if 0 ≤ (wrap64 ((l0_1.length : Int) - 1)) then (if (wrap64 ((l0_1.length : Int) - 1)) < (l0_1.length : Int) then (some ((rd_T58 l0_1 (wrap64 ((l0_1.length : Int) - 1))).f1)) else (none)) else (none))
set_option maxHeartbeats 8000000 in
set_option maxRecDepth 100000 in
theorem mon_Mon_Pc.calls (a0_0 : Int) (A0_1 : Option Addr) (c0_1 : Nat) (l0_1 : List (S58)) (r : Int) (w : World) (hr0_1 : Kd.C k58 w A0_1 l0_1.length l0_1) (hc0_1 : l0_1.length ≤ c0_1) (h : mon_Mon_Pc.f a0_0 l0_1 = some r) :
  Calls Tryd.prog 12 #[.agg #[.int .i64 a0_0, .slice A0_1 l0_1.length c0_1]] w fun e w' => e = .returned (.int .i64 r) ∧ Below w.heap.size w w' := by
 have hu34 := Tryd.underlying34
 have HR0_1 := Aside0.mk hr0_1
 have HC0_1 := Aside0.mk hc0_1
 clear hr0_1 hc0_1
 have HB := Aside0.mk (Below.refl w.heap.size w)
 have H : (if (l0_1.length : Int) = 0 then (some a0_0) else (if 0 ≤ (wrap64 ((l0_1.length : Int) - 1)) then (if (wrap64 ((l0_1.length : Int) - 1)) < (l0_1.length : Int) then (some ((rd_T58 l0_1 (wrap64 ((l0_1.length : Int) - 1))).f1)) else (none)) else (none))) = some r := h
 clear h
 by_cases c2 : (l0_1.length : Int) = 0
 ·rw [if_pos c2] at H
  have c2b0 : ((l0_1.length : Int) == 0) = true := beq_iff_eq.mpr c2
  have c2b1 : ((l0_1.length : Int) != 0) = false := bne_eq_false_iff_eq.mpr c2
  clear c2
  obtain rfl := Option.some.inj H
  go_enter Tryd.func12, Tryd.ntmps12
  go_wp2_with (first | ((with_reducible refine gate_dst (N := 1) rfl ?_); refine box_event ?hg (N := 1) ?hd (cs := #[.int .i64 a0_0, .slice A0_1 l0_1.length c0_1]) (t := 34) ?hr ?_; (case hd => rfl); (case hg => rfl); (case hr => first | (go_simp; done) | (go_simp; rfl)); intro gb143 hg w3 hbox hb; have BK143 := Aside0.mk (hbox); have GW143 := Aside0.mk ((by rw [hg]; exact (below_size (uB0 HB)) : w.heap.size ≤ gb143)); have GE143 := Aside0.mk ((by rw [hg]; exact (below_size (uB0 HB)) : w.heap.size ≤ gb143)); replace HB := Aside0.mk (below_step (uB0 HB) hb); clear hb hbox hg; have hcz4_0 : w3.cell? ⟨gb143, 0, none⟩ = some (.int .i64 a0_0) := uF BK143 0; have hcz4_1 : w3.cell? ⟨gb143, 1, none⟩ = some (.slice A0_1 l0_1.length c0_1) := uF BK143 1; have hfz4_0 := blk_frozen BK143.out 0; have hfz4_1 := blk_frozen BK143.out 1))
  go_ret
  exact ⟨by first | rfl | (simp [errW_none, errW_some] <;> rfl) | (simp [*, errW_none, errW_some] <;> rfl), uB1 HB GE143⟩
 rw [if_neg c2] at H
 have c2b0 : ((l0_1.length : Int) == 0) = false := beq_eq_false_iff_ne.mpr c2
 have c2b1 : ((l0_1.length : Int) != 0) = true := bne_iff_ne.mpr c2
 have c2b2 : ¬ (l0_1 = []) := fun h_ => c2 (by rw [h_]; rfl)
 obtain ⟨ji5, hji5⟩ : ∃ j_ : Int, (wrap64 ((l0_1.length : Int) - 1)) = j_ := ⟨_, rfl⟩
 replace H : (if 0 ≤ (ji5) then (if (ji5) < (l0_1.length : Int) then (some ((rd_T58 l0_1 (ji5)).f1)) else (none)) else (none)) = some r := by first | (rw [hji5] at H; exact H) | (simp only [hji5] at H ⊢; exact H)
 have hji5w : (IntKind.i64.wrap ((l0_1.length : Int) - 1)) = ji5 := (i64_w _).trans hji5
 by_cases c6 : 0 ≤ (ji5)
 ·rw [if_pos c6] at H
  have c6b0 : decide (0 ≤ (ji5)) = true := decide_eq_true c6
  clear c6
  by_cases c7 : (ji5) < (l0_1.length : Int)
  ·rw [if_pos c7] at H
   have c7b0 : decide ((ji5) < (l0_1.length : Int)) = true := decide_eq_true c7
   clear c7
   obtain rfl := Option.some.inj H
   go_enter Tryd.func12, Tryd.ntmps12
   go_wp2_with (first | ((with_reducible refine gate_dst (N := 1) rfl ?_); refine box_event ?hg (N := 1) ?hd (cs := #[.int .i64 a0_0, .slice A0_1 l0_1.length c0_1]) (t := 34) ?hr ?_; (case hd => rfl); (case hg => rfl); (case hr => first | (go_simp; done) | (go_simp; rfl)); intro gb143 hg w8 hbox hb; have BK143 := Aside0.mk (hbox); have GW143 := Aside0.mk ((by rw [hg]; exact (below_size (uB0 HB)) : w.heap.size ≤ gb143)); have GE143 := Aside0.mk ((by rw [hg]; exact (below_size (uB0 HB)) : w.heap.size ≤ gb143)); replace HB := Aside0.mk (below_step (uB0 HB) hb); clear hb hbox hg; have hcz9_0 : w8.cell? ⟨gb143, 0, none⟩ = some (.int .i64 a0_0) := uF BK143 0; have hcz9_1 : w8.cell? ⟨gb143, 1, none⟩ = some (.slice A0_1 l0_1.length c0_1) := uF BK143 1; have hfz9_0 := blk_frozen BK143.out 0; have hfz9_1 := blk_frozen BK143.out 1; have p144 : 0 ≤ ((ji5) : Int) := of_decide_eq_true (by first | (with_reducible assumption) | assumption); have q144 : (ji5) < (l0_1.length : Int) := of_decide_eq_true (by first | (with_reducible assumption) | assumption); obtain ⟨ad144, e144, hx144_0, hx144_1, hx144_2⟩ := at_T58 HR0_1.out (ji5) p144 q144; cases e144; replace hx144_0 := (HB.out.cell (World.block_lt_of_cell? w _ hx144_0)).trans hx144_0; replace hx144_1 := (HB.out.cell (World.block_lt_of_cell? w _ hx144_1)).trans hx144_1; replace hx144_2 := (HB.out.cell (World.block_lt_of_cell? w _ hx144_2)).trans hx144_2; replace p144 := eq_true p144; replace q144 := eq_true q144))
   go_ret
   exact ⟨by first | rfl | (simp [errW_none, errW_some] <;> rfl) | (simp only [← hji5]; first | rfl | (simp [errW_none, errW_some] <;> rfl)) | (simp [*, errW_none, errW_some] <;> rfl), uB1 HB GE143⟩
  rw [if_neg c7] at H
  exact absurd H (by simp)
 rw [if_neg c6] at H
 exact absurd H (by simp)

/-! ### lattice_Lat_Join: function 32 -/
def lattice_Lat_Join.f (k : Nat) (l0_0 : List Int) (a1 : Int) (a2 : Int) : Option (Int) := (lattice_Lat_may.f k l0_0 a1 a2).bind fun t146 => (if t146 = true then (if 0 ≤ a1 then (if a1 < (l0_0.length : Int) then (if 0 ≤ a2 then (if a2 < (l0_0.length : Int) then ((lattice_Lat_least.f k l0_0 (Go.bits .and .u8 (rd l0_0 a1) (rd l0_0 a2))).bind fun t149 => (some t149)) else (none)) else (none)) else (none)) else (none)) else (some 0))
theorem lattice_Lat_Join.mono : ∀ a0 a1 a2 k, LeO (lattice_Lat_Join.f k a0 a1 a2) (lattice_Lat_Join.f (k + 1) a0 a1 a2) := by
 intro a0 a1 a2 k
 unfold lattice_Lat_Join.f
 repeat' first
   | (with_reducible exact lattice_Lat_least.mono _ _ _)
   | (with_reducible exact lattice_Lat_may.mono _ _ _ _)
   | (with_reducible exact LeO.refl _)
   | (with_reducible exact LeO.none _)
   | (with_reducible refine LeO.ite ?_ ?_)
   | (with_reducible refine LeO.bind ?_ (fun _ => ?_))
   | exact lattice_Lat_least.mono _ _ _
   | exact lattice_Lat_may.mono _ _ _ _
   | exact LeO.none _
   | refine LeO.ite ?_ ?_
   | refine LeO.bind ?_ (fun _ => ?_)
def lattice_Lat_Join.T3 : Bool × List (List Nat × List Nat) := (true, [([], []), ([], []), ([1], [1]), ([], []), ([2, 3], [2, 3]), ([4], [4]), ([], []), ([6], [6]), ([], []), ([7, 8], [7, 8]), ([9], [9]), ([5, 10], [5, 10]), ([0, 11], [0, 11]), ([12, 12, 0, 1, 2, 3, 4, 5, 6, 7, 8, 9, 10, 11, 12], [12])])
def lattice_Lat_Join.B3 : List Nat := [0, 0, 2, 0, 14, 30, 0, 64, 0, 448, 960, 2046, 4095, 8191]
theorem lattice_Lat_Join.tab3 : rtab .any (opsOf Tryd.f32 3) = lattice_Lat_Join.T3 := by kernel_rfl
theorem lattice_Lat_Join.bits3 : waitsOk lattice_Lat_Join.T3.2 lattice_Lat_Join.B3 = true := by kernel_rfl
set_option maxHeartbeats 8000000 in
set_option maxRecDepth 100000 in
theorem lattice_Lat_Join.calls (k : Nat) (A0_0 : Option Addr) (c0_0 : Nat) (l0_0 : List Int) (a1 : Int) (a2 : Int) (r : Int) (w : World) (hr0_0 : Kd.C (Kd.int .u8) w A0_0 l0_0.length l0_0) (hc0_0 : l0_0.length ≤ c0_0) (h : lattice_Lat_Join.f k l0_0 a1 a2 = some r) :
  Calls Tryd.prog 32 #[.agg #[.slice A0_0 l0_0.length c0_0], .int .i64 a1, .int .i64 a2] w fun e w' => e = .returned (.int .i64 r) ∧ Below w.heap.size w w' := by
 have hu31 := Tryd.underlying31
 have HR0_0 := Aside0.mk hr0_0
 have HC0_0 := Aside0.mk hc0_0
 clear hr0_0 hc0_0
 have HB := Aside0.mk (Below.refl w.heap.size w)
 have H : ((lattice_Lat_may.f k l0_0 a1 a2).bind fun t146 => (if t146 = true then (if 0 ≤ a1 then (if a1 < (l0_0.length : Int) then (if 0 ≤ a2 then (if a2 < (l0_0.length : Int) then ((lattice_Lat_least.f k l0_0 (Go.bits .and .u8 (rd l0_0 a1) (rd l0_0 a2))).bind fun t149 => (some t149)) else (none)) else (none)) else (none)) else (none)) else (some 0))) = some r := h
 clear h
 replace H := Option.bind_eq_some_iff.mp H
 obtain ⟨t146, A40, H⟩ := H
 replace H : (if t146 = true then (if 0 ≤ a1 then (if a1 < (l0_0.length : Int) then (if 0 ≤ a2 then (if a2 < (l0_0.length : Int) then ((lattice_Lat_least.f k l0_0 (Go.bits .and .u8 (rd l0_0 a1) (rd l0_0 a2))).bind fun t149 => (some t149)) else (none)) else (none)) else (none)) else (none)) else (some 0)) = some r := H
 have A4 := Aside0.mk A40
 clear A40
 by_cases c5 : t146 = true
 ·subst c5
  have H1 : (if 0 ≤ a1 then (if a1 < (l0_0.length : Int) then (if 0 ≤ a2 then (if a2 < (l0_0.length : Int) then ((lattice_Lat_least.f k l0_0 (Go.bits .and .u8 (rd l0_0 a1) (rd l0_0 a2))).bind fun t149 => (some t149)) else (none)) else (none)) else (none)) else (none)) = some r := by rw [if_pos rfl] at H; exact H
  clear H
  have H := H1
  clear H1
  by_cases c6 : 0 ≤ a1
  ·rw [if_pos c6] at H
   have c6b0 : decide (0 ≤ a1) = true := decide_eq_true c6
   clear c6
   by_cases c7 : a1 < (l0_0.length : Int)
   ·rw [if_pos c7] at H
    have c7b0 : decide (a1 < (l0_0.length : Int)) = true := decide_eq_true c7
    clear c7
    by_cases c8 : 0 ≤ a2
    ·rw [if_pos c8] at H
     have c8b0 : decide (0 ≤ a2) = true := decide_eq_true c8
     clear c8
     by_cases c9 : a2 < (l0_0.length : Int)
     ·rw [if_pos c9] at H
      have c9b0 : decide (a2 < (l0_0.length : Int)) = true := decide_eq_true c9
      clear c9
      replace H := Option.bind_eq_some_iff.mp H
      obtain ⟨t149, A100, H⟩ := H
      replace H : (some t149) = some r := H
      have A10 := Aside0.mk A100
      clear A100
      obtain rfl := Option.some.inj H
      go_enter Tryd.func32, Tryd.ntmps32
      try go_wp2_with (first | ((with_reducible refine gate_dst (N := 3) rfl ?_); refine box_event ?hg (N := 3) ?hd (cs := #[.slice A0_0 l0_0.length c0_0]) (t := 31) ?hr ?_; (case hd => rfl); (case hg => rfl); (case hr => first | (go_simp; done) | (go_simp; rfl)); intro gb145 hg w11 hbox hb; have BK145 := Aside0.mk (hbox); have GW145 := Aside0.mk ((by rw [hg]; exact (below_size (uB0 HB)) : w.heap.size ≤ gb145)); have GE145 := Aside0.mk ((by rw [hg]; exact (below_size (uB0 HB)) : w.heap.size ≤ gb145)); replace HB := Aside0.mk (below_step (uB0 HB) hb); clear hb hbox hg; have hcz12_0 : w11.cell? ⟨gb145, 0, none⟩ = some (.slice A0_0 l0_0.length c0_0) := uF BK145 0; have hfz12_0 := blk_frozen BK145.out 0) | ((with_reducible refine gate_callee (f := 36) rfl ?_); refine goesL_ (some 10) rfl rfl Tryd.func36 (by kernel_rfl) rfl #[.agg #[.slice A0_0 l0_0.length c0_0], .int .i64 a1, .int .i64 a2] rfl uC ?_; (with_reducible refine (lattice_Lat_may.calls k _ _ l0_0 a1 a2 true _ ?side1 ?side2 A4.out).mono ?_); (case side1 => exact uS (Kd.C_below HR0_0.out HB.out)); (case side2 => exact HC0_0.out); rintro e w13 ⟨rfl, hb⟩; refine ⟨_, rfl, ?_⟩; replace BK145 := uD BK145 hb; replace HB := Aside0.mk (below_step (uB1 HB GE145) hb); (try clear hb); (try clear hb2); (try clear hk); (try clear hi)))
      replace BK145 := Aside0.mk (blk_drew BK145.out)
      replace HB := Aside0.mk (below_drew1 HB.out)
      have p147 : 0 ≤ (a1 : Int) := of_decide_eq_true (by first | (with_reducible assumption) | assumption)
      have q147 : a1 < (l0_0.length : Int) := of_decide_eq_true (by first | (with_reducible assumption) | assumption)
      obtain ⟨ad147, e147, hx147_0⟩ := Kd.at_int HR0_0.out a1 p147 q147
      have hw147_0 := hx147_0
      cases e147
      replace hx147_0 := (HB.out.cell (World.block_lt_of_cell? w _ hx147_0)).trans hx147_0
      replace p147 := eq_true p147
      replace q147 := eq_true q147
      have p148 : 0 ≤ (a2 : Int) := of_decide_eq_true (by first | (with_reducible assumption) | assumption)
      have q148 : a2 < (l0_0.length : Int) := of_decide_eq_true (by first | (with_reducible assumption) | assumption)
      obtain ⟨ad148, e148, hx148_0⟩ := Kd.at_int HR0_0.out a2 p148 q148
      have hw148_0 := hx148_0
      obtain rfl : ad147 = ad148 := (by injection e148)
      replace hx148_0 := (HB.out.cell (World.block_lt_of_cell? w _ hx148_0)).trans hx148_0
      replace p148 := eq_true p148
      replace q148 := eq_true q148
      refine start_ (n := 14) (S := fun w' => w'.cell? ⟨gb145, 0, none⟩ = some (.slice (some ad147) l0_0.length c0_0) ∧ w'.cell? (ad147.add (a1).toNat) = some (.int .u8 (rd l0_0 a1)) ∧ w'.cell? (ad147.add (a2).toNat) = some (.int .u8 (rd l0_0 a2))) (ds := []) u_f14 (by kernel_rfl) rfl rfl ⟨uF BK145 0, ((HB.out.cell (World.block_lt_of_cell? w _ hw147_0)).trans hw147_0), ((HB.out.cell (World.block_lt_of_cell? w _ hw148_0)).trans hw148_0)⟩ (fun hHeld => ?_); refine with_tabW lattice_Lat_Join.tab3 lattice_Lat_Join.bits3 (fun HT_ HW_ => ?_)
      generalize w13.drew = w14 at BK145 HB hx147_0 hx148_0 hHeld ⊢
      refine uPu 1 13 u_f1t1f12 (v := ?_) (a' := ?_) rfl rfl HT_ ?_ ?_ ?_
      rotate_left
      ·intro w'
       go_simp
       with_reducible rfl
      rotate_left
      ·exact uP
      refine uPu 3 15 u_f1t1f1t1f10 (v := ?_) (a' := ?_) rfl rfl HT_ ?_ ?_ ?_
      rotate_left
      ·intro w'
       go_simp
       with_reducible rfl
      rotate_left
      ·exact uP
      refine uPu 6 18 u_f1t1f1t1f2t1f7 (v := ?_) (a' := ?_) rfl rfl HT_ ?_ ?_ ?_
      rotate_left
      ·intro w'
       go_simp
       with_reducible rfl
      rotate_left
      ·exact uP
      refine uPu 8 20 u_f1t1f1t1f2t1f1t1f5 (v := ?_) (a' := ?_) rfl rfl HT_ ?_ ?_ ?_
      rotate_left
      ·intro w'
       go_simp
       with_reducible rfl
      rotate_left
      ·exact uP
      refine uTk 0 12 u_t2f1t1f2t1f1t1f5 (v := ?_) (a' := ?_) rfl rfl HT_ HW_ hHeld ?_ ?_ ?_
      rotate_left
      ·rintro w' ⟨s0, s1, s2⟩
       go_simp
       with_reducible rfl
      rotate_left
      ·exact uP
      refine uTk 2 14 u_t4f2t1f1t1f5 (v := ?_) (a' := ?_) rfl rfl HT_ HW_ hHeld ?_ ?_ ?_
      rotate_left
      ·rintro w' ⟨s0, s1, s2⟩
       go_simp
       with_reducible rfl
      rotate_left
      ·exact uP
      refine uPu 4 16 u_t5f1t1f1t1f5 (v := ?_) (a' := ?_) rfl rfl HT_ ?_ ?_ ?_
      rotate_left
      ·intro w'
       go_simp
       with_reducible rfl
      rotate_left
      ·exact uP
      refine uTk 5 17 u_t7f1t1f5 (v := ?_) (a' := ?_) rfl rfl HT_ HW_ hHeld ?_ ?_ ?_
      rotate_left
      ·rintro w' ⟨s0, s1, s2⟩
       go_simp
       with_reducible rfl
      rotate_left
      ·exact uP
      refine uTk 7 19 u_t9f5 (v := ?_) (a' := ?_) rfl rfl HT_ HW_ hHeld ?_ ?_ ?_
      rotate_left
      ·rintro w' ⟨s0, s1, s2⟩
       go_simp
       with_reducible rfl
      rotate_left
      ·exact uP
      refine uPu 9 21 u_t10f4 (v := ?_) (a' := ?_) rfl rfl HT_ ?_ ?_ ?_
      rotate_left
      ·intro w'
       go_simp
       with_reducible rfl
      rotate_left
      ·exact uP
      refine uTk 10 22 u_t11f3 (v := ?_) (a' := ?_) rfl rfl HT_ HW_ hHeld ?_ ?_ ?_
      rotate_left
      ·rintro w' ⟨s0, s1, s2⟩
       go_simp
       with_reducible rfl
      rotate_left
      ·exact uP
      refine uPu 11 23 u_t12f2 (v := ?_) (a' := ?_) rfl rfl HT_ ?_ ?_ ?_
      rotate_left
      ·intro w'
       go_simp
       with_reducible rfl
      rotate_left
      ·exact uP
      refine one_ (i := 12) (N := some 24) u_t13f1 rfl rfl (one_of HT_.out (by kernel_rfl)) (by decide) (fun K hK => ?_)
      refine goes_ Tryd.func43 (by kernel_rfl) rfl #[.agg #[.slice (some ad147) l0_0.length c0_0], .int .u8 (Go.bits .and .u8 (rd l0_0 a1) (rd l0_0 a2))] (by rfl) rfl rfl uC ?_
      with_reducible refine (lattice_Lat_least.calls k _ _ l0_0 (Go.bits .and .u8 (rd l0_0 a1) (rd l0_0 a2)) t149 _ ?side1 ?side2 A10.out).mono ?_
      (case side1 => exact uS (Kd.C_below HR0_0.out HB.out))
      (case side2 => exact HC0_0.out)
      rintro e w15 ⟨rfl, hb⟩
      refine ⟨_, rfl, ?_⟩
      replace BK145 := uD BK145 hb
      replace HB := Aside0.mk (below_step (uB1 HB GE145) hb)
      (try clear hb)
      (try clear hb2)
      (try clear hk)
      (try clear hi)
      refine hK.out _ _ ⟨uF BK145 0, ((HB.out.cell (World.block_lt_of_cell? w _ hw147_0)).trans hw147_0), ((HB.out.cell (World.block_lt_of_cell? w _ hw148_0)).trans hw148_0)⟩ (fun hHeld => ?_)
      clear hK K
      refine norm_ (a' := ?_) ?_ ?_
      rotate_left
      ·show Act.put _ (some 24) _ = _
       exact uP
      refine uPu 13 6 u_t14 (v := ?_) (a' := ?_) rfl rfl HT_ ?_ ?_ ?_
      rotate_left
      ·intro w'
       go_simp
       with_reducible rfl
      rotate_left
      ·exact uP
      refine done_ (done_of HT_.out (by kernel_rfl)) ?_
      try go_wp2
      go_ret
      exact ⟨by first | rfl | (simp [errW_none, errW_some] <;> rfl) | (simp [*, errW_none, errW_some] <;> rfl), uB1 HB GE145⟩
     rw [if_neg c9] at H
     exact absurd H (by simp)
    rw [if_neg c8] at H
    exact absurd H (by simp)
   rw [if_neg c7] at H
   exact absurd H (by simp)
  rw [if_neg c6] at H
  exact absurd H (by simp)
 replace c5 := Bool.eq_false_iff.mpr c5
 subst c5
 have H1 : (some 0) = some r := by rw [if_neg (show ¬ (false = true) by decide)] at H; exact H
 clear H
 have H := H1
 clear H1
 obtain rfl := Option.some.inj H
 go_enter Tryd.func32, Tryd.ntmps32
 go_wp2_with (first | ((with_reducible refine gate_dst (N := 3) rfl ?_); refine box_event ?hg (N := 3) ?hd (cs := #[.slice A0_0 l0_0.length c0_0]) (t := 31) ?hr ?_; (case hd => rfl); (case hg => rfl); (case hr => first | (go_simp; done) | (go_simp; rfl)); intro gb145 hg w16 hbox hb; have BK145 := Aside0.mk (hbox); have GW145 := Aside0.mk ((by rw [hg]; exact (below_size (uB0 HB)) : w.heap.size ≤ gb145)); have GE145 := Aside0.mk ((by rw [hg]; exact (below_size (uB0 HB)) : w.heap.size ≤ gb145)); replace HB := Aside0.mk (below_step (uB0 HB) hb); clear hb hbox hg; have hcz17_0 : w16.cell? ⟨gb145, 0, none⟩ = some (.slice A0_0 l0_0.length c0_0) := uF BK145 0; have hfz17_0 := blk_frozen BK145.out 0) | ((with_reducible refine gate_callee (f := 36) rfl ?_); refine goesL_ (some 10) rfl rfl Tryd.func36 (by kernel_rfl) rfl #[.agg #[.slice A0_0 l0_0.length c0_0], .int .i64 a1, .int .i64 a2] rfl uC ?_; (with_reducible refine (lattice_Lat_may.calls k _ _ l0_0 a1 a2 false _ ?side1 ?side2 A4.out).mono ?_); (case side1 => exact uS (Kd.C_below HR0_0.out HB.out)); (case side2 => exact HC0_0.out); rintro e w18 ⟨rfl, hb⟩; refine ⟨_, rfl, ?_⟩; replace BK145 := uD BK145 hb; replace HB := Aside0.mk (below_step (uB1 HB GE145) hb); (try clear hb); (try clear hb2); (try clear hk); (try clear hi)))
 go_ret
 exact ⟨by first | rfl | (simp [errW_none, errW_some] <;> rfl) | (simp [*, errW_none, errW_some] <;> rfl), uB1 HB GE145⟩

end Go.Proofs.YtodfomkhhfcnhaaDoor.PMonBack
