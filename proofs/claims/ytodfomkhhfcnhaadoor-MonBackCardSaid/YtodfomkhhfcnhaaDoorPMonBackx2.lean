/- The functions that the law reaches, as plain functions of lists and numbers, and that a call of the Go code comes to just their answers; laid by this repo's own program over the seat's translation. Conditions: each contract's own premises. -/
import Derived.Test.YtodfomkhhfcnhaaDoorPMonBackx0
namespace Go.Proofs.YtodfomkhhfcnhaaDoor.PMonBack
open Go.RowKit Go.Proofs.YtodfomkhhfcnhaaDoorW.PrintWords Go.Proofs.YtodfomkhhfcnhaaDoorW.PrintLast Go.Proofs.YtodfomkhhfcnhaaDoorW.PrintMore
attribute [local go_sem] max2_int min2_int max_two min_two max_three min_three max_four min_four   -- for this text's walks alone
set_option linter.unusedVariables false
set_option linter.unusedSimpArgs false

-- NOT PRINTED: function 38 (reflectlite_ValueOf)

-- NOT PRINTED: function 39 (reflectlite_Value_Type)

-- NOT PRINTED: function 40 (reflectlite_Value_IsNil)

-- NOT PRINTED: function 48 (reflectlite_TypeOf)

-- NOT PRINTED: function 49 (reflectlite_Value_Elem)

-- NOT PRINTED: function 50 (reflectlite_Value_Set)

-- NOT PRINTED: function 41 (errors_as)

-- NOT PRINTED: function 27 (errors_As)

/-! ### colloquylaw20_num: function 9 -/
def colloquylaw20_num.f (a0 : Option Int) : Option (Int) := some (a0.getD 0)
theorem colloquylaw20_num.calls (a0 : Option Int) (r : Int) (w : World) (hg : Go.Proofs.YtodfomkhhfcnhaaDoor.AsNum.GP w) (h : colloquylaw20_num.f a0 = some r) :
  Calls Tryd.prog 9 #[errW a0] w fun e w' => e = .returned (.int .i64 r) ∧ Below w.heap.size w w' := by
 obtain rfl : a0.getD 0 = r := Option.some.inj h
 cases a0 with
 | none => exact Go.Proofs.YtodfomkhhfcnhaaDoor.AsNum.num_none w
 | some c => exact Go.Proofs.YtodfomkhhfcnhaaDoor.AsNum.num_some c w hg

/-! ### lattice_Lat_leq: function 37 -/
def lattice_Lat_leq.f (l0_0 : List Int) (a1 : Int) (a2 : Int) : Option (Bool) := if 0 ≤ a1 then (if a1 < (l0_0.length : Int) then (if 0 ≤ (IntKind.u64.wrap (a2)) then (some ((Go.bits .and .u8 (shr .u8 (rd l0_0 a1) (IntKind.u64.wrap (a2))) 1) == 1)) else (none)) else (none)) else (none)
set_option maxHeartbeats 8000000 in
set_option maxRecDepth 100000 in
theorem lattice_Lat_leq.calls (A0_0 : Option Addr) (c0_0 : Nat) (l0_0 : List Int) (a1 : Int) (a2 : Int) (r : Bool) (w : World) (hr0_0 : Kd.C (Kd.int .u8) w A0_0 l0_0.length l0_0) (hc0_0 : l0_0.length ≤ c0_0) (h : lattice_Lat_leq.f l0_0 a1 a2 = some r) :
  Calls Tryd.prog 37 #[.agg #[.slice A0_0 l0_0.length c0_0], .int .i64 a1, .int .i64 a2] w fun e w' => e = .returned (.bool r) ∧ Below w.heap.size w w' := by
 have hu31 := Tryd.underlying31
 have HR0_0 := Aside0.mk hr0_0
 have HC0_0 := Aside0.mk hc0_0
 clear hr0_0 hc0_0
 have HB := Aside0.mk (Below.refl w.heap.size w)
 have H : (if 0 ≤ a1 then (if a1 < (l0_0.length : Int) then (if 0 ≤ (IntKind.u64.wrap (a2)) then (some ((Go.bits .and .u8 (shr .u8 (rd l0_0 a1) (IntKind.u64.wrap (a2))) 1) == 1)) else (none)) else (none)) else (none)) = some r := h
 clear h
 by_cases c4 : 0 ≤ a1
 ·rw [if_pos c4] at H
  have c4b0 : decide (0 ≤ a1) = true := decide_eq_true c4
  clear c4
  by_cases c5 : a1 < (l0_0.length : Int)
  ·rw [if_pos c5] at H
   have c5b0 : decide (a1 < (l0_0.length : Int)) = true := decide_eq_true c5
   clear c5
   obtain ⟨ji6, hji6⟩ : ∃ j_ : Int, (IntKind.u64.wrap (a2)) = j_ := ⟨_, rfl⟩
   replace H : (if 0 ≤ (ji6) then (some ((Go.bits .and .u8 (shr .u8 (rd l0_0 a1) (ji6)) 1) == 1)) else (none)) = some r := by first | (rw [hji6] at H; exact H) | (simp only [hji6] at H ⊢; exact H)
   by_cases c7 : 0 ≤ (ji6)
   ·rw [if_pos c7] at H
    have c7b0 := eq_true c7
    have c7b1 : decide (0 ≤ (ji6)) = true := decide_eq_true c7
    clear c7
    obtain ⟨ji8, hji8⟩ : ∃ j_ : Int, (shr .u8 (rd l0_0 a1) (ji6)) = j_ := ⟨_, rfl⟩
    replace H : (some ((Go.bits .and .u8 (ji8) 1) == 1)) = some r := by first | (rw [hji8] at H; exact H) | (simp only [hji8] at H ⊢; exact H)
    have hji8_ : ((rd l0_0 a1) / 2 ^ min (ji6).toNat 8) = ji8 := hji8
    have hji8z : (ji6) ≤ 8 → ((rd l0_0 a1) / 2 ^ (ji6).toNat) = ji8 := shr_small hji8
    obtain rfl := Option.some.inj H
    go_enter Tryd.func37, Tryd.ntmps37
    go_wp2_with (first | ((with_reducible refine gate_dst (N := 3) rfl ?_); refine box_event ?hg (N := 3) ?hd (cs := #[.slice A0_0 l0_0.length c0_0]) (t := 31) ?hr ?_; (case hd => rfl); (case hg => rfl); (case hr => first | (go_simp; done) | (go_simp; rfl)); intro gb101 hg w9 hbox hb; have BK101 := Aside0.mk (hbox); have GW101 := Aside0.mk ((by rw [hg]; exact (below_size (uB0 HB)) : w.heap.size ≤ gb101)); have GE101 := Aside0.mk ((by rw [hg]; exact (below_size (uB0 HB)) : w.heap.size ≤ gb101)); replace HB := Aside0.mk (below_step (uB0 HB) hb); clear hb hbox hg; have hcz10_0 : w9.cell? ⟨gb101, 0, none⟩ = some (.slice A0_0 l0_0.length c0_0) := uF BK101 0; have hfz10_0 := blk_frozen BK101.out 0; have p102 : 0 ≤ (a1 : Int) := of_decide_eq_true (by first | (with_reducible assumption) | assumption); have q102 : a1 < (l0_0.length : Int) := of_decide_eq_true (by first | (with_reducible assumption) | assumption); obtain ⟨ad102, e102, hx102_0⟩ := Kd.at_int HR0_0.out a1 p102 q102; cases e102; replace hx102_0 := (HB.out.cell (World.block_lt_of_cell? w _ hx102_0)).trans hx102_0; replace p102 := eq_true p102; replace q102 := eq_true q102))
    go_ret
    exact ⟨by first | rfl | (simp [errW_none, errW_some] <;> rfl) | (simp only [← hji6, ← hji8]; first | rfl | (simp [errW_none, errW_some] <;> rfl)) | (simp [*, errW_none, errW_some] <;> rfl), uB1 HB GE101⟩
   rw [if_neg c7] at H
   exact absurd H (by simp)
  rw [if_neg c5] at H
  exact absurd H (by simp)
 rw [if_neg c4] at H
 exact absurd H (by simp)

/-! ### lattice_Lat_ordered: function 42 -/
mutual
def lattice_Lat_ordered.l0 : Nat → Int → List Int → Int → Int → List Int → Option (Bool)
 | 0, _, _, _, _, _ => none
 | k + 1, x3, x14, x15, x16, x104000 => if x16 < x15 then (if 0 ≤ x16 then (if x16 < (x14.length : Int) then (if (Go.bits .andNot .u8 (rd x14 x16) x3) = 0 then ((lattice_Lat_leq.f x104000 x16 x16).bind fun t105 => (lattice_Lat_ordered.j1 k x3 x16 (rd x14 x16) x14 x15 x16 (!t105) x104000)) else (lattice_Lat_ordered.j1 k x3 x16 (rd x14 x16) x14 x15 x16 true x104000)) else (none)) else (none)) else (some true)
def lattice_Lat_ordered.j1 : Nat → Int → Int → Int → List Int → Int → Int → Bool → List Int → Option (Bool)
 | 0, _, _, _, _, _, _, _, _ => none
 | k + 1, x3, x4, x5, x14, x15, x16, x31, x104000 => if x31 = true then (some false) else (lattice_Lat_ordered.l1 k x3 x4 x5 x14 x15 x16 (x104000.length : Int) 0 x104000)
def lattice_Lat_ordered.l1 : Nat → Int → Int → Int → List Int → Int → Int → Int → Int → List Int → Option (Bool)
 | 0, _, _, _, _, _, _, _, _, _ => none
 | k + 1, x3, x4, x5, x14, x15, x16, x34, x35, x104000 => if x35 < x34 then (if x4 = x35 then (lattice_Lat_ordered.l1 k x3 x4 x5 x14 x15 x16 x34 (wrap64 (x35 + 1)) x104000) else ((lattice_Lat_leq.f x104000 x4 x35).bind fun t106 => (if t106 = true then ((lattice_Lat_leq.f x104000 x35 x4).bind fun t107 => (if t107 = true then (some false) else (if 0 ≤ x35 then (if x35 < (x104000.length : Int) then (if (Go.bits .andNot .u8 (rd x104000 x35) x5) = 0 then (lattice_Lat_ordered.l1 k x3 x4 x5 x14 x15 x16 x34 (wrap64 (x35 + 1)) x104000) else (some false)) else (none)) else (none)))) else (lattice_Lat_ordered.l1 k x3 x4 x5 x14 x15 x16 x34 (wrap64 (x35 + 1)) x104000)))) else (lattice_Lat_ordered.l0 k x3 x14 x15 (wrap64 (x16 + 1)) x104000)
end
def lattice_Lat_ordered.f (k : Nat) (l0_0 : List Int) : Option (Bool) := if 0 ≤ (IntKind.u64.wrap ((l0_0.length : Int))) then (lattice_Lat_ordered.l0 k (((shl .u8 1 (IntKind.u64.wrap ((l0_0.length : Int)))) - 1) % 256) l0_0 (l0_0.length : Int) 0 l0_0) else (none)
theorem lattice_Lat_ordered.mono_l : ∀ k, (∀ y0 y1 y2 y3 y4, LeO (lattice_Lat_ordered.l0 k y0 y1 y2 y3 y4) (lattice_Lat_ordered.l0 (k + 1) y0 y1 y2 y3 y4)) ∧ (∀ y0 y1 y2 y3 y4 y5 y6 y7, LeO (lattice_Lat_ordered.j1 k y0 y1 y2 y3 y4 y5 y6 y7) (lattice_Lat_ordered.j1 (k + 1) y0 y1 y2 y3 y4 y5 y6 y7)) ∧ (∀ y0 y1 y2 y3 y4 y5 y6 y7 y8, LeO (lattice_Lat_ordered.l1 k y0 y1 y2 y3 y4 y5 y6 y7 y8) (lattice_Lat_ordered.l1 (k + 1) y0 y1 y2 y3 y4 y5 y6 y7 y8))
 | 0 => ⟨fun _ _ _ _ _ r h => by simp [lattice_Lat_ordered.l0] at h, fun _ _ _ _ _ _ _ _ r h => by simp [lattice_Lat_ordered.j1] at h, fun _ _ _ _ _ _ _ _ _ r h => by simp [lattice_Lat_ordered.l1] at h⟩
 | k + 1 => by
  obtain ⟨ih0, ih1, ih2⟩ := lattice_Lat_ordered.mono_l k
  refine ⟨?_, ?_, ?_⟩
  ·intro y0 y1 y2 y3 y4
   unfold lattice_Lat_ordered.l0
   repeat' first
   | (with_reducible exact ih0 _ _ _ _ _)
   | (with_reducible exact ih1 _ _ _ _ _ _ _ _)
   | (with_reducible exact ih2 _ _ _ _ _ _ _ _ _)
   | (with_reducible exact LeO.refl _)
   | (with_reducible exact LeO.none _)
   | (with_reducible refine LeO.ite ?_ ?_)
   | (with_reducible refine LeO.bind ?_ (fun _ => ?_))
   | exact ih0 _ _ _ _ _
   | exact ih1 _ _ _ _ _ _ _ _
   | exact ih2 _ _ _ _ _ _ _ _ _
   | exact LeO.none _
   | refine LeO.ite ?_ ?_
   | refine LeO.bind ?_ (fun _ => ?_)
  ·intro y0 y1 y2 y3 y4 y5 y6 y7
   unfold lattice_Lat_ordered.j1
   repeat' first
   | (with_reducible exact ih0 _ _ _ _ _)
   | (with_reducible exact ih1 _ _ _ _ _ _ _ _)
   | (with_reducible exact ih2 _ _ _ _ _ _ _ _ _)
   | (with_reducible exact LeO.refl _)
   | (with_reducible exact LeO.none _)
   | (with_reducible refine LeO.ite ?_ ?_)
   | (with_reducible refine LeO.bind ?_ (fun _ => ?_))
   | exact ih0 _ _ _ _ _
   | exact ih1 _ _ _ _ _ _ _ _
   | exact ih2 _ _ _ _ _ _ _ _ _
   | exact LeO.none _
   | refine LeO.ite ?_ ?_
   | refine LeO.bind ?_ (fun _ => ?_)
  intro y0 y1 y2 y3 y4 y5 y6 y7 y8
  unfold lattice_Lat_ordered.l1
  repeat' first
  | (with_reducible exact ih0 _ _ _ _ _)
  | (with_reducible exact ih1 _ _ _ _ _ _ _ _)
  | (with_reducible exact ih2 _ _ _ _ _ _ _ _ _)
  | (with_reducible exact LeO.refl _)
  | (with_reducible exact LeO.none _)
  | (with_reducible refine LeO.ite ?_ ?_)
  | (with_reducible refine LeO.bind ?_ (fun _ => ?_))
  | exact ih0 _ _ _ _ _
  | exact ih1 _ _ _ _ _ _ _ _
  | exact ih2 _ _ _ _ _ _ _ _ _
  | exact LeO.none _
  | refine LeO.ite ?_ ?_
  | refine LeO.bind ?_ (fun _ => ?_)
theorem lattice_Lat_ordered.mono : ∀ a0 k, LeO (lattice_Lat_ordered.f k a0) (lattice_Lat_ordered.f (k + 1) a0) := by
 intro a0 k
 obtain ⟨ih0, ih1, ih2⟩ := lattice_Lat_ordered.mono_l k
 unfold lattice_Lat_ordered.f
 repeat' first
   | (with_reducible exact ih0 _ _ _ _ _)
   | (with_reducible exact ih1 _ _ _ _ _ _ _ _)
   | (with_reducible exact ih2 _ _ _ _ _ _ _ _ _)
   | (with_reducible exact LeO.refl _)
   | (with_reducible exact LeO.none _)
   | (with_reducible refine LeO.ite ?_ ?_)
   | (with_reducible refine LeO.bind ?_ (fun _ => ?_))
   | exact ih0 _ _ _ _ _
   | exact ih1 _ _ _ _ _ _ _ _
   | exact ih2 _ _ _ _ _ _ _ _ _
   | exact LeO.none _
   | refine LeO.ite ?_ ?_
   | refine LeO.bind ?_ (fun _ => ?_)
set_option maxHeartbeats 8000000 in
set_option maxRecDepth 100000 in
theorem lattice_Lat_ordered.calls (k : Nat) (A0_0 : Option Addr) (c0_0 : Nat) (l0_0 : List Int) (r : Bool) (w : World) (hr0_0 : Kd.C (Kd.int .u8) w A0_0 l0_0.length l0_0) (hc0_0 : l0_0.length ≤ c0_0) (h : lattice_Lat_ordered.f k l0_0 = some r) :
  Calls Tryd.prog 42 #[.agg #[.slice A0_0 l0_0.length c0_0]] w fun e w' => e = .returned (.bool r) ∧ Below w.heap.size w w' := by
 have hu31 := Tryd.underlying31
 have HR0_0 := Aside0.mk hr0_0
 have HC0_0 := Aside0.mk hc0_0
 clear hr0_0 hc0_0
 have HB := Aside0.mk (Below.refl w.heap.size w)
 have H : (if 0 ≤ (IntKind.u64.wrap ((l0_0.length : Int))) then (lattice_Lat_ordered.l0 k (((shl .u8 1 (IntKind.u64.wrap ((l0_0.length : Int)))) - 1) % 256) l0_0 (l0_0.length : Int) 0 l0_0) else (none)) = some r := h
 clear h
 obtain ⟨ji2, hji2⟩ : ∃ j_ : Int, (IntKind.u64.wrap ((l0_0.length : Int))) = j_ := ⟨_, rfl⟩
 replace H : (if 0 ≤ (ji2) then (lattice_Lat_ordered.l0 k (((shl .u8 1 (ji2)) - 1) % 256) l0_0 (l0_0.length : Int) 0 l0_0) else (none)) = some r := by first | (rw [hji2] at H; exact H) | (simp only [hji2] at H ⊢; exact H)
 by_cases c3 : 0 ≤ (ji2)
 ·rw [if_pos c3] at H
  have c3b0 := eq_true c3
  have c3b1 : decide (0 ≤ (ji2)) = true := decide_eq_true c3
  clear c3
  obtain ⟨ji4, hji4⟩ : ∃ j_ : Int, (shl .u8 1 (ji2)) = j_ := ⟨_, rfl⟩
  replace H : (lattice_Lat_ordered.l0 k (((ji4) - 1) % 256) l0_0 (l0_0.length : Int) 0 l0_0) = some r := by first | (rw [hji4] at H; exact H) | (simp only [hji4] at H ⊢; exact H)
  have hji4_ : (IntKind.u8.wrap (1 * 2 ^ min (ji2).toNat 8)) = ji4 := hji4
  have hji4z : (ji2) ≤ 8 → (IntKind.u8.wrap (1 * 2 ^ (ji2).toNat)) = ji4 := shl_small hji4
  have hji4u : (IntKind.u8.wrap (2 ^ min (ji2).toNat 8)) = ji4 := by have h_ := hji4_; rw [Int.one_mul] at h_; exact h_
  have hji4v : (ji2) ≤ 8 → (IntKind.u8.wrap (2 ^ (ji2).toNat)) = ji4 := fun hle_ => by have h_ := hji4z hle_; rw [Int.one_mul] at h_; exact h_
  have H' := Aside0.mk H
  clear H
  go_enter Tryd.func42, Tryd.ntmps42
  try simp only [List.append_eq, List.cons_append, List.nil_append]
  go_wp2_with (first | ((with_reducible refine gate_dst (N := 1) rfl ?_); refine box_event ?hg (N := 1) ?hd (cs := #[.slice A0_0 l0_0.length c0_0]) (t := 31) ?hr ?_; (case hd => rfl); (case hg => rfl); (case hr => first | (go_simp; done) | (go_simp; rfl)); intro gb103 hg w5 hbox hb; have BK103 := Aside0.mk (hbox); have GW103 := Aside0.mk ((by rw [hg]; exact (below_size (uB0 HB)) : w.heap.size ≤ gb103)); have GE103 := Aside0.mk ((by rw [hg]; exact (below_size (uB0 HB)) : w.heap.size ≤ gb103)); replace HB := Aside0.mk (below_step (uB0 HB) hb); clear hb hbox hg; have hcz6_0 : w5.cell? ⟨gb103, 0, none⟩ = some (.slice A0_0 l0_0.length c0_0) := uF BK103 0; have hfz6_0 := blk_frozen BK103.out 0))
  go_loopg [16] k (fun kq v16 w' => ∃ (x16_1 : Int), v16 = .int .i64 x16_1 ∧ Aside0 (lattice_Lat_ordered.l0 kq (((ji4) - 1) % 256) l0_0 (l0_0.length : Int) x16_1 l0_0 = some r) ∧ Aside0 (kq ≤ k) ∧ Aside0 (w'.heap[gb103]? = some (.cells #[(.slice A0_0 l0_0.length c0_0)] 31 (0, 0))) ∧ Aside0 (Below w.heap.size w w'))
  case atStart => exact ⟨(0), (by first | rfl | (simp; done) | (simp [*]; done)), H', ⟨Nat.le_refl _⟩, ⟨uK BK103⟩, ⟨uB1 HB GE103⟩⟩
  case round =>
  clear H'
  try clear p2
  try clear c3
  try clear c3b0
  try clear c3b1
  try clear c4
  try clear hcz6_0
  try clear hfz6_0
  obtain ⟨x16_1, rfl, HA, HK1, BK103, HB⟩ := hrel
  cases gk with
  | zero => exact absurd HA.out (by simp [lattice_Lat_ordered.l0])
  | succ k1 =>
  have H := HA.out
  clear HA
  simp only [lattice_Lat_ordered.l0] at H
  by_cases c7 : x16_1 < (l0_0.length : Int)
  ·rw [if_pos c7] at H
   have c7b0 : decide (x16_1 < (l0_0.length : Int)) = true := decide_eq_true c7
   clear c7
   by_cases c8 : 0 ≤ x16_1
   ·rw [if_pos c8] at H
    have c8b0 : decide (0 ≤ x16_1) = true := decide_eq_true c8
    clear c8
    by_cases c9 : x16_1 < (l0_0.length : Int)
    ·rw [if_pos c9] at H
     have c9b0 : decide (x16_1 < (l0_0.length : Int)) = true := decide_eq_true c9
     clear c9
     have HC10 := Aside0.mk H
     clear H
     have p104 : 0 ≤ (x16_1 : Int) := of_decide_eq_true (by first | (with_reducible assumption) | assumption)
     have q104 : x16_1 < (l0_0.length : Int) := of_decide_eq_true (by first | (with_reducible assumption) | assumption)
     obtain ⟨ad104, e104, hx104_0⟩ := Kd.at_int HR0_0.out x16_1 p104 q104
     cases e104
     replace hx104_0 := (HB.out.cell (World.block_lt_of_cell? w _ hx104_0)).trans hx104_0
     replace p104 := eq_true p104
     replace q104 := eq_true q104
     go_upto_region 5 with (fail)
     go_cut [31] (fun v31 wc => ∃ (kq : Nat) (x31_9 : Bool), v31 = .bool x31_9 ∧ Aside0 (lattice_Lat_ordered.j1 kq (((ji4) - 1) % 256) x16_1 (rd l0_0 x16_1) l0_0 (l0_0.length : Int) x16_1 x31_9 l0_0 = some r) ∧ Aside0 (kq ≤ k1) ∧ Aside0 (wc.heap[gb103]? = some (.cells #[(.slice (some ad104) l0_0.length c0_0)] 31 (0, 0))) ∧ Aside0 (Below w.heap.size w wc))
     case first =>
      have H := HC10.out
      clear HC10
      by_cases c11 : (Go.bits .andNot .u8 (rd l0_0 x16_1) (((ji4) - 1) % 256)) = 0
      ·rw [if_pos c11] at H
       have c11b0 : ((Go.bits .andNot .u8 (rd l0_0 x16_1) (((ji4) - 1) % 256)) == 0) = true := beq_iff_eq.mpr c11
       have c11b1 : ((Go.bits .andNot .u8 (rd l0_0 x16_1) (((ji4) - 1) % 256)) != 0) = false := bne_eq_false_iff_eq.mpr c11
       clear c11
       (first | rw [c11b0] | (simp only [i64_w, i32_w]; rw [c11b0]) | skip)
       replace H := Option.bind_eq_some_iff.mp H
       obtain ⟨t105, A120, H⟩ := H
       replace H : (lattice_Lat_ordered.j1 k1 (((ji4) - 1) % 256) x16_1 (rd l0_0 x16_1) l0_0 (l0_0.length : Int) x16_1 (!t105) l0_0) = some r := H
       have A12 := Aside0.mk A120
       clear A120
       have H' := Aside0.mk H
       clear H
       have hcz13_0 : wr.cell? ⟨gb103, 0, none⟩ = some (.slice (some ad104) l0_0.length c0_0) := uF BK103 0
       have hfz13_0 := blk_frozen BK103.out 0
       go_wp2_with (first | (go_at_call 37; (with_reducible refine (lattice_Lat_leq.calls _ _ l0_0 x16_1 x16_1 t105 _ ?side1 ?side2 A12.out).mono ?_); (case side1 => exact uS (Kd.C_below HR0_0.out HB.out)); (case side2 => exact HC0_0.out); rintro e w14 ⟨rfl, hb⟩; replace BK103 := uD BK103 hb; replace HB := Aside0.mk (below_step (uB1 HB GE103) hb); (try clear hb); (try clear hb2); (try clear hk); (try clear hi)))
       go_meet
       case rel => exact ⟨_, (!t105), (by first | rfl | (simp; done) | (simp [*]; done)), H', ⟨by have := HK1.out; first | omega | exact Nat.le_refl _⟩, ⟨uK BK103⟩, ⟨uB1 HB GE103⟩⟩
      rw [if_neg c11] at H
      have c11b0 : ((Go.bits .andNot .u8 (rd l0_0 x16_1) (((ji4) - 1) % 256)) == 0) = false := beq_eq_false_iff_ne.mpr c11
      have c11b1 : ((Go.bits .andNot .u8 (rd l0_0 x16_1) (((ji4) - 1) % 256)) != 0) = true := bne_iff_ne.mpr c11
      (first | rw [c11b0] | (simp only [i64_w, i32_w]; rw [c11b0]) | skip)
      have H' := Aside0.mk H
      clear H
      go_wp2
      go_meet
      case rel => exact ⟨_, (true), (by first | rfl | (simp; done) | (simp [*]; done)), H', ⟨by have := HK1.out; first | omega | exact Nat.le_refl _⟩, ⟨uK BK103⟩, ⟨uB1 HB GE103⟩⟩
     case rest =>
     clear HC10
     try clear c1
     try clear p1
     try clear q1
     try clear hx1
     try clear p2
     try clear c3
     try clear c3b0
     try clear c3b1
     try clear c4
     try clear c7
     try clear c7b0
     try clear c8
     try clear c8b0
     try clear c9
     try clear c9b0
     try clear p10
     try clear q10
     try clear hx10
     try clear c11
     try clear c11b0
     try clear c11b1
     try clear hcz13_0
     try clear hcz6_0
     try clear hfz13_0
     try clear hfz6_0
     try clear hx104_0
     try clear p104
     try clear p2
     try clear q104
     obtain ⟨kq, x31_9, rfl, HA, HJ9, BK103, HB⟩ := hcut
     cases kq with
     | zero => exact absurd HA.out (by simp [lattice_Lat_ordered.j1])
     | succ kj9 =>
     have H := HA.out
     clear HA
     simp only [lattice_Lat_ordered.j1] at H
     by_cases c15 : x31_9 = true
     ·subst c15
      have H1 : (some false) = some r := by rw [if_pos rfl] at H; exact H
      clear H
      have H := H1
      clear H1
      obtain rfl := Option.some.inj H
      go_wp2
      go_ret
      exact ⟨by first | rfl | (simp [errW_none, errW_some] <;> rfl) | (simp only [← hji2, ← hji4]; first | rfl | (simp [errW_none, errW_some] <;> rfl)) | (simp [*, errW_none, errW_some] <;> rfl), uB1 HB GE103⟩
     replace c15 := Bool.eq_false_iff.mpr c15
     subst c15
     have H1 : (lattice_Lat_ordered.l1 kj9 (((ji4) - 1) % 256) x16_1 (rd l0_0 x16_1) l0_0 (l0_0.length : Int) x16_1 (l0_0.length : Int) 0 l0_0) = some r := by rw [if_neg (show ¬ (false = true) by decide)] at H; exact H
     clear H
     have H := H1
     clear H1
     have H' := Aside0.mk H
     clear H
     have hcz16_0 : wc.cell? ⟨gb103, 0, none⟩ = some (.slice (some ad104) l0_0.length c0_0) := uF BK103 0
     have hfz16_0 := blk_frozen BK103.out 0
     go_wp2
     go_loopg [35] kj9 (fun kq v35 w' => ∃ (x35_3 : Int), v35 = .int .i64 x35_3 ∧ Aside0 (lattice_Lat_ordered.l1 kq (((ji4) - 1) % 256) x16_1 (rd l0_0 x16_1) l0_0 (l0_0.length : Int) x16_1 (l0_0.length : Int) x35_3 l0_0 = some r) ∧ Aside0 (kq ≤ kj9) ∧ Aside0 (w'.heap[gb103]? = some (.cells #[(.slice (some ad104) l0_0.length c0_0)] 31 (0, 0))) ∧ Aside0 (Below w.heap.size w w'))
     case atStart => exact ⟨(0), (by first | rfl | (simp; done) | (simp [*]; done)), H', ⟨Nat.le_refl _⟩, ⟨uK BK103⟩, ⟨uB1 HB GE103⟩⟩
     case round =>
     clear H'
     try clear c1
     try clear p1
     try clear q1
     try clear hx1
     try clear p2
     try clear c3
     try clear c3b0
     try clear c3b1
     try clear c4
     try clear c7
     try clear c7b0
     try clear c8
     try clear c8b0
     try clear c9
     try clear c9b0
     try clear p10
     try clear q10
     try clear hx10
     try clear c11
     try clear c11b0
     try clear c11b1
     try clear c15
     try clear hcz13_0
     try clear hcz16_0
     try clear hcz6_0
     try clear hfz13_0
     try clear hfz16_0
     try clear hfz6_0
     try clear hx104_0
     try clear p1
     try clear p10
     try clear p104
     try clear p2
     try clear q1
     try clear q10
     try clear q104
     obtain ⟨x35_3, rfl, HA, HK3, BK103, HB⟩ := hrel
     cases gk with
     | zero => exact absurd HA.out (by simp [lattice_Lat_ordered.l1])
     | succ k3 =>
     have H := HA.out
     clear HA
     simp only [lattice_Lat_ordered.l1] at H
     by_cases c17 : x35_3 < (l0_0.length : Int)
     ·rw [if_pos c17] at H
      have c17b0 : decide (x35_3 < (l0_0.length : Int)) = true := decide_eq_true c17
      clear c17
      by_cases c18 : x16_1 = x35_3
      ·rw [if_pos c18] at H
       have c18b0 : (x16_1 == x35_3) = true := beq_iff_eq.mpr c18
       have c18b1 : (x16_1 != x35_3) = false := bne_eq_false_iff_eq.mpr c18
       clear c18
       have H' := Aside0.mk H
       clear H
       go_wp2
       go_roundg k3
       case measure => have := HK1.out; have := HJ9.out; have := HK3.out; omega
       case rel => exact ⟨(wrap64 (x35_3 + 1)), (by first | rfl | (simp; done) | (simp [*]; done)), H', ⟨by have := HK1.out; have := HJ9.out; have := HK3.out; omega⟩, ⟨uK BK103⟩, ⟨uB1 HB GE103⟩⟩
      rw [if_neg c18] at H
      have c18b0 : (x16_1 == x35_3) = false := beq_eq_false_iff_ne.mpr c18
      have c18b1 : (x16_1 != x35_3) = true := bne_iff_ne.mpr c18
      replace H := Option.bind_eq_some_iff.mp H
      obtain ⟨t106, A190, H⟩ := H
      replace H : (if t106 = true then ((lattice_Lat_leq.f l0_0 x35_3 x16_1).bind fun t107 => (if t107 = true then (some false) else (if 0 ≤ x35_3 then (if x35_3 < (l0_0.length : Int) then (if (Go.bits .andNot .u8 (rd l0_0 x35_3) (rd l0_0 x16_1)) = 0 then (lattice_Lat_ordered.l1 k3 (((ji4) - 1) % 256) x16_1 (rd l0_0 x16_1) l0_0 (l0_0.length : Int) x16_1 (l0_0.length : Int) (wrap64 (x35_3 + 1)) l0_0) else (some false)) else (none)) else (none)))) else (lattice_Lat_ordered.l1 k3 (((ji4) - 1) % 256) x16_1 (rd l0_0 x16_1) l0_0 (l0_0.length : Int) x16_1 (l0_0.length : Int) (wrap64 (x35_3 + 1)) l0_0)) = some r := H
      have A19 := Aside0.mk A190
      clear A190
      by_cases c20 : t106 = true
      ·subst c20
       have H1 : ((lattice_Lat_leq.f l0_0 x35_3 x16_1).bind fun t107 => (if t107 = true then (some false) else (if 0 ≤ x35_3 then (if x35_3 < (l0_0.length : Int) then (if (Go.bits .andNot .u8 (rd l0_0 x35_3) (rd l0_0 x16_1)) = 0 then (lattice_Lat_ordered.l1 k3 (((ji4) - 1) % 256) x16_1 (rd l0_0 x16_1) l0_0 (l0_0.length : Int) x16_1 (l0_0.length : Int) (wrap64 (x35_3 + 1)) l0_0) else (some false)) else (none)) else (none)))) = some r := by rw [if_pos rfl] at H; exact H
       clear H
       have H := H1
       clear H1
       replace H := Option.bind_eq_some_iff.mp H
       obtain ⟨t107, A210, H⟩ := H
       replace H : (if t107 = true then (some false) else (if 0 ≤ x35_3 then (if x35_3 < (l0_0.length : Int) then (if (Go.bits .andNot .u8 (rd l0_0 x35_3) (rd l0_0 x16_1)) = 0 then (lattice_Lat_ordered.l1 k3 (((ji4) - 1) % 256) x16_1 (rd l0_0 x16_1) l0_0 (l0_0.length : Int) x16_1 (l0_0.length : Int) (wrap64 (x35_3 + 1)) l0_0) else (some false)) else (none)) else (none))) = some r := H
       have A21 := Aside0.mk A210
       clear A210
       by_cases c22 : t107 = true
       ·subst c22
        have H1 : (some false) = some r := by rw [if_pos rfl] at H; exact H
        clear H
        have H := H1
        clear H1
        obtain rfl := Option.some.inj H
        have hcz23_0 : wr.cell? ⟨gb103, 0, none⟩ = some (.slice (some ad104) l0_0.length c0_0) := uF BK103 0
        have hfz23_0 := blk_frozen BK103.out 0
        go_wp2_with (first | (go_at_call 37; (with_reducible refine (lattice_Lat_leq.calls _ _ l0_0 x16_1 x35_3 true _ ?side1 ?side2 A19.out).mono ?_); (case side1 => exact uS (Kd.C_below HR0_0.out HB.out)); (case side2 => exact HC0_0.out); rintro e w24 ⟨rfl, hb⟩; replace BK103 := uD BK103 hb; replace HB := Aside0.mk (below_step (uB1 HB GE103) hb); (try clear hb); (try clear hb2); (try clear hk); (try clear hi); have hcz25_0 : w24.cell? ⟨gb103, 0, none⟩ = some (.slice (some ad104) l0_0.length c0_0) := uF BK103 0; have hfz25_0 := blk_frozen BK103.out 0) | (go_at_call 37; (with_reducible refine (lattice_Lat_leq.calls _ _ l0_0 x35_3 x16_1 true _ ?side1 ?side2 A21.out).mono ?_); (case side1 => exact uS (Kd.C_below HR0_0.out HB.out)); (case side2 => exact HC0_0.out); rintro e w26 ⟨rfl, hb⟩; replace BK103 := uD BK103 hb; replace HB := Aside0.mk (below_step (uB1 HB GE103) hb); (try clear hb); (try clear hb2); (try clear hk); (try clear hi)))
        go_ret
        exact ⟨by first | rfl | (simp [errW_none, errW_some] <;> rfl) | (simp only [← hji2, ← hji4]; first | rfl | (simp [errW_none, errW_some] <;> rfl)) | (simp [*, errW_none, errW_some] <;> rfl), uB1 HB GE103⟩
       replace c22 := Bool.eq_false_iff.mpr c22
       subst c22
       have H1 : (if 0 ≤ x35_3 then (if x35_3 < (l0_0.length : Int) then (if (Go.bits .andNot .u8 (rd l0_0 x35_3) (rd l0_0 x16_1)) = 0 then (lattice_Lat_ordered.l1 k3 (((ji4) - 1) % 256) x16_1 (rd l0_0 x16_1) l0_0 (l0_0.length : Int) x16_1 (l0_0.length : Int) (wrap64 (x35_3 + 1)) l0_0) else (some false)) else (none)) else (none)) = some r := by rw [if_neg (show ¬ (false = true) by decide)] at H; exact H
       clear H
       have H := H1
       clear H1
       by_cases c27 : 0 ≤ x35_3
       ·rw [if_pos c27] at H
        have c27b0 : decide (0 ≤ x35_3) = true := decide_eq_true c27
        clear c27
        by_cases c28 : x35_3 < (l0_0.length : Int)
        ·rw [if_pos c28] at H
         have c28b0 : decide (x35_3 < (l0_0.length : Int)) = true := decide_eq_true c28
         clear c28
         by_cases c29 : (Go.bits .andNot .u8 (rd l0_0 x35_3) (rd l0_0 x16_1)) = 0
         ·rw [if_pos c29] at H
          have c29b0 : ((Go.bits .andNot .u8 (rd l0_0 x35_3) (rd l0_0 x16_1)) == 0) = true := beq_iff_eq.mpr c29
          have c29b1 : ((Go.bits .andNot .u8 (rd l0_0 x35_3) (rd l0_0 x16_1)) != 0) = false := bne_eq_false_iff_eq.mpr c29
          clear c29
          have H' := Aside0.mk H
          clear H
          have hcz30_0 : wr.cell? ⟨gb103, 0, none⟩ = some (.slice (some ad104) l0_0.length c0_0) := uF BK103 0
          have hfz30_0 := blk_frozen BK103.out 0
          go_wp2_with (first | (go_at_call 37; (with_reducible refine (lattice_Lat_leq.calls _ _ l0_0 x16_1 x35_3 true _ ?side1 ?side2 A19.out).mono ?_); (case side1 => exact uS (Kd.C_below HR0_0.out HB.out)); (case side2 => exact HC0_0.out); rintro e w31 ⟨rfl, hb⟩; replace BK103 := uD BK103 hb; replace HB := Aside0.mk (below_step (uB1 HB GE103) hb); (try clear hb); (try clear hb2); (try clear hk); (try clear hi); have hcz32_0 : w31.cell? ⟨gb103, 0, none⟩ = some (.slice (some ad104) l0_0.length c0_0) := uF BK103 0; have hfz32_0 := blk_frozen BK103.out 0) | (go_at_call 37; (with_reducible refine (lattice_Lat_leq.calls _ _ l0_0 x35_3 x16_1 false _ ?side1 ?side2 A21.out).mono ?_); (case side1 => exact uS (Kd.C_below HR0_0.out HB.out)); (case side2 => exact HC0_0.out); rintro e w33 ⟨rfl, hb⟩; replace BK103 := uD BK103 hb; replace HB := Aside0.mk (below_step (uB1 HB GE103) hb); (try clear hb); (try clear hb2); (try clear hk); (try clear hi); have hcz34_0 : w33.cell? ⟨gb103, 0, none⟩ = some (.slice (some ad104) l0_0.length c0_0) := uF BK103 0; have hfz34_0 := blk_frozen BK103.out 0; have p108 : 0 ≤ (x35_3 : Int) := of_decide_eq_true (by first | (with_reducible assumption) | assumption); have q108 : x35_3 < (l0_0.length : Int) := of_decide_eq_true (by first | (with_reducible assumption) | assumption); obtain ⟨ad108, e108, hx108_0⟩ := Kd.at_int HR0_0.out x35_3 p108 q108; obtain rfl : ad104 = ad108 := (by injection e108); replace hx108_0 := (HB.out.cell (World.block_lt_of_cell? w _ hx108_0)).trans hx108_0; replace p108 := eq_true p108; replace q108 := eq_true q108))
          go_roundg k3
          case measure => have := HK1.out; have := HJ9.out; have := HK3.out; omega
          case rel => exact ⟨(wrap64 (x35_3 + 1)), (by first | rfl | (simp; done) | (simp [*]; done)), H', ⟨by have := HK1.out; have := HJ9.out; have := HK3.out; omega⟩, ⟨uK BK103⟩, ⟨uB1 HB GE103⟩⟩
         rw [if_neg c29] at H
         have c29b0 : ((Go.bits .andNot .u8 (rd l0_0 x35_3) (rd l0_0 x16_1)) == 0) = false := beq_eq_false_iff_ne.mpr c29
         have c29b1 : ((Go.bits .andNot .u8 (rd l0_0 x35_3) (rd l0_0 x16_1)) != 0) = true := bne_iff_ne.mpr c29
         obtain rfl := Option.some.inj H
         have hcz35_0 : wr.cell? ⟨gb103, 0, none⟩ = some (.slice (some ad104) l0_0.length c0_0) := uF BK103 0
         have hfz35_0 := blk_frozen BK103.out 0
         go_wp2_with (first | (go_at_call 37; (with_reducible refine (lattice_Lat_leq.calls _ _ l0_0 x16_1 x35_3 true _ ?side1 ?side2 A19.out).mono ?_); (case side1 => exact uS (Kd.C_below HR0_0.out HB.out)); (case side2 => exact HC0_0.out); rintro e w36 ⟨rfl, hb⟩; replace BK103 := uD BK103 hb; replace HB := Aside0.mk (below_step (uB1 HB GE103) hb); (try clear hb); (try clear hb2); (try clear hk); (try clear hi); have hcz37_0 : w36.cell? ⟨gb103, 0, none⟩ = some (.slice (some ad104) l0_0.length c0_0) := uF BK103 0; have hfz37_0 := blk_frozen BK103.out 0) | (go_at_call 37; (with_reducible refine (lattice_Lat_leq.calls _ _ l0_0 x35_3 x16_1 false _ ?side1 ?side2 A21.out).mono ?_); (case side1 => exact uS (Kd.C_below HR0_0.out HB.out)); (case side2 => exact HC0_0.out); rintro e w38 ⟨rfl, hb⟩; replace BK103 := uD BK103 hb; replace HB := Aside0.mk (below_step (uB1 HB GE103) hb); (try clear hb); (try clear hb2); (try clear hk); (try clear hi); have hcz39_0 : w38.cell? ⟨gb103, 0, none⟩ = some (.slice (some ad104) l0_0.length c0_0) := uF BK103 0; have hfz39_0 := blk_frozen BK103.out 0; have p108 : 0 ≤ (x35_3 : Int) := of_decide_eq_true (by first | (with_reducible assumption) | assumption); have q108 : x35_3 < (l0_0.length : Int) := of_decide_eq_true (by first | (with_reducible assumption) | assumption); obtain ⟨ad108, e108, hx108_0⟩ := Kd.at_int HR0_0.out x35_3 p108 q108; obtain rfl : ad104 = ad108 := (by injection e108); replace hx108_0 := (HB.out.cell (World.block_lt_of_cell? w _ hx108_0)).trans hx108_0; replace p108 := eq_true p108; replace q108 := eq_true q108))
         go_ret
         exact ⟨by first | rfl | (simp [errW_none, errW_some] <;> rfl) | (simp only [← hji2, ← hji4]; first | rfl | (simp [errW_none, errW_some] <;> rfl)) | (simp [*, errW_none, errW_some] <;> rfl), uB1 HB GE103⟩
        rw [if_neg c28] at H
        exact absurd H (by simp)
       rw [if_neg c27] at H
       exact absurd H (by simp)
      replace c20 := Bool.eq_false_iff.mpr c20
      subst c20
      have H1 : (lattice_Lat_ordered.l1 k3 (((ji4) - 1) % 256) x16_1 (rd l0_0 x16_1) l0_0 (l0_0.length : Int) x16_1 (l0_0.length : Int) (wrap64 (x35_3 + 1)) l0_0) = some r := by rw [if_neg (show ¬ (false = true) by decide)] at H; exact H
      clear H
      have H := H1
      clear H1
      have H' := Aside0.mk H
      clear H
      have hcz40_0 : wr.cell? ⟨gb103, 0, none⟩ = some (.slice (some ad104) l0_0.length c0_0) := uF BK103 0
      have hfz40_0 := blk_frozen BK103.out 0
      go_wp2_with (first | (go_at_call 37; (with_reducible refine (lattice_Lat_leq.calls _ _ l0_0 x16_1 x35_3 false _ ?side1 ?side2 A19.out).mono ?_); (case side1 => exact uS (Kd.C_below HR0_0.out HB.out)); (case side2 => exact HC0_0.out); rintro e w41 ⟨rfl, hb⟩; replace BK103 := uD BK103 hb; replace HB := Aside0.mk (below_step (uB1 HB GE103) hb); (try clear hb); (try clear hb2); (try clear hk); (try clear hi)))
      go_roundg k3
      case measure => have := HK1.out; have := HJ9.out; have := HK3.out; omega
      case rel => exact ⟨(wrap64 (x35_3 + 1)), (by first | rfl | (simp; done) | (simp [*]; done)), H', ⟨by have := HK1.out; have := HJ9.out; have := HK3.out; omega⟩, ⟨uK BK103⟩, ⟨uB1 HB GE103⟩⟩
     rw [if_neg c17] at H
     have c17b0 : decide (x35_3 < (l0_0.length : Int)) = false := decide_eq_false c17
     clear c17
     have H' := Aside0.mk H
     clear H
     go_wp2
     go_roundg k3
     case measure => have := HK1.out; have := HJ9.out; have := HK3.out; omega
     case rel => exact ⟨(wrap64 (x16_1 + 1)), (by first | rfl | (simp; done) | (simp [*]; done)), H', ⟨by have := HK1.out; have := HJ9.out; have := HK3.out; omega⟩, ⟨uK BK103⟩, ⟨uB1 HB GE103⟩⟩
    rw [if_neg c9] at H
    exact absurd H (by simp)
   rw [if_neg c8] at H
   exact absurd H (by simp)
  rw [if_neg c7] at H
  have c7b0 : decide (x16_1 < (l0_0.length : Int)) = false := decide_eq_false c7
  clear c7
  obtain rfl := Option.some.inj H
  go_wp2
  go_ret
  exact ⟨by first | rfl | (simp [errW_none, errW_some] <;> rfl) | (simp only [← hji2, ← hji4]; first | rfl | (simp [errW_none, errW_some] <;> rfl)) | (simp [*, errW_none, errW_some] <;> rfl), uB1 HB GE103⟩
 rw [if_neg c3] at H
 exact absurd H (by simp)

/-! ### lattice_Lat_least: function 43 -/
def lattice_Lat_least.l0 : Nat → Int → Int → Int → List Int → Option (Int)
 | 0, _, _, _, _ => none
 | k + 1, x1, x8, x9, x110000 => if x9 < x8 then (if 0 ≤ (IntKind.u64.wrap (x9)) then (if (Go.bits .and .u8 (shr .u8 x1 (IntKind.u64.wrap (x9))) 1) = 1 then (if 0 ≤ x9 then (if x9 < (x110000.length : Int) then (if (Go.bits .andNot .u8 x1 (rd x110000 x9)) = 0 then (some x9) else (lattice_Lat_least.l0 k x1 x8 (wrap64 (x9 + 1)) x110000)) else (none)) else (none)) else (lattice_Lat_least.l0 k x1 x8 (wrap64 (x9 + 1)) x110000)) else (none)) else (some (-1))
def lattice_Lat_least.f (k : Nat) (l0_0 : List Int) (a1 : Int) : Option (Int) := lattice_Lat_least.l0 k a1 (l0_0.length : Int) 0 l0_0
theorem lattice_Lat_least.mono_l : ∀ k, (∀ y0 y1 y2 y3, LeO (lattice_Lat_least.l0 k y0 y1 y2 y3) (lattice_Lat_least.l0 (k + 1) y0 y1 y2 y3))
 | 0 => fun _ _ _ _ r h => by simp [lattice_Lat_least.l0] at h
 | k + 1 => by
  have ih0 := lattice_Lat_least.mono_l k
  intro y0 y1 y2 y3
  unfold lattice_Lat_least.l0
  repeat' first
  | (with_reducible exact ih0 _ _ _ _)
  | (with_reducible exact LeO.refl _)
  | (with_reducible exact LeO.none _)
  | (with_reducible refine LeO.ite ?_ ?_)
  | (with_reducible refine LeO.bind ?_ (fun _ => ?_))
  | exact ih0 _ _ _ _
  | exact LeO.none _
  | refine LeO.ite ?_ ?_
  | refine LeO.bind ?_ (fun _ => ?_)
theorem lattice_Lat_least.mono : ∀ a0 a1 k, LeO (lattice_Lat_least.f k a0 a1) (lattice_Lat_least.f (k + 1) a0 a1) := by
 intro a0 a1 k
 have ih0 := lattice_Lat_least.mono_l k
 unfold lattice_Lat_least.f
 repeat' first
   | (with_reducible exact ih0 _ _ _ _)
   | (with_reducible exact LeO.refl _)
   | (with_reducible exact LeO.none _)
   | (with_reducible refine LeO.ite ?_ ?_)
   | (with_reducible refine LeO.bind ?_ (fun _ => ?_))
   | exact ih0 _ _ _ _
   | exact LeO.none _
   | refine LeO.ite ?_ ?_
   | refine LeO.bind ?_ (fun _ => ?_)
set_option maxHeartbeats 8000000 in
set_option maxRecDepth 100000 in
theorem lattice_Lat_least.calls (k : Nat) (A0_0 : Option Addr) (c0_0 : Nat) (l0_0 : List Int) (a1 : Int) (r : Int) (w : World) (hr0_0 : Kd.C (Kd.int .u8) w A0_0 l0_0.length l0_0) (hc0_0 : l0_0.length ≤ c0_0) (h : lattice_Lat_least.f k l0_0 a1 = some r) :
  Calls Tryd.prog 43 #[.agg #[.slice A0_0 l0_0.length c0_0], .int .u8 a1] w fun e w' => e = .returned (.int .i64 r) ∧ Below w.heap.size w w' := by
 have hu31 := Tryd.underlying31
 have HR0_0 := Aside0.mk hr0_0
 have HC0_0 := Aside0.mk hc0_0
 clear hr0_0 hc0_0
 have HB := Aside0.mk (Below.refl w.heap.size w)
 have H : (lattice_Lat_least.l0 k a1 (l0_0.length : Int) 0 l0_0) = some r := h
 clear h
 have H' := Aside0.mk H
 clear H
 go_enter Tryd.func43, Tryd.ntmps43
 go_wp2_with (first | ((with_reducible refine gate_dst (N := 2) rfl ?_); refine box_event ?hg (N := 2) ?hd (cs := #[.slice A0_0 l0_0.length c0_0]) (t := 31) ?hr ?_; (case hd => rfl); (case hg => rfl); (case hr => first | (go_simp; done) | (go_simp; rfl)); intro gb109 hg w3 hbox hb; have BK109 := Aside0.mk (hbox); have GW109 := Aside0.mk ((by rw [hg]; exact (below_size (uB0 HB)) : w.heap.size ≤ gb109)); have GE109 := Aside0.mk ((by rw [hg]; exact (below_size (uB0 HB)) : w.heap.size ≤ gb109)); replace HB := Aside0.mk (below_step (uB0 HB) hb); clear hb hbox hg; have hcz4_0 : w3.cell? ⟨gb109, 0, none⟩ = some (.slice A0_0 l0_0.length c0_0) := uF BK109 0; have hfz4_0 := blk_frozen BK109.out 0))
 go_loopg [9] k (fun kq v9 w' => ∃ (x9_1 : Int), v9 = .int .i64 x9_1 ∧ Aside0 (lattice_Lat_least.l0 kq a1 (l0_0.length : Int) x9_1 l0_0 = some r) ∧ Aside0 (kq ≤ k) ∧ Aside0 (w'.heap[gb109]? = some (.cells #[(.slice A0_0 l0_0.length c0_0)] 31 (0, 0))) ∧ Aside0 (Below w.heap.size w w'))
 case atStart => exact ⟨(0), (by first | rfl | (simp; done) | (simp [*]; done)), H', ⟨Nat.le_refl _⟩, ⟨uK BK109⟩, ⟨uB1 HB GE109⟩⟩
 case round =>
 clear H'
 try clear p2
 try clear c4
 try clear hcz4_0
 try clear hfz4_0
 obtain ⟨x9_1, rfl, HA, HK1, BK109, HB⟩ := hrel
 cases gk with
 | zero => exact absurd HA.out (by simp [lattice_Lat_least.l0])
 | succ k1 =>
 have H := HA.out
 clear HA
 simp only [lattice_Lat_least.l0] at H
 by_cases c5 : x9_1 < (l0_0.length : Int)
 ·rw [if_pos c5] at H
  have c5b0 : decide (x9_1 < (l0_0.length : Int)) = true := decide_eq_true c5
  clear c5
  obtain ⟨ji6, hji6⟩ : ∃ j_ : Int, (IntKind.u64.wrap (x9_1)) = j_ := ⟨_, rfl⟩
  replace H : (if 0 ≤ (ji6) then (if (Go.bits .and .u8 (shr .u8 a1 (ji6)) 1) = 1 then (if 0 ≤ x9_1 then (if x9_1 < (l0_0.length : Int) then (if (Go.bits .andNot .u8 a1 (rd l0_0 x9_1)) = 0 then (some x9_1) else (lattice_Lat_least.l0 k1 a1 (l0_0.length : Int) (wrap64 (x9_1 + 1)) l0_0)) else (none)) else (none)) else (lattice_Lat_least.l0 k1 a1 (l0_0.length : Int) (wrap64 (x9_1 + 1)) l0_0)) else (none)) = some r := by first | (rw [hji6] at H; exact H) | (simp only [hji6] at H ⊢; exact H)
  by_cases c7 : 0 ≤ (ji6)
  ·rw [if_pos c7] at H
   have c7b0 := eq_true c7
   have c7b1 : decide (0 ≤ (ji6)) = true := decide_eq_true c7
   clear c7
   obtain ⟨ji8, hji8⟩ : ∃ j_ : Int, (shr .u8 a1 (ji6)) = j_ := ⟨_, rfl⟩
   replace H : (if (Go.bits .and .u8 (ji8) 1) = 1 then (if 0 ≤ x9_1 then (if x9_1 < (l0_0.length : Int) then (if (Go.bits .andNot .u8 a1 (rd l0_0 x9_1)) = 0 then (some x9_1) else (lattice_Lat_least.l0 k1 a1 (l0_0.length : Int) (wrap64 (x9_1 + 1)) l0_0)) else (none)) else (none)) else (lattice_Lat_least.l0 k1 a1 (l0_0.length : Int) (wrap64 (x9_1 + 1)) l0_0)) = some r := by first | (rw [hji8] at H; exact H) | (simp only [hji8] at H ⊢; exact H)
   have hji8_ : (a1 / 2 ^ min (ji6).toNat 8) = ji8 := hji8
   have hji8z : (ji6) ≤ 8 → (a1 / 2 ^ (ji6).toNat) = ji8 := shr_small hji8
   by_cases c9 : (Go.bits .and .u8 (ji8) 1) = 1
   ·rw [if_pos c9] at H
    have c9b0 : ((Go.bits .and .u8 (ji8) 1) == 1) = true := beq_iff_eq.mpr c9
    have c9b1 : ((Go.bits .and .u8 (ji8) 1) != 1) = false := bne_eq_false_iff_eq.mpr c9
    clear c9
    by_cases c10 : 0 ≤ x9_1
    ·rw [if_pos c10] at H
     have c10b0 : decide (0 ≤ x9_1) = true := decide_eq_true c10
     clear c10
     by_cases c11 : x9_1 < (l0_0.length : Int)
     ·rw [if_pos c11] at H
      have c11b0 : decide (x9_1 < (l0_0.length : Int)) = true := decide_eq_true c11
      clear c11
      by_cases c12 : (Go.bits .andNot .u8 a1 (rd l0_0 x9_1)) = 0
      ·rw [if_pos c12] at H
       have c12b0 : ((Go.bits .andNot .u8 a1 (rd l0_0 x9_1)) == 0) = true := beq_iff_eq.mpr c12
       have c12b1 : ((Go.bits .andNot .u8 a1 (rd l0_0 x9_1)) != 0) = false := bne_eq_false_iff_eq.mpr c12
       clear c12
       obtain rfl := Option.some.inj H
       have hcz13_0 : wr.cell? ⟨gb109, 0, none⟩ = some (.slice A0_0 l0_0.length c0_0) := uF BK109 0
       have hfz13_0 := blk_frozen BK109.out 0
       have p110 : 0 ≤ (x9_1 : Int) := of_decide_eq_true (by first | (with_reducible assumption) | assumption)
       have q110 : x9_1 < (l0_0.length : Int) := of_decide_eq_true (by first | (with_reducible assumption) | assumption)
       obtain ⟨ad110, e110, hx110_0⟩ := Kd.at_int HR0_0.out x9_1 p110 q110
       cases e110
       replace hx110_0 := (HB.out.cell (World.block_lt_of_cell? w _ hx110_0)).trans hx110_0
       replace p110 := eq_true p110
       replace q110 := eq_true q110
       go_wp2
       go_ret
       exact ⟨by first | rfl | (simp [errW_none, errW_some] <;> rfl) | (simp only [← hji6, ← hji8]; first | rfl | (simp [errW_none, errW_some] <;> rfl)) | (simp [*, errW_none, errW_some] <;> rfl), uB1 HB GE109⟩
      rw [if_neg c12] at H
      have c12b0 : ((Go.bits .andNot .u8 a1 (rd l0_0 x9_1)) == 0) = false := beq_eq_false_iff_ne.mpr c12
      have c12b1 : ((Go.bits .andNot .u8 a1 (rd l0_0 x9_1)) != 0) = true := bne_iff_ne.mpr c12
      have H' := Aside0.mk H
      clear H
      have hcz14_0 : wr.cell? ⟨gb109, 0, none⟩ = some (.slice A0_0 l0_0.length c0_0) := uF BK109 0
      have hfz14_0 := blk_frozen BK109.out 0
      have p110 : 0 ≤ (x9_1 : Int) := of_decide_eq_true (by first | (with_reducible assumption) | assumption)
      have q110 : x9_1 < (l0_0.length : Int) := of_decide_eq_true (by first | (with_reducible assumption) | assumption)
      obtain ⟨ad110, e110, hx110_0⟩ := Kd.at_int HR0_0.out x9_1 p110 q110
      cases e110
      replace hx110_0 := (HB.out.cell (World.block_lt_of_cell? w _ hx110_0)).trans hx110_0
      replace p110 := eq_true p110
      replace q110 := eq_true q110
      go_wp2
      go_roundg k1
      case measure => have := HK1.out; omega
      case rel => exact ⟨(wrap64 (x9_1 + 1)), (by first | rfl | (simp; done) | (simp [*]; done)), H', ⟨by have := HK1.out; omega⟩, ⟨uK BK109⟩, ⟨uB1 HB GE109⟩⟩
     rw [if_neg c11] at H
     exact absurd H (by simp)
    rw [if_neg c10] at H
    exact absurd H (by simp)
   rw [if_neg c9] at H
   have c9b0 : ((Go.bits .and .u8 (ji8) 1) == 1) = false := beq_eq_false_iff_ne.mpr c9
   have c9b1 : ((Go.bits .and .u8 (ji8) 1) != 1) = true := bne_iff_ne.mpr c9
   have H' := Aside0.mk H
   clear H
   go_wp2
   go_roundg k1
   case measure => have := HK1.out; omega
   case rel => exact ⟨(wrap64 (x9_1 + 1)), (by first | rfl | (simp; done) | (simp [*]; done)), H', ⟨by have := HK1.out; omega⟩, ⟨uK BK109⟩, ⟨uB1 HB GE109⟩⟩
  rw [if_neg c7] at H
  exact absurd H (by simp)
 rw [if_neg c5] at H
 have c5b0 : decide (x9_1 < (l0_0.length : Int)) = false := decide_eq_false c5
 clear c5
 obtain rfl := Option.some.inj H
 go_wp2
 go_ret
 exact ⟨by first | rfl | (simp [errW_none, errW_some] <;> rfl) | (simp [*, errW_none, errW_some] <;> rfl), uB1 HB GE109⟩

/-! ### lattice_Lat_down: function 45 -/
def lattice_Lat_down.l0 : Nat → Int → Int → Int → Int → List Int → Option (Int)
 | 0, _, _, _, _, _ => none
 | k + 1, x1, x5, x9, x10, x112000 => if x10 < x9 then ((lattice_Lat_leq.f x112000 x10 x1).bind fun t112 => (if t112 = true then (if 0 ≤ (IntKind.u64.wrap (x10)) then (lattice_Lat_down.l0 k x1 (Go.bits .or .u8 x5 (shl .u8 1 (IntKind.u64.wrap (x10)))) x9 (wrap64 (x10 + 1)) x112000) else (none)) else (lattice_Lat_down.l0 k x1 x5 x9 (wrap64 (x10 + 1)) x112000))) else (some x5)
def lattice_Lat_down.f (k : Nat) (l0_0 : List Int) (a1 : Int) : Option (Int) := lattice_Lat_down.l0 k a1 0 (l0_0.length : Int) 0 l0_0
theorem lattice_Lat_down.mono_l : ∀ k, (∀ y0 y1 y2 y3 y4, LeO (lattice_Lat_down.l0 k y0 y1 y2 y3 y4) (lattice_Lat_down.l0 (k + 1) y0 y1 y2 y3 y4))
 | 0 => fun _ _ _ _ _ r h => by simp [lattice_Lat_down.l0] at h
 | k + 1 => by
  have ih0 := lattice_Lat_down.mono_l k
  intro y0 y1 y2 y3 y4
  unfold lattice_Lat_down.l0
  repeat' first
  | (with_reducible exact ih0 _ _ _ _ _)
  | (with_reducible exact LeO.refl _)
  | (with_reducible exact LeO.none _)
  | (with_reducible refine LeO.ite ?_ ?_)
  | (with_reducible refine LeO.bind ?_ (fun _ => ?_))
  | exact ih0 _ _ _ _ _
  | exact LeO.none _
  | refine LeO.ite ?_ ?_
  | refine LeO.bind ?_ (fun _ => ?_)
theorem lattice_Lat_down.mono : ∀ a0 a1 k, LeO (lattice_Lat_down.f k a0 a1) (lattice_Lat_down.f (k + 1) a0 a1) := by
 intro a0 a1 k
 have ih0 := lattice_Lat_down.mono_l k
 unfold lattice_Lat_down.f
 repeat' first
   | (with_reducible exact ih0 _ _ _ _ _)
   | (with_reducible exact LeO.refl _)
   | (with_reducible exact LeO.none _)
   | (with_reducible refine LeO.ite ?_ ?_)
   | (with_reducible refine LeO.bind ?_ (fun _ => ?_))
   | exact ih0 _ _ _ _ _
   | exact LeO.none _
   | refine LeO.ite ?_ ?_
   | refine LeO.bind ?_ (fun _ => ?_)
set_option maxHeartbeats 8000000 in
set_option maxRecDepth 100000 in
theorem lattice_Lat_down.calls (k : Nat) (A0_0 : Option Addr) (c0_0 : Nat) (l0_0 : List Int) (a1 : Int) (r : Int) (w : World) (hr0_0 : Kd.C (Kd.int .u8) w A0_0 l0_0.length l0_0) (hc0_0 : l0_0.length ≤ c0_0) (h : lattice_Lat_down.f k l0_0 a1 = some r) :
  Calls Tryd.prog 45 #[.agg #[.slice A0_0 l0_0.length c0_0], .int .i64 a1] w fun e w' => e = .returned (.int .u8 r) ∧ Below w.heap.size w w' := by
 have hu31 := Tryd.underlying31
 have HR0_0 := Aside0.mk hr0_0
 have HC0_0 := Aside0.mk hc0_0
 clear hr0_0 hc0_0
 have HB := Aside0.mk (Below.refl w.heap.size w)
 have H : (lattice_Lat_down.l0 k a1 0 (l0_0.length : Int) 0 l0_0) = some r := h
 clear h
 have H' := Aside0.mk H
 clear H
 go_enter Tryd.func45, Tryd.ntmps45
 go_wp2_with (first | ((with_reducible refine gate_dst (N := 2) rfl ?_); refine box_event ?hg (N := 2) ?hd (cs := #[.slice A0_0 l0_0.length c0_0]) (t := 31) ?hr ?_; (case hd => rfl); (case hg => rfl); (case hr => first | (go_simp; done) | (go_simp; rfl)); intro gb111 hg w3 hbox hb; have BK111 := Aside0.mk (hbox); have GW111 := Aside0.mk ((by rw [hg]; exact (below_size (uB0 HB)) : w.heap.size ≤ gb111)); have GE111 := Aside0.mk ((by rw [hg]; exact (below_size (uB0 HB)) : w.heap.size ≤ gb111)); replace HB := Aside0.mk (below_step (uB0 HB) hb); clear hb hbox hg; have hcz4_0 : w3.cell? ⟨gb111, 0, none⟩ = some (.slice A0_0 l0_0.length c0_0) := uF BK111 0; have hfz4_0 := blk_frozen BK111.out 0))
 go_loopg [5, 10] k (fun kq v5 v10 w' => ∃ (x5_1 : Int) (x10_1 : Int), v5 = .int .u8 x5_1 ∧ v10 = .int .i64 x10_1 ∧ Aside0 (lattice_Lat_down.l0 kq a1 x5_1 (l0_0.length : Int) x10_1 l0_0 = some r) ∧ Aside0 (kq ≤ k) ∧ Aside0 (w'.heap[gb111]? = some (.cells #[(.slice A0_0 l0_0.length c0_0)] 31 (0, 0))) ∧ Aside0 (Below w.heap.size w w'))
 case atStart => exact ⟨(0), (0), (by first | rfl | (simp; done) | (simp [*]; done)), (by first | rfl | (simp; done) | (simp [*]; done)), H', ⟨Nat.le_refl _⟩, ⟨uK BK111⟩, ⟨uB1 HB GE111⟩⟩
 case round =>
 clear H'
 try clear p2
 try clear c4
 try clear hcz4_0
 try clear hfz4_0
 obtain ⟨x5_1, x10_1, rfl, rfl, HA, HK1, BK111, HB⟩ := hrel
 cases gk with
 | zero => exact absurd HA.out (by simp [lattice_Lat_down.l0])
 | succ k1 =>
 have H := HA.out
 clear HA
 simp only [lattice_Lat_down.l0] at H
 by_cases c5 : x10_1 < (l0_0.length : Int)
 ·rw [if_pos c5] at H
  have c5b0 : decide (x10_1 < (l0_0.length : Int)) = true := decide_eq_true c5
  clear c5
  replace H := Option.bind_eq_some_iff.mp H
  obtain ⟨t112, A60, H⟩ := H
  replace H : (if t112 = true then (if 0 ≤ (IntKind.u64.wrap (x10_1)) then (lattice_Lat_down.l0 k1 a1 (Go.bits .or .u8 x5_1 (shl .u8 1 (IntKind.u64.wrap (x10_1)))) (l0_0.length : Int) (wrap64 (x10_1 + 1)) l0_0) else (none)) else (lattice_Lat_down.l0 k1 a1 x5_1 (l0_0.length : Int) (wrap64 (x10_1 + 1)) l0_0)) = some r := H
  have A6 := Aside0.mk A60
  clear A60
  by_cases c7 : t112 = true
  ·subst c7
   have H1 : (if 0 ≤ (IntKind.u64.wrap (x10_1)) then (lattice_Lat_down.l0 k1 a1 (Go.bits .or .u8 x5_1 (shl .u8 1 (IntKind.u64.wrap (x10_1)))) (l0_0.length : Int) (wrap64 (x10_1 + 1)) l0_0) else (none)) = some r := by rw [if_pos rfl] at H; exact H
   clear H
   have H := H1
   clear H1
   obtain ⟨ji8, hji8⟩ : ∃ j_ : Int, (IntKind.u64.wrap (x10_1)) = j_ := ⟨_, rfl⟩
   replace H : (if 0 ≤ (ji8) then (lattice_Lat_down.l0 k1 a1 (Go.bits .or .u8 x5_1 (shl .u8 1 (ji8))) (l0_0.length : Int) (wrap64 (x10_1 + 1)) l0_0) else (none)) = some r := by first | (rw [hji8] at H; exact H) | (simp only [hji8] at H ⊢; exact H)
   (try rw [hji8] at A6)
   by_cases c9 : 0 ≤ (ji8)
   ·rw [if_pos c9] at H
    have c9b0 := eq_true c9
    have c9b1 : decide (0 ≤ (ji8)) = true := decide_eq_true c9
    clear c9
    obtain ⟨ji10, hji10⟩ : ∃ j_ : Int, (shl .u8 1 (ji8)) = j_ := ⟨_, rfl⟩
    replace H : (lattice_Lat_down.l0 k1 a1 (Go.bits .or .u8 x5_1 (ji10)) (l0_0.length : Int) (wrap64 (x10_1 + 1)) l0_0) = some r := by first | (rw [hji10] at H; exact H) | (simp only [hji10] at H ⊢; exact H)
    (try rw [hji10] at A6)
    have hji10_ : (IntKind.u8.wrap (1 * 2 ^ min (ji8).toNat 8)) = ji10 := hji10
    have hji10z : (ji8) ≤ 8 → (IntKind.u8.wrap (1 * 2 ^ (ji8).toNat)) = ji10 := shl_small hji10
    have hji10u : (IntKind.u8.wrap (2 ^ min (ji8).toNat 8)) = ji10 := by have h_ := hji10_; rw [Int.one_mul] at h_; exact h_
    have hji10v : (ji8) ≤ 8 → (IntKind.u8.wrap (2 ^ (ji8).toNat)) = ji10 := fun hle_ => by have h_ := hji10z hle_; rw [Int.one_mul] at h_; exact h_
    have H' := Aside0.mk H
    clear H
    have hcz11_0 : wr.cell? ⟨gb111, 0, none⟩ = some (.slice A0_0 l0_0.length c0_0) := uF BK111 0
    have hfz11_0 := blk_frozen BK111.out 0
    go_wp2_with (first | ((with_reducible refine gate_callee (f := 37) rfl ?_); refine goesL_ (some 16) rfl rfl Tryd.func37 (by kernel_rfl) rfl #[.agg #[.slice A0_0 l0_0.length c0_0], .int .i64 x10_1, .int .i64 a1] rfl uC ?_; (with_reducible refine (lattice_Lat_leq.calls _ _ l0_0 x10_1 a1 true _ ?side1 ?side2 A6.out).mono ?_); (case side1 => exact uS (Kd.C_below HR0_0.out HB.out)); (case side2 => exact HC0_0.out); rintro e w12 ⟨rfl, hb⟩; refine ⟨_, rfl, ?_⟩; replace BK111 := uD BK111 hb; replace HB := Aside0.mk (below_step (uB1 HB GE111) hb); (try clear hb); (try clear hb2); (try clear hk); (try clear hi)))
    go_roundg k1
    case measure => have := HK1.out; omega
    case rel => exact ⟨(Go.bits .or .u8 x5_1 (ji10)), (wrap64 (x10_1 + 1)), (by first | rfl | (simp; done) | (simp only [← hji10] <;> (first | rfl | simp)) | (simp [*]; done)), (by first | rfl | (simp; done) | (simp [*]; done)), H', ⟨by have := HK1.out; omega⟩, ⟨uK BK111⟩, ⟨uB1 HB GE111⟩⟩
   rw [if_neg c9] at H
   exact absurd H (by simp)
  replace c7 := Bool.eq_false_iff.mpr c7
  subst c7
  have H1 : (lattice_Lat_down.l0 k1 a1 x5_1 (l0_0.length : Int) (wrap64 (x10_1 + 1)) l0_0) = some r := by rw [if_neg (show ¬ (false = true) by decide)] at H; exact H
  clear H
  have H := H1
  clear H1
  have H' := Aside0.mk H
  clear H
  have hcz13_0 : wr.cell? ⟨gb111, 0, none⟩ = some (.slice A0_0 l0_0.length c0_0) := uF BK111 0
  have hfz13_0 := blk_frozen BK111.out 0
  go_wp2_with (first | ((with_reducible refine gate_callee (f := 37) rfl ?_); refine goesL_ (some 16) rfl rfl Tryd.func37 (by kernel_rfl) rfl #[.agg #[.slice A0_0 l0_0.length c0_0], .int .i64 x10_1, .int .i64 a1] rfl uC ?_; (with_reducible refine (lattice_Lat_leq.calls _ _ l0_0 x10_1 a1 false _ ?side1 ?side2 A6.out).mono ?_); (case side1 => exact uS (Kd.C_below HR0_0.out HB.out)); (case side2 => exact HC0_0.out); rintro e w14 ⟨rfl, hb⟩; refine ⟨_, rfl, ?_⟩; replace BK111 := uD BK111 hb; replace HB := Aside0.mk (below_step (uB1 HB GE111) hb); (try clear hb); (try clear hb2); (try clear hk); (try clear hi)))
  go_roundg k1
  case measure => have := HK1.out; omega
  case rel => exact ⟨(x5_1), (wrap64 (x10_1 + 1)), (by first | rfl | (simp; done) | (simp [*]; done)), (by first | rfl | (simp; done) | (simp [*]; done)), H', ⟨by have := HK1.out; omega⟩, ⟨uK BK111⟩, ⟨uB1 HB GE111⟩⟩
 rw [if_neg c5] at H
 have c5b0 : decide (x10_1 < (l0_0.length : Int)) = false := decide_eq_false c5
 clear c5
 obtain rfl := Option.some.inj H
 go_wp2
 go_ret
 exact ⟨by first | rfl | (simp [errW_none, errW_some] <;> rfl) | (simp [*, errW_none, errW_some] <;> rfl), uB1 HB GE111⟩

/-! ### lattice_Lat_greatest: function 44 -/
def lattice_Lat_greatest.l0 : Nat → Int → Int → Int → List Int → Option (Int)
 | 0, _, _, _, _ => none
 | k + 1, x1, x8, x9, x114000 => if x9 < x8 then (if 0 ≤ (IntKind.u64.wrap (x9)) then (if (Go.bits .and .u8 (shr .u8 x1 (IntKind.u64.wrap (x9))) 1) = 1 then ((lattice_Lat_down.f k x114000 x9).bind fun t114 => (if (Go.bits .andNot .u8 x1 t114) = 0 then (some x9) else (lattice_Lat_greatest.l0 k x1 x8 (wrap64 (x9 + 1)) x114000))) else (lattice_Lat_greatest.l0 k x1 x8 (wrap64 (x9 + 1)) x114000)) else (none)) else (some (-1))
def lattice_Lat_greatest.f (k : Nat) (l0_0 : List Int) (a1 : Int) : Option (Int) := lattice_Lat_greatest.l0 k a1 (l0_0.length : Int) 0 l0_0
theorem lattice_Lat_greatest.mono_l : ∀ k, (∀ y0 y1 y2 y3, LeO (lattice_Lat_greatest.l0 k y0 y1 y2 y3) (lattice_Lat_greatest.l0 (k + 1) y0 y1 y2 y3))
 | 0 => fun _ _ _ _ r h => by simp [lattice_Lat_greatest.l0] at h
 | k + 1 => by
  have ih0 := lattice_Lat_greatest.mono_l k
  intro y0 y1 y2 y3
  unfold lattice_Lat_greatest.l0
  repeat' first
  | (with_reducible exact ih0 _ _ _ _)
  | (with_reducible exact lattice_Lat_down.mono _ _ _)
  | (with_reducible exact LeO.refl _)
  | (with_reducible exact LeO.none _)
  | (with_reducible refine LeO.ite ?_ ?_)
  | (with_reducible refine LeO.bind ?_ (fun _ => ?_))
  | exact ih0 _ _ _ _
  | exact lattice_Lat_down.mono _ _ _
  | exact LeO.none _
  | refine LeO.ite ?_ ?_
  | refine LeO.bind ?_ (fun _ => ?_)
theorem lattice_Lat_greatest.mono : ∀ a0 a1 k, LeO (lattice_Lat_greatest.f k a0 a1) (lattice_Lat_greatest.f (k + 1) a0 a1) := by
 intro a0 a1 k
 have ih0 := lattice_Lat_greatest.mono_l k
 unfold lattice_Lat_greatest.f
 repeat' first
   | (with_reducible exact ih0 _ _ _ _)
   | (with_reducible exact lattice_Lat_down.mono _ _ _)
   | (with_reducible exact LeO.refl _)
   | (with_reducible exact LeO.none _)
   | (with_reducible refine LeO.ite ?_ ?_)
   | (with_reducible refine LeO.bind ?_ (fun _ => ?_))
   | exact ih0 _ _ _ _
   | exact lattice_Lat_down.mono _ _ _
   | exact LeO.none _
   | refine LeO.ite ?_ ?_
   | refine LeO.bind ?_ (fun _ => ?_)
set_option maxHeartbeats 8000000 in
set_option maxRecDepth 100000 in
theorem lattice_Lat_greatest.calls (k : Nat) (A0_0 : Option Addr) (c0_0 : Nat) (l0_0 : List Int) (a1 : Int) (r : Int) (w : World) (hr0_0 : Kd.C (Kd.int .u8) w A0_0 l0_0.length l0_0) (hc0_0 : l0_0.length ≤ c0_0) (h : lattice_Lat_greatest.f k l0_0 a1 = some r) :
  Calls Tryd.prog 44 #[.agg #[.slice A0_0 l0_0.length c0_0], .int .u8 a1] w fun e w' => e = .returned (.int .i64 r) ∧ Below w.heap.size w w' := by
 have hu31 := Tryd.underlying31
 have HR0_0 := Aside0.mk hr0_0
 have HC0_0 := Aside0.mk hc0_0
 clear hr0_0 hc0_0
 have HB := Aside0.mk (Below.refl w.heap.size w)
 have H : (lattice_Lat_greatest.l0 k a1 (l0_0.length : Int) 0 l0_0) = some r := h
 clear h
 have H' := Aside0.mk H
 clear H
 go_enter Tryd.func44, Tryd.ntmps44
 go_wp2_with (first | ((with_reducible refine gate_dst (N := 2) rfl ?_); refine box_event ?hg (N := 2) ?hd (cs := #[.slice A0_0 l0_0.length c0_0]) (t := 31) ?hr ?_; (case hd => rfl); (case hg => rfl); (case hr => first | (go_simp; done) | (go_simp; rfl)); intro gb113 hg w3 hbox hb; have BK113 := Aside0.mk (hbox); have GW113 := Aside0.mk ((by rw [hg]; exact (below_size (uB0 HB)) : w.heap.size ≤ gb113)); have GE113 := Aside0.mk ((by rw [hg]; exact (below_size (uB0 HB)) : w.heap.size ≤ gb113)); replace HB := Aside0.mk (below_step (uB0 HB) hb); clear hb hbox hg; have hcz4_0 : w3.cell? ⟨gb113, 0, none⟩ = some (.slice A0_0 l0_0.length c0_0) := uF BK113 0; have hfz4_0 := blk_frozen BK113.out 0))
 go_loopg [9] k (fun kq v9 w' => ∃ (x9_1 : Int), v9 = .int .i64 x9_1 ∧ Aside0 (lattice_Lat_greatest.l0 kq a1 (l0_0.length : Int) x9_1 l0_0 = some r) ∧ Aside0 (kq ≤ k) ∧ Aside0 (w'.heap[gb113]? = some (.cells #[(.slice A0_0 l0_0.length c0_0)] 31 (0, 0))) ∧ Aside0 (Below w.heap.size w w'))
 case atStart => exact ⟨(0), (by first | rfl | (simp; done) | (simp [*]; done)), H', ⟨Nat.le_refl _⟩, ⟨uK BK113⟩, ⟨uB1 HB GE113⟩⟩
 case round =>
 clear H'
 try clear p2
 try clear c4
 try clear hcz4_0
 try clear hfz4_0
 obtain ⟨x9_1, rfl, HA, HK1, BK113, HB⟩ := hrel
 cases gk with
 | zero => exact absurd HA.out (by simp [lattice_Lat_greatest.l0])
 | succ k1 =>
 have H := HA.out
 clear HA
 simp only [lattice_Lat_greatest.l0] at H
 by_cases c5 : x9_1 < (l0_0.length : Int)
 ·rw [if_pos c5] at H
  have c5b0 : decide (x9_1 < (l0_0.length : Int)) = true := decide_eq_true c5
  clear c5
  obtain ⟨ji6, hji6⟩ : ∃ j_ : Int, (IntKind.u64.wrap (x9_1)) = j_ := ⟨_, rfl⟩
  replace H : (if 0 ≤ (ji6) then (if (Go.bits .and .u8 (shr .u8 a1 (ji6)) 1) = 1 then ((lattice_Lat_down.f k1 l0_0 x9_1).bind fun t114 => (if (Go.bits .andNot .u8 a1 t114) = 0 then (some x9_1) else (lattice_Lat_greatest.l0 k1 a1 (l0_0.length : Int) (wrap64 (x9_1 + 1)) l0_0))) else (lattice_Lat_greatest.l0 k1 a1 (l0_0.length : Int) (wrap64 (x9_1 + 1)) l0_0)) else (none)) = some r := by first | (rw [hji6] at H; exact H) | (simp only [hji6] at H ⊢; exact H)
  by_cases c7 : 0 ≤ (ji6)
  ·rw [if_pos c7] at H
   have c7b0 := eq_true c7
   have c7b1 : decide (0 ≤ (ji6)) = true := decide_eq_true c7
   clear c7
   obtain ⟨ji8, hji8⟩ : ∃ j_ : Int, (shr .u8 a1 (ji6)) = j_ := ⟨_, rfl⟩
   replace H : (if (Go.bits .and .u8 (ji8) 1) = 1 then ((lattice_Lat_down.f k1 l0_0 x9_1).bind fun t114 => (if (Go.bits .andNot .u8 a1 t114) = 0 then (some x9_1) else (lattice_Lat_greatest.l0 k1 a1 (l0_0.length : Int) (wrap64 (x9_1 + 1)) l0_0))) else (lattice_Lat_greatest.l0 k1 a1 (l0_0.length : Int) (wrap64 (x9_1 + 1)) l0_0)) = some r := by first | (rw [hji8] at H; exact H) | (simp only [hji8] at H ⊢; exact H)
   have hji8_ : (a1 / 2 ^ min (ji6).toNat 8) = ji8 := hji8
   have hji8z : (ji6) ≤ 8 → (a1 / 2 ^ (ji6).toNat) = ji8 := shr_small hji8
   by_cases c9 : (Go.bits .and .u8 (ji8) 1) = 1
   ·rw [if_pos c9] at H
    have c9b0 : ((Go.bits .and .u8 (ji8) 1) == 1) = true := beq_iff_eq.mpr c9
    have c9b1 : ((Go.bits .and .u8 (ji8) 1) != 1) = false := bne_eq_false_iff_eq.mpr c9
    clear c9
    replace H := Option.bind_eq_some_iff.mp H
    obtain ⟨t114, A100, H⟩ := H
    replace H : (if (Go.bits .andNot .u8 a1 t114) = 0 then (some x9_1) else (lattice_Lat_greatest.l0 k1 a1 (l0_0.length : Int) (wrap64 (x9_1 + 1)) l0_0)) = some r := H
    have A10 := Aside0.mk A100
    clear A100
    by_cases c11 : (Go.bits .andNot .u8 a1 t114) = 0
    ·rw [if_pos c11] at H
     have c11b0 : ((Go.bits .andNot .u8 a1 t114) == 0) = true := beq_iff_eq.mpr c11
     have c11b1 : ((Go.bits .andNot .u8 a1 t114) != 0) = false := bne_eq_false_iff_eq.mpr c11
     clear c11
     obtain rfl := Option.some.inj H
     have hcz12_0 : wr.cell? ⟨gb113, 0, none⟩ = some (.slice A0_0 l0_0.length c0_0) := uF BK113 0
     have hfz12_0 := blk_frozen BK113.out 0
     go_wp2_with (first | (go_at_call 45; (with_reducible refine (lattice_Lat_down.calls k1 _ _ l0_0 x9_1 t114 _ ?side1 ?side2 A10.out).mono ?_); (case side1 => exact uS (Kd.C_below HR0_0.out HB.out)); (case side2 => exact HC0_0.out); rintro e w13 ⟨rfl, hb⟩; replace BK113 := uD BK113 hb; replace HB := Aside0.mk (below_step (uB1 HB GE113) hb); (try clear hb); (try clear hb2); (try clear hk); (try clear hi)))
     go_ret
     exact ⟨by first | rfl | (simp [errW_none, errW_some] <;> rfl) | (simp only [← hji6, ← hji8]; first | rfl | (simp [errW_none, errW_some] <;> rfl)) | (simp [*, errW_none, errW_some] <;> rfl), uB1 HB GE113⟩
    rw [if_neg c11] at H
    have c11b0 : ((Go.bits .andNot .u8 a1 t114) == 0) = false := beq_eq_false_iff_ne.mpr c11
    have c11b1 : ((Go.bits .andNot .u8 a1 t114) != 0) = true := bne_iff_ne.mpr c11
    have H' := Aside0.mk H
    clear H
    have hcz14_0 : wr.cell? ⟨gb113, 0, none⟩ = some (.slice A0_0 l0_0.length c0_0) := uF BK113 0
    have hfz14_0 := blk_frozen BK113.out 0
    go_wp2_with (first | (go_at_call 45; (with_reducible refine (lattice_Lat_down.calls k1 _ _ l0_0 x9_1 t114 _ ?side1 ?side2 A10.out).mono ?_); (case side1 => exact uS (Kd.C_below HR0_0.out HB.out)); (case side2 => exact HC0_0.out); rintro e w15 ⟨rfl, hb⟩; replace BK113 := uD BK113 hb; replace HB := Aside0.mk (below_step (uB1 HB GE113) hb); (try clear hb); (try clear hb2); (try clear hk); (try clear hi)))
    go_roundg k1
    case measure => have := HK1.out; omega
    case rel => exact ⟨(wrap64 (x9_1 + 1)), (by first | rfl | (simp; done) | (simp [*]; done)), H', ⟨by have := HK1.out; omega⟩, ⟨uK BK113⟩, ⟨uB1 HB GE113⟩⟩
   rw [if_neg c9] at H
   have c9b0 : ((Go.bits .and .u8 (ji8) 1) == 1) = false := beq_eq_false_iff_ne.mpr c9
   have c9b1 : ((Go.bits .and .u8 (ji8) 1) != 1) = true := bne_iff_ne.mpr c9
   have H' := Aside0.mk H
   clear H
   go_wp2
   go_roundg k1
   case measure => have := HK1.out; omega
   case rel => exact ⟨(wrap64 (x9_1 + 1)), (by first | rfl | (simp; done) | (simp [*]; done)), H', ⟨by have := HK1.out; omega⟩, ⟨uK BK113⟩, ⟨uB1 HB GE113⟩⟩
  rw [if_neg c7] at H
  exact absurd H (by simp)
 rw [if_neg c5] at H
 have c5b0 : decide (x9_1 < (l0_0.length : Int)) = false := decide_eq_false c5
 clear c5
 obtain rfl := Option.some.inj H
 go_wp2
 go_ret
 exact ⟨by first | rfl | (simp [errW_none, errW_some] <;> rfl) | (simp [*, errW_none, errW_some] <;> rfl), uB1 HB GE113⟩

end Go.Proofs.YtodfomkhhfcnhaaDoor.PMonBack
