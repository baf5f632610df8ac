/- The functions that the law reaches, as plain functions of lists and numbers, and that a call of the Go code comes to just their answers; laid by this repo's own program over the seat's translation. Conditions: each contract's own premises. -/
import Derived.Test.YtodfomkhhfcnhaaDoorPMonBackx0
namespace Go.Proofs.YtodfomkhhfcnhaaDoor.PMonBack
open Go.RowKit Go.Proofs.YtodfomkhhfcnhaaDoorW.PrintWords Go.Proofs.YtodfomkhhfcnhaaDoorW.PrintLast Go.Proofs.YtodfomkhhfcnhaaDoorW.PrintMore
attribute [local go_sem] max2_int min2_int max_two min_two max_three min_three max_four min_four   -- for this text's walks alone
set_option linter.unusedVariables false
set_option linter.unusedSimpArgs false

/-! ### colloquylaw20_giveMon: function 8 -/
def colloquylaw20_giveMon.l0 : Nat → Int → Int → List (S62) → Int → List (S58) → Option (Int × (List (S58)))
 | 0, _, _, _, _, _ => none
 | k + 1, x4, x260000, x260001, x262000, x262001 => if x4 < (x260001.length : Int) then (if 0 ≤ x4 then (if x262001.length < 5864062014805 then (colloquylaw20_giveMon.l0 k (wrap64 (x4 + 1)) x260000 x260001 x262000 (x262001 ++ [(⟨(rd_T62 x260001 x4).f0, (rd_T62 x260001 x4).f1, (rd_T62 x260001 x4).f2⟩ : S58)])) else (none)) else (none)) else (some (x262000, x262001))
def colloquylaw20_giveMon.f (k : Nat) (a0_0 : Int) (l0_1 : List (S62)) : Option (Int × (List (S58))) := colloquylaw20_giveMon.l0 k 0 a0_0 l0_1 a0_0 ([] : List (S58))
theorem colloquylaw20_giveMon.mono_l : ∀ k, (∀ y0 y1 y2 y3 y4, LeO (colloquylaw20_giveMon.l0 k y0 y1 y2 y3 y4) (colloquylaw20_giveMon.l0 (k + 1) y0 y1 y2 y3 y4))
 | 0 => fun _ _ _ _ _ r h => by simp [colloquylaw20_giveMon.l0] at h
 | k + 1 => by
  have ih0 := colloquylaw20_giveMon.mono_l k
  intro y0 y1 y2 y3 y4
  unfold colloquylaw20_giveMon.l0
  repeat' first
  | (with_reducible exact ih0 _ _ _ _ _)
  | (with_reducible exact LeO.refl _)
  | (with_reducible exact LeO.none _)
  | (with_reducible refine LeO.ite ?_ ?_)
  | (with_reducible refine LeO.bind ?_ (fun _ => ?_))
  | exact ih0 _ _ _ _ _
  | exact LeO.none _
  | refine LeO.ite ?_ ?_
  | refine LeO.bind ?_ (fun _ => ?_)
theorem colloquylaw20_giveMon.mono : ∀ a0 a1 k, LeO (colloquylaw20_giveMon.f k a0 a1) (colloquylaw20_giveMon.f (k + 1) a0 a1) := by
 intro a0 a1 k
 have ih0 := colloquylaw20_giveMon.mono_l k
 unfold colloquylaw20_giveMon.f
 repeat' first
   | (with_reducible exact ih0 _ _ _ _ _)
   | (with_reducible exact LeO.refl _)
   | (with_reducible exact LeO.none _)
   | (with_reducible refine LeO.ite ?_ ?_)
   | (with_reducible refine LeO.bind ?_ (fun _ => ?_))
   | exact ih0 _ _ _ _ _
   | exact LeO.none _
   | refine LeO.ite ?_ ?_
   | refine LeO.bind ?_ (fun _ => ?_)
def colloquylaw20_giveMon.T5 : Bool × List (List Nat × List Nat) := (true, [([], []), ([0], [0]), ([], []), ([2], [2]), ([], []), ([3, 4], [3, 4]), ([5], [5]), ([6], [6]), ([1, 7], [1, 7]), ([0, 1, 2, 3, 4, 5, 6, 7, 8], []), ([9, 8, 8, 0, 1, 2, 3, 4, 5, 6, 7, 8], [8, 9])])
def colloquylaw20_giveMon.B5 : List Nat := [0, 1, 0, 4, 0, 28, 60, 124, 255, 511, 1023]
theorem colloquylaw20_giveMon.tab5 : rtab .any (opsOf Tryd.f8 5) = colloquylaw20_giveMon.T5 := by kernel_rfl
theorem colloquylaw20_giveMon.bits5 : waitsOk colloquylaw20_giveMon.T5.2 colloquylaw20_giveMon.B5 = true := by kernel_rfl
set_option maxHeartbeats 8000000 in
set_option maxRecDepth 100000 in
theorem colloquylaw20_giveMon.calls (k : Nat) (a0_0 : Int) (A0_1 : Option Addr) (c0_1 : Nat) (l0_1 : List (S62)) (r1 : Int) (r2 : List (S58)) (w : World) (hr0_1 : Kd.C k62 w A0_1 l0_1.length l0_1) (hc0_1 : l0_1.length ≤ c0_1) (h : colloquylaw20_giveMon.f k a0_0 l0_1 = some (r1, r2)) :
  Calls Tryd.prog 8 #[.agg #[.int .i64 a0_0, .slice A0_1 l0_1.length c0_1]] w fun e w' => ∃ v1_ : Value, e = .returned (.agg #[.int .i64 r1, v1_]) ∧ Kd.R k58 58 w' w.heap.size (fun _ => True) v1_ r2 ∧ Below w.heap.size w w' := by
 have hu25 := Tryd.underlying25
 have hu34 := Tryd.underlying34
 have hu62 := Tryd.underlying62
 have HR0_1 := Aside0.mk hr0_1
 have HC0_1 := Aside0.mk hc0_1
 clear hr0_1 hc0_1
 have HB := Aside0.mk (Below.refl w.heap.size w)
 have H : (colloquylaw20_giveMon.l0 k 0 a0_0 l0_1 a0_0 ([] : List (S58))) = some (r1, r2) := h
 clear h
 have H' := Aside0.mk H
 clear H
 go_enter Tryd.func8, Tryd.ntmps8
 try simp only [List.append_eq, List.cons_append, List.nil_append]
 go_wp2_with (first | ((with_reducible refine gate_dst (N := 1) rfl ?_); refine box_event ?hg (N := 1) ?hd (cs := #[.int .i64 a0_0, .slice A0_1 l0_1.length c0_1]) (t := 25) ?hr ?_; (case hd => rfl); (case hg => rfl); (case hr => first | (go_simp; done) | (go_simp; rfl)); intro gb259 hg w2 hbox hb; have BK259 := Aside0.mk (hbox); have GW259 := Aside0.mk ((by rw [hg]; exact (below_size (uB0 HB)) : w.heap.size ≤ gb259)); have GE259 := Aside0.mk ((by rw [hg]; exact (below_size (uB0 HB)) : w.heap.size ≤ gb259)); replace HB := Aside0.mk (below_step (uB0 HB) hb); clear hb hbox hg) | ((with_reducible refine gate_dst (N := 2) rfl ?_); refine box_event ?hg (N := 2) ?hd (cs := #[.int .i64 0, .slice none 0 0]) (t := 34) ?hr ?_; (case hd => rfl); (case hg => rfl); (case hr => first | (go_simp; done) | (go_simp; rfl)); intro gb260 hg w3 hbox hb; have BK260 := Aside0.mk (hbox); have GW260 := Aside0.mk ((by rw [hg]; exact (below_size (uB1 HB GE259)) : w.heap.size ≤ gb260)); have GE260 := Aside0.mk ((by rw [hg]; exact (below_size (uB1 HB GE259)) : w.heap.size ≤ gb260)); replace HB := Aside0.mk (below_step (uB1 HB GE259) hb); have NB259_260 := uN1 BK259 hg; have NB260_259 := uN2 BK259 hg; replace BK259 := uD BK259 hb; clear hb hbox hg; have hnb4 := NB259_260.out; have hnc4 := NB260_259.out; have hcz5_0 : w3.cell? ⟨gb259, 0, none⟩ = some (.int .i64 a0_0) := uF BK259 0; have hcz5_1 : w3.cell? ⟨gb259, 1, none⟩ = some (.slice A0_1 l0_1.length c0_1) := uF BK259 1; have hfz5_0 := blk_frozen BK259.out 0; have hfz5_1 := blk_frozen BK259.out 1) | ((with_reducible refine gate_dst (N := 3) rfl ?_); refine box_event ?hg (N := 3) ?hd (cs := #[.int .i64 0, .slice none 0 0]) (t := 34) ?hr ?_; (case hd => rfl); (case hg => rfl); (case hr => first | (go_simp; done) | (go_simp; rfl)); intro gb261 hg w6 hbox hb; have BK261 := Aside0.mk (hbox); have GW261 := Aside0.mk ((by rw [hg]; exact (below_size (uB2 HB GE259 GE260)) : w.heap.size ≤ gb261)); have GE261 := Aside0.mk ((by rw [hg]; exact (below_size (uB2 HB GE259 GE260)) : w.heap.size ≤ gb261)); replace HB := Aside0.mk (below_step (uB2 HB GE259 GE260) hb); have NB259_261 := uN1 BK259 hg; have NB261_259 := uN2 BK259 hg; replace BK259 := uD BK259 hb; have NB260_261 := uN1 BK260 hg; have NB261_260 := uN2 BK260 hg; replace BK260 := uD BK260 hb; clear hb hbox hg; have hnb7 := NB261_259.out; have hnc7 := NB259_261.out; have hnb8 := NB261_260.out; have hnc8 := NB260_261.out; have hcz9_0 : w6.cell? ⟨gb261, 0, none⟩ = some (.int .i64 0) := uF BK261 0; have hcz9_1 : w6.cell? ⟨gb261, 1, none⟩ = some (.slice none 0 0) := uF BK261 1; have hfz9_0 := blk_frozen BK261.out 0; have hfz9_1 := blk_frozen BK261.out 1))
 go_loopg [4] k (fun kq v4 w' => ∃ (x4_1 : Int) (x262001_1 : List (S58)) (u262001 : Value), v4 = .int .i64 x4_1 ∧ Aside0 (colloquylaw20_giveMon.l0 kq x4_1 a0_0 l0_1 a0_0 x262001_1 = some (r1, r2)) ∧ Aside0 (kq ≤ k) ∧ Aside0 (Kd.R k58 58 w' w.heap.size (fun _ => True) u262001 x262001_1) ∧ Aside0 (w'.heap[gb259]? = some (.cells #[.int .i64 a0_0, (.slice A0_1 l0_1.length c0_1)] 25 (0, 0))) ∧ Aside0 (w'.heap[gb260]? = some (.cells #[.int .i64 0, (.slice none 0 0)] 34 (0, 0))) ∧ Aside0 (w'.heap[gb261]? = some (.cells #[.int .i64 a0_0, u262001] 34 (0, 0))) ∧ Aside0 (Below w.heap.size w w'))
 case atStart => exact ⟨(0), (([] : List (S58))), (.slice none 0 0), (by first | rfl | (simp; done) | (simp [*]; done)), H', ⟨Nat.le_refl _⟩, ⟨by first | exact Kd.R_nil _ _ _ _ _ | exact Kd.N_nil _ _ _ _ _ | exact Kd.V_nil _ _ _ _ _ | exact Kd.Q_nil _ _ _ _ _ | exact Kd.S_nil _ _ _ _ _⟩, ⟨uZ BK259 NB259_261⟩, ⟨uZ BK260 NB260_261⟩, ⟨by (with_reducible repeat (first | refine blk_drewN ?_ _ | refine blk_drew ?_ | refine blk_alloc ?_ _)); refine blk_put (cs := #[.int .i64 a0_0, .slice none 0 0]) ?_ 1 _ rfl; (with_reducible repeat (first | refine blk_drewN ?_ _ | refine blk_drew ?_ | refine blk_alloc ?_ _)); refine blk_put (cs := #[.int .i64 0, .slice none 0 0]) ?_ 0 _ rfl; (with_reducible repeat (first | refine blk_drewN ?_ _ | refine blk_drew ?_ | refine blk_alloc ?_ _)); exact BK261.out⟩, ⟨uB3 HB GE259 GE260 GE261⟩⟩
 case round =>
 clear H'
 try clear p2
 try clear c4
 try clear c7
 try clear c8
 try clear hcz5_0
 try clear hcz5_1
 try clear hcz9_0
 try clear hcz9_1
 try clear hfz5_0
 try clear hfz5_1
 try clear hfz9_0
 try clear hfz9_1
 obtain ⟨x4_1, x262001_1, u262001, rfl, HA, HK1, HO_262001, BK259, BK260, BK261, HB⟩ := hrel
 cases gk with
 | zero => exact absurd HA.out (by simp [colloquylaw20_giveMon.l0])
 | succ k1 =>
 have H := HA.out
 clear HA
 simp only [colloquylaw20_giveMon.l0] at H
 by_cases c10 : x4_1 < (l0_1.length : Int)
 ·rw [if_pos c10] at H
  have c10b0 : decide (x4_1 < (l0_1.length : Int)) = true := decide_eq_true c10
  clear c10
  by_cases c11 : 0 ≤ x4_1
  ·rw [if_pos c11] at H
   have c11b0 : decide (0 ≤ x4_1) = true := decide_eq_true c11
   clear c11
   by_cases c12 : x262001_1.length < 5864062014805
   ·rw [if_pos c12] at H
    have LMc12 := Aside0.mk c12
    clear c12
    obtain ⟨y263, hy263⟩ : ∃ y_ : List (S58), y_ = (x262001_1 ++ [(⟨(rd_T62 l0_1 x4_1).f0, (rd_T62 l0_1 x4_1).f1, (rd_T62 l0_1 x4_1).f2⟩ : S58)]) := ⟨_, rfl⟩
    replace H : (colloquylaw20_giveMon.l0 k1 (wrap64 (x4_1 + 1)) a0_0 l0_1 a0_0 y263) = some (r1, r2) := by first | (rw [hy263]; with_reducible exact H) | (have H2_ := (Option.bind_some _ _).symm.trans H; rw [hy263]; with_reducible exact H2_) | (have H2_ := (Option.bind_some _ _).symm.trans H; with_reducible exact H2_) | with_reducible exact H | (rw [hy263]; exact H) | exact H
    have Ny263 := Aside0.mk hy263
    clear hy263
    have H' := Aside0.mk H
    clear H
    have hnb13 := NB259_260.out
    have hnc13 := NB260_259.out
    have hnb14 := NB259_261.out
    have hnc14 := NB261_259.out
    have hcz15_0 : wr.cell? ⟨gb259, 0, none⟩ = some (.int .i64 a0_0) := uF BK259 0
    have hcz15_1 : wr.cell? ⟨gb259, 1, none⟩ = some (.slice A0_1 l0_1.length c0_1) := uF BK259 1
    have hfz15_0 := blk_frozen BK259.out 0
    have hfz15_1 := blk_frozen BK259.out 1
    try go_wp2
    replace HO_262001 := Aside0.mk (Kd.R_drew HO_262001.out)
    replace BK259 := Aside0.mk (blk_drew BK259.out)
    replace BK260 := Aside0.mk (blk_drew BK260.out)
    replace BK261 := Aside0.mk (blk_drew BK261.out)
    replace HB := Aside0.mk (below_drew1 HB.out)
    have p262 : 0 ≤ (x4_1 : Int) := of_decide_eq_true (by first | (with_reducible assumption) | assumption)
    have q262 : x4_1 < (l0_1.length : Int) := of_decide_eq_true (by first | (with_reducible assumption) | assumption)
    obtain ⟨ad262, e262, hx262_0, hx262_1, hx262_2⟩ := at_T62 HR0_1.out x4_1 p262 q262
    have hw262_2 := hx262_2
    have hw262_1 := hx262_1
    have hw262_0 := hx262_0
    cases e262
    replace hx262_0 := (HB.out.cell (World.block_lt_of_cell? w _ hx262_0)).trans hx262_0
    replace hx262_1 := (HB.out.cell (World.block_lt_of_cell? w _ hx262_1)).trans hx262_1
    replace hx262_2 := (HB.out.cell (World.block_lt_of_cell? w _ hx262_2)).trans hx262_2
    replace p262 := eq_true p262
    replace q262 := eq_true q262
    refine start_ (n := 11) (S := fun w' => w'.cell? ⟨gb261, 0, none⟩ = some (.int .i64 a0_0) ∧ w'.cell? ⟨gb261, 1, none⟩ = some (u262001) ∧ w'.cell? ⟨gb259, 0, none⟩ = some (.int .i64 a0_0) ∧ w'.cell? ⟨gb259, 1, none⟩ = some (.slice (some ad262) l0_1.length c0_1) ∧ w'.cell? (ad262.add ((x4_1).toNat * 3)) = some (.int .i64 ((rd_T62 l0_1 x4_1).f0)) ∧ w'.cell? ⟨(ad262.add ((x4_1).toNat * 3)).block, (ad262.add ((x4_1).toNat * 3)).off + 1, none⟩ = some (.int .i64 ((rd_T62 l0_1 x4_1).f1)) ∧ w'.cell? ⟨(ad262.add ((x4_1).toNat * 3)).block, (ad262.add ((x4_1).toNat * 3)).off + 2, none⟩ = some (.int .i64 ((rd_T62 l0_1 x4_1).f2))) (ds := [10]) u_f11 (by kernel_rfl) rfl rfl ⟨uF BK261 0, uF BK261 1, uF BK259 0, uF BK259 1, ((HB.out.cell (World.block_lt_of_cell? w _ hw262_0)).trans hw262_0), ((HB.out.cell (World.block_lt_of_cell? w _ hw262_1)).trans hw262_1), ((HB.out.cell (World.block_lt_of_cell? w _ hw262_2)).trans hw262_2)⟩ (fun hHeld => ?_); refine with_tabW colloquylaw20_giveMon.tab5 colloquylaw20_giveMon.bits5 (fun HT_ HW_ => ?_)
    generalize wr.drew = w16 at HO_262001 BK259 BK260 BK261 HB hx262_0 hx262_1 hx262_2 hHeld ⊢
    refine uPu 0 15 u_t1f10 (v := ?_) (a' := ?_) rfl rfl HT_ ?_ ?_ ?_
    rotate_left
    ·intro w'
     go_simp
     with_reducible rfl
    rotate_left
    ·exact uP
    refine uPu 2 17 u_t1f1t1f8 (v := ?_) (a' := ?_) rfl rfl HT_ ?_ ?_ ?_
    rotate_left
    ·intro w'
     go_simp
     with_reducible rfl
    rotate_left
    ·exact uP
    refine uPu 4 19 u_t1f1t1f1t1f6 (v := ?_) (a' := ?_) rfl rfl HT_ ?_ ?_ ?_
    rotate_left
    ·intro w'
     go_simp
     with_reducible rfl
    rotate_left
    ·exact uP
    refine uTk 1 16 u_t3f1t1f6 (v := ?_) (a' := ?_) rfl rfl HT_ HW_ hHeld ?_ ?_ ?_
    rotate_left
    ·rintro w' ⟨s0, s1, s2, s3, s4, s5, s6⟩
     go_simp
     with_reducible rfl
    rotate_left
    ·exact uP
    refine uTk 3 18 u_t5f6 (v := ?_) (a' := ?_) rfl rfl HT_ HW_ hHeld ?_ ?_ ?_
    rotate_left
    ·rintro w' ⟨s0, s1, s2, s3, s4, s5, s6⟩
     go_simp
     with_reducible rfl
    rotate_left
    ·exact uP
    refine uPu 5 20 u_t6f5 (v := ?_) (a' := ?_) rfl rfl HT_ ?_ ?_ ?_
    rotate_left
    ·intro w'
     go_simp
     with_reducible rfl
    rotate_left
    ·exact uP
    refine uTk 6 21 u_t7f4 (v := ?_) (a' := ?_) rfl rfl HT_ HW_ hHeld ?_ ?_ ?_
    rotate_left
    ·rintro w' ⟨s0, s1, s2, s3, s4, s5, s6⟩
     go_simp
     with_reducible rfl
    rotate_left
    ·exact uP
    refine one_ (i := 7) (N := some 22) u_t8f3 rfl rfl (one_of HT_.out (by kernel_rfl)) (by decide) (fun K hK => ?_)
    refine value_ (w1 := ?_) (v := ?_) (by rfl) rfl ?_ ?_
    rotate_left 2
    ·go_simp
     constructor
     ·rfl
     rfl
    refine hK.out _ _ ⟨(blk_cell (blk_alloc BK261.out _) 0).trans rfl, (blk_cell (blk_alloc BK261.out _) 1).trans rfl, (blk_cell (blk_alloc BK259.out _) 0).trans rfl, (blk_cell (blk_alloc BK259.out _) 1).trans rfl, (World.cell?_alloc_lt _ _ _ (World.block_lt_of_cell? _ _ (((HB.out.cell (World.block_lt_of_cell? w _ hw262_0)).trans hw262_0)))).trans (((HB.out.cell (World.block_lt_of_cell? w _ hw262_0)).trans hw262_0)), (World.cell?_alloc_lt _ _ _ (World.block_lt_of_cell? _ _ (((HB.out.cell (World.block_lt_of_cell? w _ hw262_1)).trans hw262_1)))).trans (((HB.out.cell (World.block_lt_of_cell? w _ hw262_1)).trans hw262_1)), (World.cell?_alloc_lt _ _ _ (World.block_lt_of_cell? _ _ (((HB.out.cell (World.block_lt_of_cell? w _ hw262_2)).trans hw262_2)))).trans (((HB.out.cell (World.block_lt_of_cell? w _ hw262_2)).trans hw262_2))⟩ (fun hHeld => ?_)
    clear hK K
    refine norm_ (a' := ?_) ?_ ?_
    rotate_left
    ·show Act.put _ (some 22) _ = _
     exact uP
    refine one_ (i := 8) (N := some 23) u_t9f2 rfl rfl (one_of HT_.out (by kernel_rfl)) (by decide) (fun K hK => ?_)
    refine Kd.R_append_step k58 (w0 := w) w.heap.size (by rfl) (.tmp 16) (.tmp 22) 32 58 (.agg #[(.int .i64 0), (.int .i64 0), (.int .i64 0)]) 24 rfl Tryd.underlying32 info58 rfl (by decide) (by omega) u262001 x262001_1 (⟨(rd_T62 l0_1 x4_1).f0, (rd_T62 l0_1 x4_1).f1, (rd_T62 l0_1 x4_1).f2⟩ : S58) [.int .i64 ((rd_T62 l0_1 x4_1).f0), .int .i64 ((rd_T62 l0_1 x4_1).f1), .int .i64 ((rd_T62 l0_1 x4_1).f2)] (fun _ => True) (fun _ => False) rfl rfl ?aP (fun _ hk => hk.elim) ?aF ?aO ?aB ?aS ?aL ?_
    (case aP => exact k58_mkM _ _ _ (⟨(rd_T62 l0_1 x4_1).f0, (rd_T62 l0_1 x4_1).f1, (rd_T62 l0_1 x4_1).f2⟩ : S58))
    (case aB => exact (uB3 HB GE259 GE260 GE261))
    (case aF => exact (fun _ _ => trivial))
    (case aO => exact (uR HO_262001))
    (case aS => exact (below_size (uB3 HB GE259 GE260 GE261)))
    (case aL => have := LMc12.out; omega)
    intro v264 w17 ho hb hg hat
    rw [← Ny263.out] at ho
    replace BK259 := Aside0.mk (blk_grown (g := gb259) (o := .cells #[.int .i64 a0_0, .slice (some ad262) l0_1.length c0_1] 25 (0, 0)) (uK BK259) hg (Kd.R_ne HO_262001.out BK259.out (by decide)))
    replace BK260 := Aside0.mk (blk_grown (g := gb260) (o := .cells #[.int .i64 0, .slice none 0 0] 34 (0, 0)) (uK BK260) hg (Kd.R_ne HO_262001.out BK260.out (by decide)))
    replace BK261 := Aside0.mk (blk_grown (g := gb261) (o := .cells #[.int .i64 a0_0, u262001] 34 (0, 0)) (uK BK261) hg (Kd.R_ne HO_262001.out BK261.out (by decide)))
    replace HB := Aside0.mk (hb)
    have HO265 := Aside0.mk (ho)
    clear HO_262001
    clear ho hb hg hat
    obtain ⟨Ao18, co18, eo18⟩ := Kd.R_slice HO265.out
    (first | subst eo18 | (injection eo18 with f1_ f2_ f3_; have f4_ := f1_.symm; have f5_ := f3_.symm; clear f1_ f2_ f3_; subst f4_; subst f5_))
    refine hK.out _ _ ⟨uF BK261 0, uF BK261 1, uF BK259 0, uF BK259 1, ((HB.out.cell (World.block_lt_of_cell? w _ hw262_0)).trans hw262_0), ((HB.out.cell (World.block_lt_of_cell? w _ hw262_1)).trans hw262_1), ((HB.out.cell (World.block_lt_of_cell? w _ hw262_2)).trans hw262_2)⟩ (fun hHeld => ?_)
    clear hK K
    refine norm_ (a' := ?_) ?_ ?_
    rotate_left
    ·show Act.put _ (some 23) _ = _
     exact uP
    refine uPu 9 24 u_t10f1 (v := ?_) (a' := ?_) rfl rfl HT_ ?_ ?_ ?_
    rotate_left
    ·intro w'
     go_simp
     with_reducible rfl
    rotate_left
    ·exact uP
    refine last_ (i := 10) (N := none) u_t11 rfl rfl (one_of HT_.out (by kernel_rfl)) (by decide) (fun K hK => ?_)
    have hs19 : w17.cell? ⟨gb261, 1, none⟩ = some (u262001) := uF BK261 1
    have hfs19 := blk_frozen BK261.out 1
    have hns19_0 := NB259_261.out
    have hns19_1 := NB260_261.out
    have hms19_0 := NB261_259.out
    have hms19_1 := NB261_260.out
    refine skip_ (w1 := ?_) (by rfl) rfl ?_ ?_
    rotate_left
    ·go_simp
     rfl
    refine hK.out _ _ ?_
    clear hK K
    refine done_ (done_of HT_.out (by kernel_rfl)) ?_
    try go_wp2
    go_roundg k1
    case measure => have := HK1.out; omega
    case rel => exact ⟨(wrap64 (x4_1 + 1)), (y263), (.slice Ao18 y263.length co18), (by first | rfl | (simp; done) | (simp [*]; done)), H', ⟨by have := HK1.out; omega⟩, ⟨uT2 HO265 BK261 (fun _ hk => trivial)⟩, ⟨uZ BK259 NB259_261⟩, ⟨uZ BK260 NB260_261⟩, ⟨by (with_reducible repeat (first | refine blk_drewN ?_ _ | refine blk_drew ?_ | refine blk_alloc ?_ _)); refine blk_put (cs := #[.int .i64 a0_0, u262001]) ?_ 1 _ rfl; (with_reducible repeat (first | refine blk_drewN ?_ _ | refine blk_drew ?_ | refine blk_alloc ?_ _)); exact BK261.out⟩, ⟨uB3 HB GE259 GE260 GE261⟩⟩
   rw [if_neg c12] at H
   exact absurd H (by simp)
  rw [if_neg c11] at H
  exact absurd H (by simp)
 rw [if_neg c10] at H
 have c10b0 : decide (x4_1 < (l0_1.length : Int)) = false := decide_eq_false c10
 clear c10
 simp only [Option.some.injEq, Prod.mk.injEq] at H
 obtain ⟨rfl, rfl⟩ := H
 have hnb20 := NB259_260.out
 have hnc20 := NB260_259.out
 have hnb21 := NB259_261.out
 have hnc21 := NB261_259.out
 have hcz22_0 : wr.cell? ⟨gb259, 0, none⟩ = some (.int .i64 a0_0) := uF BK259 0
 have hcz22_1 : wr.cell? ⟨gb259, 1, none⟩ = some (.slice A0_1 l0_1.length c0_1) := uF BK259 1
 have hfz22_0 := blk_frozen BK259.out 0
 have hfz22_1 := blk_frozen BK259.out 1
 have hnb23 := NB261_260.out
 have hnc23 := NB260_261.out
 have hcz24_0 : wr.cell? ⟨gb261, 0, none⟩ = some (.int .i64 a0_0) := uF BK261 0
 have hcz24_1 : wr.cell? ⟨gb261, 1, none⟩ = some (u262001) := uF BK261 1
 have hfz24_0 := blk_frozen BK261.out 0
 have hfz24_1 := blk_frozen BK261.out 1
 have hcz25_0 : wr.cell? ⟨gb260, 0, none⟩ = some (.int .i64 0) := uF BK260 0
 have hcz25_1 : wr.cell? ⟨gb260, 1, none⟩ = some (.slice none 0 0) := uF BK260 1
 have hfz25_0 := blk_frozen BK260.out 0
 have hfz25_1 := blk_frozen BK260.out 1
 obtain ⟨Ao26, co26, eo26⟩ := Kd.R_slice HO_262001.out
 subst eo26
 go_wp2
 refine bodyPost_ret (results_cell_row rfl _ _ gb260 34 #[.int .i64 a0_0, .slice Ao26 x262001_1.length co26] (0, 0) _ rfl (by (with_reducible repeat (first | refine blk_drewN ?_ _ | refine blk_drew ?_ | refine blk_alloc ?_ _)); refine blk_put (cs := #[.int .i64 a0_0, .slice none 0 0]) ?_ 1 _ rfl; (with_reducible repeat (first | refine blk_drewN ?_ _ | refine blk_drew ?_ | refine blk_alloc ?_ _)); refine blk_put (cs := #[.int .i64 0, .slice none 0 0]) ?_ 0 _ rfl; (with_reducible repeat (first | refine blk_drewN ?_ _ | refine blk_drew ?_ | refine blk_alloc ?_ _)); exact BK260.out) Tryd.underlying34 rfl (by kernel_rfl)) rfl ?_
 exact ⟨_, by first | rfl | (simp [errW_none, errW_some] <;> rfl) | (simp [*, errW_none, errW_some] <;> rfl), by (with_reducible repeat (first | apply Kd.R_alloc | apply Kd.R_drewN | apply Kd.R_drew)); exact Kd.R_mono (Kd.R_far (p := ⟨gb260, 1, none⟩) (Kd.R_far (p := ⟨gb260, 0, none⟩) (Kd.R_types HO_262001.out BK260.out (by decide)) (fun _ hk => hk.2) (.int .i64 a0_0)) (fun _ hk => hk.2) (.slice Ao26 x262001_1.length co26)) (fun _ hk => trivial), uB3 HB GE259 GE260 GE261⟩

end Go.Proofs.YtodfomkhhfcnhaaDoor.PMonBack
