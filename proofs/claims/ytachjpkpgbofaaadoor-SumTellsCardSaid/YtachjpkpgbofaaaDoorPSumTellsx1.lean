/- The functions that the law reaches, as plain functions of lists and numbers, and that a call of the Go code comes to just their answers; laid by this repo's own program over the seat's translation. Conditions: each contract's own premises. -/
import Derived.Test.YtachjpkpgbofaaaDoorPSumTellsx0
namespace Go.Proofs.YtachjpkpgbofaaaDoor.PSumTells
open Go.RowKit Go.Proofs.YtachjpkpgbofaaaDoorW.PrintWords Go.Proofs.YtachjpkpgbofaaaDoorW.PrintLast Go.Proofs.YtachjpkpgbofaaaDoorW.PrintMore
attribute [local go_sem] max2_int min2_int max_two min_two max_three min_three max_four min_four   -- for this text's walks alone
set_option linter.unusedVariables false
set_option linter.unusedSimpArgs false

-- NOT PRINTED: function 16 (slices_Chunk_byte_byte)

/-! ### sum_Of: function 9 -/
def sum_Of.f (l0 : List (List Int)) : Option (Int) := if (l0.all fun p => decide (p.length ≤ 140737488351232)) = true then some (Go.Proofs.YtachjpkpgbofaaaDoor.Chunk.ofS l0) else none
theorem sum_Of.calls (A0 : Option Addr) (c0 : Nat) (l0 : List (List Int)) (r : Int) (w : World) (hr0 : Kd.C (Kd.slice 5 (Kd.int .u8)) w A0 l0.length l0) (hc0 : l0.length ≤ c0) (h : sum_Of.f l0 = some r) :
  Calls Tryd.prog 9 #[.slice A0 l0.length c0] w fun e w' => e = .returned (.int .u32 r) ∧ Below w.heap.size w w' := by
 unfold sum_Of.f at h
 split at h
 ·rename_i hp
  obtain rfl := Option.some.inj h
  exact Go.Proofs.YtachjpkpgbofaaaDoor.Chunk.of_calls A0 c0 l0 w hr0 hc0 (fun p hm => by simpa using List.all_eq_true.1 hp p hm)
 cases h

/-! ### slices_Clone_byte_byte: function 14 -/
def slices_Clone_byte_byte.f (l0 : List Int) : Option (List Int) := (some (([] : List Int) : List Int)).bind fun y101 => (if y101.length + l0.length < 140737488355328 then (some (y101 ++ l0)) else (none))
set_option maxHeartbeats 8000000 in
set_option maxRecDepth 100000 in
theorem slices_Clone_byte_byte.calls_some (ad0_ : Addr) (c0 : Nat) (l0 : List Int) (r : List Int) (w : World) (hr0 : Kd.C (Kd.int .u8) w (some ad0_) l0.length l0) (hc0 : l0.length ≤ c0) (h : slices_Clone_byte_byte.f l0 = some r) :
  Calls Tryd.prog 14 #[.slice (some ad0_) l0.length c0] w fun e w' => ∃ v0_ : Value, e = .returned (v0_) ∧ Kd.R (Kd.int .u8) 5 w' w.heap.size (fun _ => True) v0_ r ∧ Below w.heap.size w w' := by
 have HR0 := Aside0.mk hr0
 have HC0 := Aside0.mk hc0
 clear hr0 hc0
 have HB := Aside0.mk (Below.refl w.heap.size w)
 have H : ((some (([] : List Int) : List Int)).bind fun y101 => (if y101.length + l0.length < 140737488355328 then (some (y101 ++ l0)) else (none))) = some r := h
 clear h
 obtain ⟨y101, hy101⟩ : ∃ y_ : List Int, y_ = (([] : List Int)) := ⟨_, rfl⟩
 replace H : (if y101.length + l0.length < 140737488355328 then (some (y101 ++ l0)) else (none)) = some r := by first | (rw [hy101]; with_reducible exact H) | (have H2_ := (Option.bind_some _ _).symm.trans H; rw [hy101]; with_reducible exact H2_) | (have H2_ := (Option.bind_some _ _).symm.trans H; with_reducible exact H2_) | with_reducible exact H | (rw [hy101]; exact H) | exact H
 have Ny101 := Aside0.mk hy101
 clear hy101
 by_cases c2 : y101.length + l0.length < 140737488355328
 ·rw [if_pos c2] at H
  have LMc2 := Aside0.mk c2
  clear c2
  obtain ⟨y104, hy104⟩ : ∃ y_ : List Int, y_ = (y101 ++ l0) := ⟨_, rfl⟩
  replace H : (some y104) = some r := by first | (rw [hy104]; with_reducible exact H) | (have H2_ := (Option.bind_some _ _).symm.trans H; rw [hy104]; with_reducible exact H2_) | (have H2_ := (Option.bind_some _ _).symm.trans H; with_reducible exact H2_) | with_reducible exact H | (rw [hy104]; exact H) | exact H
  have Ny104 := Aside0.mk hy104
  clear hy104
  obtain rfl := Option.some.inj H
  have qn_ : ∀ (w : World) (a : Option Addr) (n c n' c' : Nat), (binOp .eql 22 (.slice a n c) (.slice none n' c')).run Tryd.prog w = .ok (.bool a.isNone) w := fun w a n c n' c' => Lib.run_eql_slice_nil w _ _ a n c n' c' Tryd.underlying22
  go_enter Tryd.func14, Tryd.ntmps14
  try simp only [List.append_eq, List.cons_append, List.nil_append]
  go_wp2_with (first | ((with_reducible refine gate_dst (N := 5) rfl ?_); refine Kd.R_lit (Kd.int .u8) _ 5 ?hg (N := 5) ?hd (xs := ([] : List Int)) (inner := []) (ok := fun _ => True) (okp := fun _ => True) ?hr ?hp (fun _ hk => hk) trivial (Below.refl _ _) (Nat.le_refl _) (by simp) ?_; (case hd => rfl); (case hg => rfl); (case hr => first | (go_simp; done) | (go_simp; rfl)); (case hp => exact (Reps.none _ _)); intro v102 w3 ho4 hb hg_ hnew_; clear hg_ hnew_; (first | rw [← Ny101.out] at ho4 | (simp only [Int.reduceToNat] at ho4; rw [← Ny101.out] at ho4)); have HO103 := Aside0.mk (Kd.R_lower ho4 (below_size (uB0 HB))); replace HB := Aside0.mk (below_step (uB0 HB) hb); clear hb ho4) | ((with_reducible refine gate_builtin (b := .append) (xs := #[.tmp 5, .tmp 6]) rfl ?_); at_builtin; refine Kd.R_append_rows (Kd.int .u8) (w0 := w) w.heap.size rfl (.tmp 5) (.tmp 6) 22 5 (.int .u8 0) 1 rfl Tryd.underlying22 info5 rfl (by decide) (by omega) v102 y101 l0 _ _ _ (fun _ => True) (fun _ => False) rfl rfl ?aO ?aR (fun _ _ h => h) (fun _ h => h.elim) ?aF ?aB ?aS ?aL ?_; (case aR => exact uS (Kd.C_below HR0.out HB.out)); (case aB => exact (uB0 HB)); (case aF => exact (fun _ _ => trivial)); (case aO => exact (uR HO103)); (case aS => exact (below_size (uB0 HB))); (case aL => have := LMc2.out; omega); intro v105 w5 ho hb hg hat; rw [← Ny104.out] at ho; replace HB := Aside0.mk (hb); have HO106 := Aside0.mk (ho); clear HO103; clear ho hb hg hat))
  go_ret
  exact ⟨_, by first | rfl | (simp [errW_none, errW_some] <;> rfl) | (simp [*, errW_none, errW_some] <;> rfl), uR HO106, uB0 HB⟩
 rw [if_neg c2] at H
 exact absurd H (by simp)

set_option maxHeartbeats 8000000 in
theorem slices_Clone_byte_byte.calls (A0 : Option Addr) (c0 : Nat) (l0 : List Int) (r : List Int) (w : World) (hr0 : Kd.C (Kd.int .u8) w A0 l0.length l0) (hc0 : l0.length ≤ c0) (h : slices_Clone_byte_byte.f l0 = some r) :
  Calls Tryd.prog 14 #[.slice A0 l0.length c0] w fun e w' => ∃ v0_ : Value, e = .returned (v0_) ∧ Kd.R (Kd.int .u8) 5 w' w.heap.size (fun _ => True) v0_ r ∧ Below w.heap.size w w' := by
 cases A0 with
 | some ad0_ => exact slices_Clone_byte_byte.calls_some ad0_ c0 l0 r w hr0 hc0 h
 | none =>
  have e0 : l0 = [] := by
   cases l0 with
   | nil => rfl
   | cons x xs =>
    obtain ⟨ad, e, _⟩ := hr0.2.2 (by simp)
    simp at e
  subst e0
  have hr_ : r = [] := by
   have h2 := h
   simp [slices_Clone_byte_byte.f] at h2
   exact h2
  subst hr_
  clear h hr0
  have qn_ : ∀ (w : World) (a : Option Addr) (n c n' c' : Nat), (binOp .eql 22 (.slice a n c) (.slice none n' c')).run Tryd.prog w = .ok (.bool a.isNone) w := fun w a n c n' c' => Lib.run_eql_slice_nil w _ _ a n c n' c' Tryd.underlying22
  go_enter Tryd.func14, Tryd.ntmps14
  go_wp2
  go_ret
  exact ⟨_, rfl, Kd.R_nil _ _ _ _ _, Below.refl _ _⟩

/-! ### sum_Seal: function 11 -/
def sum_Seal.f (l0 : List Int) : Option (List Int) := (sum_Of.f (([l0] : List (List Int)))).bind fun t110 => ((slices_Clone_byte_byte.f l0).bind fun t111 => ((some (([(t110 / 16777216) % 256, (t110 / 65536) % 256, (t110 / 256) % 256, (t110) % 256] : List Int) : List Int)).bind fun y114 => (if t111.length + y114.length < 140737488355328 then (some (t111 ++ y114)) else (none))))
set_option maxHeartbeats 8000000 in
set_option maxRecDepth 100000 in
theorem sum_Seal.calls (P0_ : Nat → Prop) (A0 : Option Addr) (c0 : Nat) (l0 : List Int) (r : List Int) (w : World) (hs0 : Kd.V (Kd.int .u8) 5 w w.heap.size (fun k_ => P0_ k_) (.slice A0 l0.length c0) l0) (h : sum_Seal.f l0 = some r) :
  Calls Tryd.prog 11 #[.slice A0 l0.length c0] w fun e w' => ∃ v0_ : Value, e = .returned (v0_) ∧ Kd.R (Kd.int .u8) 5 w' w.heap.size (fun k_ => (w.heap.size ≤ k_)) v0_ r ∧ Below w.heap.size w w' := by
 have HO0 := Aside0.mk (show Kd.V (Kd.int .u8) 5 w w.heap.size (fun k_ => (P0_ k_ ∨ w.heap.size ≤ k_)) (.slice A0 l0.length c0) l0 from Kd.V_mono hs0 (fun k_ hk => .inl hk))
 have HB := Aside0.mk (Below.refl w.heap.size w)
 have H : ((sum_Of.f (([l0] : List (List Int)))).bind fun t110 => ((slices_Clone_byte_byte.f l0).bind fun t111 => ((some (([(t110 / 16777216) % 256, (t110 / 65536) % 256, (t110 / 256) % 256, (t110) % 256] : List Int) : List Int)).bind fun y114 => (if t111.length + y114.length < 140737488355328 then (some (t111 ++ y114)) else (none))))) = some r := h
 clear h
 obtain ⟨y107, hy107⟩ : ∃ y_ : List (List Int), y_ = (([l0] : List (List Int))) := ⟨_, rfl⟩
 replace H : ((sum_Of.f y107).bind fun t110 => ((slices_Clone_byte_byte.f l0).bind fun t111 => ((some (([(t110 / 16777216) % 256, (t110 / 65536) % 256, (t110 / 256) % 256, (t110) % 256] : List Int) : List Int)).bind fun y114 => (if t111.length + y114.length < 140737488355328 then (some (t111 ++ y114)) else (none))))) = some r := by first | (rw [hy107]; with_reducible exact H) | (have H2_ := (Option.bind_some _ _).symm.trans H; rw [hy107]; with_reducible exact H2_) | (have H2_ := (Option.bind_some _ _).symm.trans H; with_reducible exact H2_) | with_reducible exact H | (rw [hy107]; exact H) | exact H
 have Ny107 := Aside0.mk hy107
 clear hy107
 replace H := Option.bind_eq_some_iff.mp H
 obtain ⟨t110, A20, H⟩ := H
 replace H : ((slices_Clone_byte_byte.f l0).bind fun t111 => ((some (([(t110 / 16777216) % 256, (t110 / 65536) % 256, (t110 / 256) % 256, (t110) % 256] : List Int) : List Int)).bind fun y114 => (if t111.length + y114.length < 140737488355328 then (some (t111 ++ y114)) else (none)))) = some r := H
 have A2 := Aside0.mk A20
 clear A20
 replace H := Option.bind_eq_some_iff.mp H
 obtain ⟨t111, A30, H⟩ := H
 replace H : ((some (([(t110 / 16777216) % 256, (t110 / 65536) % 256, (t110 / 256) % 256, (t110) % 256] : List Int) : List Int)).bind fun y114 => (if t111.length + y114.length < 140737488355328 then (some (t111 ++ y114)) else (none))) = some r := H
 have A3 := Aside0.mk A30
 clear A30
 obtain ⟨y114, hy114⟩ : ∃ y_ : List Int, y_ = (([(t110 / 16777216) % 256, (t110 / 65536) % 256, (t110 / 256) % 256, (t110) % 256] : List Int)) := ⟨_, rfl⟩
 replace H : (if t111.length + y114.length < 140737488355328 then (some (t111 ++ y114)) else (none)) = some r := by first | (rw [hy114]; with_reducible exact H) | (have H2_ := (Option.bind_some _ _).symm.trans H; rw [hy114]; with_reducible exact H2_) | (have H2_ := (Option.bind_some _ _).symm.trans H; with_reducible exact H2_) | with_reducible exact H | (rw [hy114]; exact H) | exact H
 have Ny114 := Aside0.mk hy114
 clear hy114
 by_cases c4 : t111.length + y114.length < 140737488355328
 ·rw [if_pos c4] at H
  have LMc4 := Aside0.mk c4
  clear c4
  obtain ⟨y117, hy117⟩ : ∃ y_ : List Int, y_ = (t111 ++ y114) := ⟨_, rfl⟩
  replace H : (some y117) = some r := by first | (rw [hy117]; with_reducible exact H) | (have H2_ := (Option.bind_some _ _).symm.trans H; rw [hy117]; with_reducible exact H2_) | (have H2_ := (Option.bind_some _ _).symm.trans H; with_reducible exact H2_) | with_reducible exact H | (rw [hy117]; exact H) | exact H
  have Ny117 := Aside0.mk hy117
  clear hy117
  obtain rfl := Option.some.inj H
  go_enter Tryd.func11, Tryd.ntmps11
  try simp only [List.append_eq, List.cons_append, List.nil_append]
  go_wp2_with (first | ((with_reducible refine gate_dst (N := 5) rfl ?_); refine Kd.N_lit (Kd.slice 5 (Kd.int .u8)) _ 22 ?hg (N' := 5) ?hd (xs := ([l0] : List (List Int))) (inner := [.slice A0 l0.length c0]) (ok := (fun k_ => (P0_ k_ ∨ w.heap.size ≤ k_))) (okp := (fun k_ => (P0_ k_ ∨ w.heap.size ≤ k_))) ?hr ?hp (fun _ hk => hk) ((show ∀ k_, w.heap.size ≤ k_ → (fun k_ => (P0_ k_ ∨ w.heap.size ≤ k_)) k_ from fun k_ hk => (.inr (Nat.le_trans (below_size (uB0 HB)) hk))) _ (Nat.le_refl _)) (Below.refl _ _) (Nat.le_refl _) (by simp) ?_; (case hd => rfl); (case hg => rfl); (case hr => first | (go_simp; done) | (go_simp; rfl)); (case hp => exact (Reps.one (show Kd.FK (Kd.slice 5 (Kd.int .u8)) _ _ l0 [.slice A0 l0.length c0] from (Kd.FK_slice_mk (Kd.V_reads' (Kd.V_mono (e := 0) (base := 0) (ok' := (fun k_ => (P0_ k_ ∨ w.heap.size ≤ k_))) (HO0.out) (fun k_ hk => hk))).2.1 (Kd.V_F (Kd.V_mono (e := 0) (base := 0) (ok' := (fun k_ => (P0_ k_ ∨ w.heap.size ≤ k_))) (HO0.out) (fun k_ hk => hk))))) (Reps.none _ _))); intro v108 w5 ho6 hb hg_ hnew_; clear hg_ hnew_; (first | rw [← Ny107.out] at ho6 | (simp only [Int.reduceToNat] at ho6; rw [← Ny107.out] at ho6)); replace HO0 := Aside0.mk (Kd.V_elder' (uV HO0) (Kd.N_base ho6) hb); have HO109 := Aside0.mk (Kd.N_lower ho6 (below_size (uB0 HB))); replace HB := Aside0.mk (below_step (uB0 HB) hb); clear hb ho6; obtain ⟨Ao7, co7, eo7⟩ := Kd.N_slice HO109.out; subst eo7) | ((with_reducible refine gate_callee (f := 9) rfl ?_); refine goesL_ (some 6) rfl rfl Tryd.func9 (by kernel_rfl) rfl #[.slice Ao7 y107.length co7] rfl uC ?_; (with_reducible refine (sum_Of.calls _ _ y107 t110 _ ?side1 ?side2 A2.out).mono ?_); (case side1 => exact uS (Kd.N_reads' HO109.out).2.2); (case side2 => exact (Kd.N_reads' HO109.out).2.1); rintro e w8 ⟨rfl, hb⟩; refine ⟨_, rfl, ?_⟩; replace HO0 := Aside0.mk (Kd.V_below (uV HO0) hb); replace HO109 := Aside0.mk (Kd.N_below (uN HO109) hb); replace HB := Aside0.mk (below_step (uB0 HB) hb); (try clear hb); (try clear hb2); (try clear hk); (try clear hi)) | ((with_reducible refine gate_callee (f := 14) rfl ?_); refine goesL_ (some 8) rfl rfl Tryd.func14 (by kernel_rfl) rfl #[.slice A0 l0.length c0] rfl uC ?_; (with_reducible refine (slices_Clone_byte_byte.calls _ _ l0 t111 _ ?side1 ?side2 A3.out).mono ?_); (case side1 => exact uS (Kd.V_reads' HO0.out).2.2); (case side2 => exact (Kd.V_reads' HO0.out).2.1); rintro e w9 ⟨v112, rfl, ho0, hb⟩; refine ⟨_, rfl, ?_⟩; replace HO0 := Aside0.mk (Kd.V_elder' (uV HO0) (Kd.R_base ho0) hb); have HO113 := Aside0.mk (Kd.R_lower (Kd.R_newM (M := fun k_ => (w.heap.size ≤ k_)) ho0 (below_size (uB0 HB)) (fun k_ h_ => h_)) (below_size (uB0 HB))); replace HB := Aside0.mk (below_step (uB0 HB) hb); (try clear hb); (try clear hb2); (try clear hk); (try clear hi); (try clear ho0)) | ((with_reducible refine gate_dst (N := 20) rfl ?_); refine Kd.R_lit (Kd.int .u8) _ 5 ?hg (N := 20) ?hd (xs := ([(t110 / 16777216) % 256, (t110 / 65536) % 256, (t110 / 256) % 256, (t110) % 256] : List Int)) (inner := [.int .u8 ((t110 / 16777216) % 256), .int .u8 ((t110 / 65536) % 256), .int .u8 ((t110 / 256) % 256), .int .u8 ((t110) % 256)]) (ok := fun _ => True) (okp := fun _ => True) ?hr ?hp (fun _ hk => hk) trivial (Below.refl _ _) (Nat.le_refl _) (by simp) ?_; (case hd => rfl); (case hg => rfl); (case hr => first | (go_simp; done) | (go_simp; rfl)); (case hp => exact (Reps.one (show Kd.M (Kd.int .u8) _ _ _ ((t110 / 16777216) % 256) [.int .u8 ((t110 / 16777216) % 256)] from rfl) (Reps.one (show Kd.M (Kd.int .u8) _ _ _ ((t110 / 65536) % 256) [.int .u8 ((t110 / 65536) % 256)] from rfl) (Reps.one (show Kd.M (Kd.int .u8) _ _ _ ((t110 / 256) % 256) [.int .u8 ((t110 / 256) % 256)] from rfl) (Reps.one (show Kd.M (Kd.int .u8) _ _ _ ((t110) % 256) [.int .u8 ((t110) % 256)] from rfl) (Reps.none _ _)))))); intro v115 w10 ho11 hb hg_ hnew_; clear hg_ hnew_; (first | rw [← Ny114.out] at ho11 | (simp only [Int.reduceToNat] at ho11; rw [← Ny114.out] at ho11)); have HO116 := Aside0.mk (Kd.R_lower (Kd.R_new' (Kd.R_newM (M := fun k_ => (w.heap.size ≤ k_)) ho11 (below_size (uB0 HB)) (fun k_ h_ => h_)) (Kd.R_lt (uR HO113))) (below_size (uB0 HB))); replace HO113 := Aside0.mk (Kd.R_elder' (uR HO113) (Kd.R_base ho11) hb); replace HB := Aside0.mk (below_step (uB0 HB) hb); clear hb ho11; obtain ⟨Ao13, co13, eo13⟩ := Kd.R_slice HO116.out; subst eo13) | ((with_reducible refine gate_builtin (b := .append) (xs := #[.tmp 8, .tmp 20]) rfl ?_); at_builtin; refine Kd.R_append_rows (Kd.int .u8) (w0 := w) w.heap.size rfl (.tmp 8) (.tmp 20) 22 5 (.int .u8 0) 1 rfl Tryd.underlying22 info5 rfl (by decide) (by omega) v112 t111 y114 _ _ _ (fun k_ => (w.heap.size ≤ k_) ∧ some k_ ≠ (.slice Ao13 y114.length co13 : Value).ownBlock) (fun _ => False) rfl rfl ?aO ?aR (fun _ _ h => h) (fun _ h => h.elim) ?aF ?aB ?aS ?aL ?_; (case aR => exact uS (Kd.R_reads' HO116.out).2.2); (case aB => exact (uB0 HB)); (case aF => exact (fun k_ hk => ⟨(Nat.le_trans (below_size (uB0 HB)) hk), Kd.fresh' (Kd.R_lt (uR HO116)) k_ hk⟩)); (case aO => exact (by (with_reducible repeat (first | apply Kd.R_alloc | apply Kd.R_drewN | apply Kd.R_drew)); exact Kd.R_mono HO113.out (fun _ hk => ⟨hk.1.1, hk.2⟩))); (case aS => exact (below_size (uB0 HB))); (case aL => have := LMc4.out; omega); intro v118 w12 ho hb hg hat; rw [← Ny117.out] at ho; replace HO116 := Aside0.mk (Kd.R_after (ok := (fun k_ => (w.heap.size ≤ k_))) (by (with_reducible repeat (first | apply Kd.R_alloc | apply Kd.R_drewN | apply Kd.R_drew)); exact Kd.R_mono HO116.out (fun _ hk => ⟨hk.1.1, hk.2⟩)) hg hat); replace HB := Aside0.mk (hb); have HO119 := Aside0.mk (ho); clear HO113; clear ho hb hg hat))
  go_ret
  exact ⟨_, by first | rfl | (simp [errW_none, errW_some] <;> rfl) | (simp [*, errW_none, errW_some] <;> rfl), by (with_reducible repeat (first | apply Kd.R_alloc | apply Kd.R_drewN | apply Kd.R_drew)); exact Kd.R_mono HO119.out (fun _ hk => hk.1), uB0 HB⟩
 rw [if_neg c4] at H
 exact absurd H (by simp)

/-! ### slices_Equal_byte_byte: function 15 -/
def slices_Equal_byte_byte.l0 : Nat → List Int → List Int → Int → Int → Option (Bool)
 | 0, _, _, _, _ => none
 | k + 1, x0, x1, x12, x13 => if x13 < x12 then (if 0 ≤ x13 then (if x13 < (x0.length : Int) then (if x13 < (x1.length : Int) then (if (rd x0 x13) = (rd x1 x13) then (slices_Equal_byte_byte.l0 k x0 x1 x12 (wrap64 (x13 + 1))) else (some false)) else (none)) else (none)) else (none)) else (some true)
def slices_Equal_byte_byte.f (k : Nat) (l0 : List Int) (l1 : List Int) : Option (Bool) := if (l0.length : Int) = (l1.length : Int) then (slices_Equal_byte_byte.l0 k l0 l1 (l0.length : Int) 0) else (some false)
theorem slices_Equal_byte_byte.mono_l : ∀ k, (∀ y0 y1 y2 y3, LeO (slices_Equal_byte_byte.l0 k y0 y1 y2 y3) (slices_Equal_byte_byte.l0 (k + 1) y0 y1 y2 y3))
 | 0 => fun _ _ _ _ r h => by simp [slices_Equal_byte_byte.l0] at h
 | k + 1 => by
  have ih0 := slices_Equal_byte_byte.mono_l k
  intro y0 y1 y2 y3
  unfold slices_Equal_byte_byte.l0
  repeat' first
  | (with_reducible exact ih0 _ _ _ _)
  | (with_reducible exact LeO.refl _)
  | (with_reducible exact LeO.none _)
  | (with_reducible refine LeO.ite ?_ ?_)
  | (with_reducible refine LeO.bind ?_ (fun _ => ?_))
  | exact ih0 _ _ _ _
  | exact LeO.none _
  | refine LeO.ite ?_ ?_
  | refine LeO.bind ?_ (fun _ => ?_)
theorem slices_Equal_byte_byte.mono : ∀ a0 a1 k, LeO (slices_Equal_byte_byte.f k a0 a1) (slices_Equal_byte_byte.f (k + 1) a0 a1) := by
 intro a0 a1 k
 have ih0 := slices_Equal_byte_byte.mono_l k
 unfold slices_Equal_byte_byte.f
 repeat' first
   | (with_reducible exact ih0 _ _ _ _)
   | (with_reducible exact LeO.refl _)
   | (with_reducible exact LeO.none _)
   | (with_reducible refine LeO.ite ?_ ?_)
   | (with_reducible refine LeO.bind ?_ (fun _ => ?_))
   | exact ih0 _ _ _ _
   | exact LeO.none _
   | refine LeO.ite ?_ ?_
   | refine LeO.bind ?_ (fun _ => ?_)
set_option maxHeartbeats 8000000 in
set_option maxRecDepth 100000 in
theorem slices_Equal_byte_byte.calls (k : Nat) (A0 : Option Addr) (c0 : Nat) (l0 : List Int) (A1 : Option Addr) (c1 : Nat) (l1 : List Int) (r : Bool) (w : World) (hr0 : Kd.C (Kd.int .u8) w A0 l0.length l0) (hc0 : l0.length ≤ c0) (hr1 : Kd.C (Kd.int .u8) w A1 l1.length l1) (hc1 : l1.length ≤ c1) (h : slices_Equal_byte_byte.f k l0 l1 = some r) :
  Calls Tryd.prog 15 #[.slice A0 l0.length c0, .slice A1 l1.length c1] w fun e w' => e = .returned (.bool r) ∧ Drawn0 w w' := by
 have HR0 := Aside0.mk hr0
 have HC0 := Aside0.mk hc0
 clear hr0 hc0
 have HR1 := Aside0.mk hr1
 have HC1 := Aside0.mk hc1
 clear hr1 hc1
 have H : (if (l0.length : Int) = (l1.length : Int) then (slices_Equal_byte_byte.l0 k l0 l1 (l0.length : Int) 0) else (some false)) = some r := h
 clear h
 by_cases c3 : (l0.length : Int) = (l1.length : Int)
 ·rw [if_pos c3] at H
  have c3b0 : ((l0.length : Int) == (l1.length : Int)) = true := beq_iff_eq.mpr c3
  have c3b1 : ((l0.length : Int) != (l1.length : Int)) = false := bne_eq_false_iff_eq.mpr c3
  have c3b2 : (l0.length == l1.length) = true := by first | simpa using c3 | (simp at c3 ⊢; omega)
  clear c3
  have H' := Aside0.mk H
  clear H
  go_enter Tryd.func15, Tryd.ntmps15
  go_wp2
  repeat (go_quiet (fail); try go_wp2)
  go_loopg [13] k (fun kq v13 w' => ∃ (x13_1 : Int), v13 = .int .i64 x13_1 ∧ Aside0 (slices_Equal_byte_byte.l0 kq l0 l1 (l0.length : Int) x13_1 = some r) ∧ Aside0 (kq ≤ k) ∧ Drawn0 w w')
  case atStart => exact ⟨(0), (by first | rfl | (simp; done) | (simp [*]; done)), H', ⟨Nat.le_refl _⟩, by repeat (first | exact Drawn0.refl _ | apply Drawn0.step)⟩
  case round =>
   clear H'
   try clear c1
   try clear p2
   try clear c3
   try clear c3b0
   try clear c3b1
   try clear c3b2
   obtain ⟨x13_1, rfl, HA, HK1, ⟨m1, rfl⟩⟩ := hrel
   cases gk with
   | zero => exact absurd HA.out (by simp [slices_Equal_byte_byte.l0])
   | succ k1 =>
    have H := HA.out
    clear HA
    simp only [slices_Equal_byte_byte.l0] at H
    by_cases c4 : x13_1 < (l0.length : Int)
    ·rw [if_pos c4] at H
     have c4b0 : decide (x13_1 < (l0.length : Int)) = true := decide_eq_true c4
     clear c4
     by_cases c5 : 0 ≤ x13_1
     ·rw [if_pos c5] at H
      have c5b0 : decide (0 ≤ x13_1) = true := decide_eq_true c5
      clear c5
      by_cases c6 : x13_1 < (l0.length : Int)
      ·rw [if_pos c6] at H
       have c6b0 : decide (x13_1 < (l0.length : Int)) = true := decide_eq_true c6
       clear c6
       by_cases c7 : x13_1 < (l1.length : Int)
       ·rw [if_pos c7] at H
        have c7b0 : decide (x13_1 < (l1.length : Int)) = true := decide_eq_true c7
        clear c7
        by_cases c8 : (rd l0 x13_1) = (rd l1 x13_1)
        ·rw [if_pos c8] at H
         have c8b0 : ((rd l0 x13_1) == (rd l1 x13_1)) = true := beq_iff_eq.mpr c8
         have c8b1 : ((rd l0 x13_1) != (rd l1 x13_1)) = false := bne_eq_false_iff_eq.mpr c8
         clear c8
         have H' := Aside0.mk H
         clear H
         have p120 : 0 ≤ (x13_1 : Int) := of_decide_eq_true (by first | (with_reducible assumption) | assumption)
         have q120 : x13_1 < (l0.length : Int) := of_decide_eq_true (by first | (with_reducible assumption) | assumption)
         obtain ⟨ad120, e120, hx120_0⟩ := Kd.at_int HR0.out x13_1 p120 q120
         cases e120
         replace p120 := eq_true p120
         replace q120 := eq_true q120
         have p121 : 0 ≤ (x13_1 : Int) := of_decide_eq_true (by first | (with_reducible assumption) | assumption)
         have q121 : x13_1 < (l1.length : Int) := of_decide_eq_true (by first | (with_reducible assumption) | assumption)
         obtain ⟨ad121, e121, hx121_0⟩ := Kd.at_int HR1.out x13_1 p121 q121
         cases e121
         replace p121 := eq_true p121
         replace q121 := eq_true q121
         go_wp2
         repeat (go_quiet (fail); try go_wp2)
         go_roundg k1
         case measure => have := HK1.out; omega
         case rel => exact ⟨(wrap64 (x13_1 + 1)), (by first | rfl | (simp; done) | (simp [*]; done)), H', ⟨by have := HK1.out; omega⟩, by repeat (first | exact Drawn0.refl _ | apply Drawn0.step)⟩
        rw [if_neg c8] at H
        have c8b0 : ((rd l0 x13_1) == (rd l1 x13_1)) = false := beq_eq_false_iff_ne.mpr c8
        have c8b1 : ((rd l0 x13_1) != (rd l1 x13_1)) = true := bne_iff_ne.mpr c8
        obtain rfl := Option.some.inj H
        have p120 : 0 ≤ (x13_1 : Int) := of_decide_eq_true (by first | (with_reducible assumption) | assumption)
        have q120 : x13_1 < (l0.length : Int) := of_decide_eq_true (by first | (with_reducible assumption) | assumption)
        obtain ⟨ad120, e120, hx120_0⟩ := Kd.at_int HR0.out x13_1 p120 q120
        cases e120
        replace p120 := eq_true p120
        replace q120 := eq_true q120
        have p121 : 0 ≤ (x13_1 : Int) := of_decide_eq_true (by first | (with_reducible assumption) | assumption)
        have q121 : x13_1 < (l1.length : Int) := of_decide_eq_true (by first | (with_reducible assumption) | assumption)
        obtain ⟨ad121, e121, hx121_0⟩ := Kd.at_int HR1.out x13_1 p121 q121
        cases e121
        replace p121 := eq_true p121
        replace q121 := eq_true q121
        go_wp2
        repeat (go_quiet (fail); try go_wp2)
        go_ret
        exact ⟨by first | rfl | (simp; done) | (simp [*]; done), by repeat (first | exact Drawn0.refl _ | apply Drawn0.step)⟩
       rw [if_neg c7] at H
       exact absurd H (by simp)
      rw [if_neg c6] at H
      exact absurd H (by simp)
     rw [if_neg c5] at H
     exact absurd H (by simp)
    rw [if_neg c4] at H
    have c4b0 : decide (x13_1 < (l0.length : Int)) = false := decide_eq_false c4
    clear c4
    obtain rfl := Option.some.inj H
    go_wp2
    repeat (go_quiet (fail); try go_wp2)
    go_ret
    exact ⟨by first | rfl | (simp; done) | (simp [*]; done), by repeat (first | exact Drawn0.refl _ | apply Drawn0.step)⟩
 rw [if_neg c3] at H
 have c3b0 : ((l0.length : Int) == (l1.length : Int)) = false := beq_eq_false_iff_ne.mpr c3
 have c3b1 : ((l0.length : Int) != (l1.length : Int)) = true := bne_iff_ne.mpr c3
 have c3b2 : (l0.length == l1.length) = false := by first | simpa using c3 | (simp at c3 ⊢; omega)
 obtain rfl := Option.some.inj H
 go_enter Tryd.func15, Tryd.ntmps15
 go_wp2
 repeat (go_quiet (fail); try go_wp2)
 go_ret
 exact ⟨by first | rfl | (simp; done) | (simp [*]; done), by repeat (first | exact Drawn0.refl _ | apply Drawn0.step)⟩

/-! ### sum_Open: function 7 -/
def sum_Open.f (k : Nat) (l0 : List Int) : Option (List Int × Option Int) := if (wrap64 ((l0.length : Int) - 4)) < 0 then (some (([] : List Int), some 2)) else (if 0 ≤ (wrap64 ((l0.length : Int) - 4)) then (if (wrap64 ((l0.length : Int) - 4)) ≤ (l0.length : Int) then ((slices_Clone_byte_byte.f (l0.take ((wrap64 ((l0.length : Int) - 4)) : Int).toNat)).bind fun t123 => ((sum_Seal.f t123).bind fun t126 => ((slices_Equal_byte_byte.f k t126 l0).bind fun t129 => (if t129 = true then (some (t123, none)) else (some (([] : List Int), some 5)))))) else (none)) else (none))
theorem sum_Open.mono : ∀ a0 k, LeO (sum_Open.f k a0) (sum_Open.f (k + 1) a0) := by
 intro a0 k
 unfold sum_Open.f
 repeat' first
   | (with_reducible exact slices_Equal_byte_byte.mono _ _ _)
   | (with_reducible exact LeO.refl _)
   | (with_reducible exact LeO.none _)
   | (with_reducible refine LeO.ite ?_ ?_)
   | (with_reducible refine LeO.bind ?_ (fun _ => ?_))
   | exact slices_Equal_byte_byte.mono _ _ _
   | exact LeO.none _
   | refine LeO.ite ?_ ?_
   | refine LeO.bind ?_ (fun _ => ?_)
set_option maxHeartbeats 8000000 in
set_option maxRecDepth 100000 in
theorem sum_Open.calls (k : Nat) (A0 : Option Addr) (c0 : Nat) (l0 : List Int) (r1 : List Int) (r2 : Option Int) (w : World) (hr0 : Kd.C (Kd.int .u8) w A0 l0.length l0) (hc0 : l0.length ≤ c0) (h : sum_Open.f k l0 = some (r1, r2)) :
  Calls Tryd.prog 7 #[.slice A0 l0.length c0] w fun e w' => ∃ v0_ : Value, e = .returned (.tuple #[v0_, errW r2]) ∧ Kd.R (Kd.int .u8) 5 w' w.heap.size (fun _ => True) v0_ r1 ∧ Below w.heap.size w w' := by
 have hu25 := Tryd.underlying25
 have hu41 := Tryd.underlying41
 have HR0 := Aside0.mk hr0
 have HC0 := Aside0.mk hc0
 clear hr0 hc0
 have HB := Aside0.mk (Below.refl w.heap.size w)
 have H : (if (wrap64 ((l0.length : Int) - 4)) < 0 then (some (([] : List Int), some 2)) else (if 0 ≤ (wrap64 ((l0.length : Int) - 4)) then (if (wrap64 ((l0.length : Int) - 4)) ≤ (l0.length : Int) then ((slices_Clone_byte_byte.f (l0.take ((wrap64 ((l0.length : Int) - 4)) : Int).toNat)).bind fun t123 => ((sum_Seal.f t123).bind fun t126 => ((slices_Equal_byte_byte.f k t126 l0).bind fun t129 => (if t129 = true then (some (t123, none)) else (some (([] : List Int), some 5)))))) else (none)) else (none))) = some (r1, r2) := h
 clear h
 by_cases c2 : (wrap64 ((l0.length : Int) - 4)) < 0
 ·rw [if_pos c2] at H
  have c2b0 : decide ((wrap64 ((l0.length : Int) - 4)) < 0) = true := decide_eq_true c2
  clear c2
  simp only [Option.some.injEq, Prod.mk.injEq] at H
  obtain ⟨rfl, rfl⟩ := H
  go_enter Tryd.func7, Tryd.ntmps7
  go_wp2
  go_ret2
  exact ⟨_, by first | rfl | (simp [errW_none, errW_some] <;> rfl) | (simp [*, errW_none, errW_some] <;> rfl), by first | exact Kd.R_nil _ _ _ _ _ | exact Kd.N_nil _ _ _ _ _ | exact Kd.V_nil _ _ _ _ _ | exact Kd.Q_nil _ _ _ _ _ | exact Kd.S_nil _ _ _ _ _, uB0 HB⟩
 rw [if_neg c2] at H
 have c2b0 : decide ((wrap64 ((l0.length : Int) - 4)) < 0) = false := decide_eq_false c2
 clear c2
 obtain ⟨ji3, hji3⟩ : ∃ j_ : Int, (wrap64 ((l0.length : Int) - 4)) = j_ := ⟨_, rfl⟩
 replace H : (if 0 ≤ (ji3) then (if (ji3) ≤ (l0.length : Int) then ((slices_Clone_byte_byte.f (l0.take ((ji3) : Int).toNat)).bind fun t123 => ((sum_Seal.f t123).bind fun t126 => ((slices_Equal_byte_byte.f k t126 l0).bind fun t129 => (if t129 = true then (some (t123, none)) else (some (([] : List Int), some 5)))))) else (none)) else (none)) = some (r1, r2) := by first | (rw [hji3] at H; exact H) | (simp only [hji3] at H ⊢; exact H)
 (try rw [hji3] at c2b0)
 have hji3w : (IntKind.i64.wrap ((l0.length : Int) - 4)) = ji3 := (i64_w _).trans hji3
 by_cases c4 : 0 ≤ (ji3)
 ·rw [if_pos c4] at H
  have c4b0 := eq_true c4
  have c4b1 : decide (0 ≤ (ji3)) = true := decide_eq_true c4
  clear c4
  by_cases c5 : (ji3) ≤ (l0.length : Int)
  ·rw [if_pos c5] at H
   have c5b0 := eq_true c5
   have c5b1 : decide ((ji3) ≤ (l0.length : Int)) = true := decide_eq_true c5
   clear c5
   replace H := Option.bind_eq_some_iff.mp H
   obtain ⟨t123, A60, H⟩ := H
   replace H : ((sum_Seal.f t123).bind fun t126 => ((slices_Equal_byte_byte.f k t126 l0).bind fun t129 => (if t129 = true then (some (t123, none)) else (some (([] : List Int), some 5))))) = some (r1, r2) := H
   have A6 := Aside0.mk A60
   clear A60
   replace H := Option.bind_eq_some_iff.mp H
   obtain ⟨t126, A70, H⟩ := H
   replace H : ((slices_Equal_byte_byte.f k t126 l0).bind fun t129 => (if t129 = true then (some (t123, none)) else (some (([] : List Int), some 5)))) = some (r1, r2) := H
   have A7 := Aside0.mk A70
   clear A70
   replace H := Option.bind_eq_some_iff.mp H
   obtain ⟨t129, A80, H⟩ := H
   replace H : (if t129 = true then (some (t123, none)) else (some (([] : List Int), some 5))) = some (r1, r2) := H
   have A8 := Aside0.mk A80
   clear A80
   by_cases c9 : t129 = true
   ·subst c9
    have H1 : (some (t123, none)) = some (r1, r2) := by rw [if_pos rfl] at H; exact H
    clear H
    have H := H1
    clear H1
    simp only [Option.some.injEq, Prod.mk.injEq] at H
    obtain ⟨rfl, rfl⟩ := H
    obtain ⟨i010, hi010, _, hsz10, _⟩ := info_parts info5
    obtain ⟨hcut10, hA10, hC10⟩ := print_take_of (P := Tryd.prog) (Value.int .u8) 0 22 5 .i64 Tryd.underlying22 hi010 hsz10 A0 c0 l0 (ji3) (of_decide_eq_true (by first | (with_reducible assumption) | assumption)) (of_decide_eq_true (by first | (with_reducible assumption) | assumption)) HC0.out
    have HR122 := Aside0.mk (Kd.C_of_reads (h1 := fun _ => rfl) (hA10 _ (Kd.reads_of_C HR0.out)))
    have HC122 := Aside0.mk hC10
    clear hA10 hC10 hi010 hsz10
    go_enter Tryd.func7, Tryd.ntmps7
    go_wp2_with (first | ((with_reducible refine gate_callee (f := 14) rfl ?_); refine goesL_ (some 15) rfl rfl Tryd.func14 (by kernel_rfl) rfl #[.slice A0 (l0.take ((ji3) : Int).toNat).length c0] rfl (by (try simp only [List.map_toArray, List.map_cons, List.map_nil]); first | done | (rw [show (l0.take ((ji3) : Int).toNat).length = (ji3).toNat from (by rw [List.length_take]; have h_ : ((ji3) : Int) ≤ (l0.length : Int) := of_decide_eq_true (by first | (with_reducible assumption) | assumption); omega)] <;> rfl) | (simp only [hji3]; rfl) | rfl | (simp only [List.length_drop, List.length_take]; rfl)) ?_; (with_reducible refine (slices_Clone_byte_byte.calls _ _ (l0.take ((ji3) : Int).toNat) t123 _ ?side1 ?side2 A6.out).mono ?_); (case side1 => repeat (first | exact HR122.out | (with_reducible refine Kd.C_alloc ?_ _) | (with_reducible refine Kd.C_drewN ?_ _) | (with_reducible refine Kd.C_drew ?_))); (case side2 => exact HC122.out); rintro e w11 ⟨v124, rfl, ho0, hb⟩; refine ⟨_, rfl, ?_⟩; have HO125 := Aside0.mk (Kd.R_lower ho0 (below_size (uB0 HB))); replace HB := Aside0.mk (below_step (uB0 HB) hb); (try clear hb); (try clear hb2); (try clear hk); (try clear hi); (try clear ho0); obtain ⟨Ao12, co12, eo12⟩ := Kd.R_slice HO125.out; subst eo12) | ((with_reducible refine gate_callee (f := 11) rfl ?_); refine goesL_ (some 17) rfl rfl Tryd.func11 (by kernel_rfl) rfl #[.slice Ao12 t123.length co12] rfl uC ?_; (with_reducible refine (sum_Seal.calls (fun k_ => some k_ = (.slice Ao12 t123.length co12 : Value).ownBlock) _ _ t123 t126 _ ?side1 A7.out).mono ?_); (case side1 => exact Kd.R_V (Kd.R_tight rfl (HO125.out))); rintro e w13 ⟨v127, rfl, ho0, hb⟩; refine ⟨_, rfl, ?_⟩; have HO128 := Aside0.mk (Kd.R_lower (Kd.R_new' (Kd.R_mono (ok' := fun k_ => True) ho0 (fun _ hk_ => trivial)) (Kd.R_lt (uR HO125))) (below_size (uB0 HB))); replace HO125 := Aside0.mk (Kd.R_elder' (uR HO125) (Kd.R_base ho0) hb); replace HB := Aside0.mk (below_step (uB0 HB) hb); (try clear hb); (try clear hb2); (try clear hk); (try clear hi); (try clear ho0); obtain ⟨Ao14, co14, eo14⟩ := Kd.R_slice HO128.out; subst eo14) | ((with_reducible refine gate_callee (f := 15) rfl ?_); refine goesL_ (some 19) rfl rfl Tryd.func15 (by kernel_rfl) rfl #[.slice Ao14 t126.length co14, .slice A0 l0.length c0] rfl uC ?_; (with_reducible refine (slices_Equal_byte_byte.calls k _ _ t126 _ _ l0 true _ ?side1 ?side2 ?side3 ?side4 A8.out).mono ?_); (case side1 => exact uS (Kd.R_reads' HO128.out).2.2); (case side2 => exact (Kd.R_reads' HO128.out).2.1); (case side3 => exact uS (Kd.C_below HR0.out HB.out)); (case side4 => exact HC0.out); rintro e w15 ⟨rfl, hd_⟩; refine ⟨_, rfl, ?_⟩; have hb := hd_.below; clear hd_; replace HO125 := Aside0.mk (Kd.R_below (uR HO125) hb); replace HO128 := Aside0.mk (Kd.R_below (uR HO128) hb); replace HB := Aside0.mk (below_step (uB0 HB) hb); (try clear hb); (try clear hb2); (try clear hk); (try clear hi)))
    go_ret2
    exact ⟨_, by first | rfl | (simp [errW_none, errW_some] <;> rfl) | (simp only [← hji3]; first | rfl | (simp [errW_none, errW_some] <;> rfl)) | (simp [*, errW_none, errW_some] <;> rfl), by (with_reducible repeat (first | apply Kd.R_alloc | apply Kd.R_drewN | apply Kd.R_drew)); exact Kd.R_mono HO125.out (fun _ hk => trivial), uB0 HB⟩
   replace c9 := Bool.eq_false_iff.mpr c9
   subst c9
   have H1 : (some (([] : List Int), some 5)) = some (r1, r2) := by rw [if_neg (show ¬ (false = true) by decide)] at H; exact H
   clear H
   have H := H1
   clear H1
   simp only [Option.some.injEq, Prod.mk.injEq] at H
   obtain ⟨rfl, rfl⟩ := H
   obtain ⟨i016, hi016, _, hsz16, _⟩ := info_parts info5
   obtain ⟨hcut16, hA16, hC16⟩ := print_take_of (P := Tryd.prog) (Value.int .u8) 0 22 5 .i64 Tryd.underlying22 hi016 hsz16 A0 c0 l0 (ji3) (of_decide_eq_true (by first | (with_reducible assumption) | assumption)) (of_decide_eq_true (by first | (with_reducible assumption) | assumption)) HC0.out
   have HR122 := Aside0.mk (Kd.C_of_reads (h1 := fun _ => rfl) (hA16 _ (Kd.reads_of_C HR0.out)))
   have HC122 := Aside0.mk hC16
   clear hA16 hC16 hi016 hsz16
   go_enter Tryd.func7, Tryd.ntmps7
   go_wp2_with (first | ((with_reducible refine gate_callee (f := 14) rfl ?_); refine goesL_ (some 15) rfl rfl Tryd.func14 (by kernel_rfl) rfl #[.slice A0 (l0.take ((ji3) : Int).toNat).length c0] rfl (by (try simp only [List.map_toArray, List.map_cons, List.map_nil]); first | done | (rw [show (l0.take ((ji3) : Int).toNat).length = (ji3).toNat from (by rw [List.length_take]; have h_ : ((ji3) : Int) ≤ (l0.length : Int) := of_decide_eq_true (by first | (with_reducible assumption) | assumption); omega)] <;> rfl) | (simp only [hji3]; rfl) | rfl | (simp only [List.length_drop, List.length_take]; rfl)) ?_; (with_reducible refine (slices_Clone_byte_byte.calls _ _ (l0.take ((ji3) : Int).toNat) t123 _ ?side1 ?side2 A6.out).mono ?_); (case side1 => repeat (first | exact HR122.out | (with_reducible refine Kd.C_alloc ?_ _) | (with_reducible refine Kd.C_drewN ?_ _) | (with_reducible refine Kd.C_drew ?_))); (case side2 => exact HC122.out); rintro e w17 ⟨v124, rfl, ho0, hb⟩; refine ⟨_, rfl, ?_⟩; have HO125 := Aside0.mk (Kd.R_lower ho0 (below_size (uB0 HB))); replace HB := Aside0.mk (below_step (uB0 HB) hb); (try clear hb); (try clear hb2); (try clear hk); (try clear hi); (try clear ho0); obtain ⟨Ao18, co18, eo18⟩ := Kd.R_slice HO125.out; subst eo18) | ((with_reducible refine gate_callee (f := 11) rfl ?_); refine goesL_ (some 17) rfl rfl Tryd.func11 (by kernel_rfl) rfl #[.slice Ao18 t123.length co18] rfl uC ?_; (with_reducible refine (sum_Seal.calls (fun k_ => some k_ = (.slice Ao18 t123.length co18 : Value).ownBlock) _ _ t123 t126 _ ?side1 A7.out).mono ?_); (case side1 => exact Kd.R_V (Kd.R_tight rfl (HO125.out))); rintro e w19 ⟨v127, rfl, ho0, hb⟩; refine ⟨_, rfl, ?_⟩; have HO128 := Aside0.mk (Kd.R_lower (Kd.R_new' (Kd.R_mono (ok' := fun k_ => True) ho0 (fun _ hk_ => trivial)) (Kd.R_lt (uR HO125))) (below_size (uB0 HB))); replace HO125 := Aside0.mk (Kd.R_elder' (uR HO125) (Kd.R_base ho0) hb); replace HB := Aside0.mk (below_step (uB0 HB) hb); (try clear hb); (try clear hb2); (try clear hk); (try clear hi); (try clear ho0); obtain ⟨Ao20, co20, eo20⟩ := Kd.R_slice HO128.out; subst eo20) | ((with_reducible refine gate_callee (f := 15) rfl ?_); refine goesL_ (some 19) rfl rfl Tryd.func15 (by kernel_rfl) rfl #[.slice Ao20 t126.length co20, .slice A0 l0.length c0] rfl uC ?_; (with_reducible refine (slices_Equal_byte_byte.calls k _ _ t126 _ _ l0 false _ ?side1 ?side2 ?side3 ?side4 A8.out).mono ?_); (case side1 => exact uS (Kd.R_reads' HO128.out).2.2); (case side2 => exact (Kd.R_reads' HO128.out).2.1); (case side3 => exact uS (Kd.C_below HR0.out HB.out)); (case side4 => exact HC0.out); rintro e w21 ⟨rfl, hd_⟩; refine ⟨_, rfl, ?_⟩; have hb := hd_.below; clear hd_; replace HO128 := Aside0.mk (Kd.R_below (uR HO128) hb); replace HB := Aside0.mk (below_step (uB0 HB) hb); (try clear hb); (try clear hb2); (try clear hk); (try clear hi)))
   go_ret2
   exact ⟨_, by first | rfl | (simp [errW_none, errW_some] <;> rfl) | (simp only [← hji3]; first | rfl | (simp [errW_none, errW_some] <;> rfl)) | (simp [*, errW_none, errW_some] <;> rfl), by first | exact Kd.R_nil _ _ _ _ _ | exact Kd.N_nil _ _ _ _ _ | exact Kd.V_nil _ _ _ _ _ | exact Kd.Q_nil _ _ _ _ _ | exact Kd.S_nil _ _ _ _ _, uB0 HB⟩
  rw [if_neg c5] at H
  exact absurd H (by simp)
 rw [if_neg c4] at H
 exact absurd H (by simp)

-- NOT PRINTED: function 19 (reflectlite_ValueOf)

-- NOT PRINTED: function 20 (reflectlite_Value_Type)

-- NOT PRINTED: function 21 (reflectlite_Value_IsNil)

-- NOT PRINTED: function 23 (reflectlite_TypeOf)

-- NOT PRINTED: function 24 (reflectlite_Value_Elem)

-- NOT PRINTED: function 25 (reflectlite_Value_Set)

-- NOT PRINTED: function 22 (errors_as)

-- NOT PRINTED: function 17 (errors_As)

/-! ### colloquylaw05_num: function 13 -/
def colloquylaw05_num.f (a0 : Option Int) : Option (Int) := some (a0.getD 0)
theorem colloquylaw05_num.calls (a0 : Option Int) (r : Int) (w : World) (hg : Go.Proofs.YtachjpkpgbofaaaDoor.AsNum.GP w) (h : colloquylaw05_num.f a0 = some r) :
  Calls Tryd.prog 13 #[errW a0] w fun e w' => e = .returned (.int .i64 r) ∧ Below w.heap.size w w' := by
 obtain rfl : a0.getD 0 = r := Option.some.inj h
 cases a0 with
 | none => exact Go.Proofs.YtachjpkpgbofaaaDoor.AsNum.num_none w
 | some c => exact Go.Proofs.YtachjpkpgbofaaaDoor.AsNum.num_some c w hg

/-! ### colloquylaw05_sure: function 6 (no input: walked by hand) -/
def colloquylaw05_sure.f : Option (Bool) := some true
theorem su_lit (w : World) (xs : List Int) (C : Array Value) (fr : Nat × Nat) (hC : C = (xs.map (Value.int .u8)).toArray) (hl : xs.length ≤ 100) : Kd.C (Kd.int .u8) (w.alloc (.cells C 5 fr)) (some ⟨w.heap.size, 0, none⟩) xs.length xs := by
 subst hC
 refine ⟨rfl, by omega, fun _ => ⟨_, rfl, fun j p hp => ⟨[.int .u8 p], rfl, rfl, fun k u hu => ?_⟩⟩⟩
 have hk : k = 0 := by
  cases k with
  | zero => rfl
  | succ k => simp at hu
 subst hk
 obtain rfl : Value.int .u8 p = u := by simpa using hu
 obtain ⟨hj, hp2⟩ := List.getElem?_eq_some_iff.1 hp
 have e : ∀ a : Addr, a.spot = none → a.add j = ⟨a.block, a.off + j, none⟩ := fun a ha => by
  unfold Addr.add
  split
  ·subst_vars; cases a; simp at ha; subst ha; rfl
  rfl
 have hsz : j * (Kd.int .u8).sz + 0 = j := by show j * 1 + 0 = j; omega
 rw [hsz, e _ rfl]
 have hh := World.alloc_heap_new w (.cells ((xs.map (Value.int .u8)).toArray) 5 fr)
 unfold World.cell?
 rw [hh]
 simp [hp]
theorem su_two (w W : World) (hb : Below w.heap.size w W) (A1 A2 : Option Addr) (x y : List Int) (c1 c2 : Nat) (C : Array Value) (hC : C = #[.slice A1 x.length c1, .slice A2 y.length c2]) (h1 : (Kd.int .u8).C W A1 x.length x) (h2 : (Kd.int .u8).C W A2 y.length y) (l1 : x.length ≤ c1) (l2 : y.length ≤ c2) :
  (Kd.slice 5 (Kd.int .u8)).C (W.alloc (.cells C 22)) (some ⟨W.heap.size, 0, none⟩) 2 [x, y] := by
 subst hC
 have hal : Below W.heap.size W (W.alloc (.cells #[.slice A1 x.length c1, .slice A2 y.length c2] 22)) := below_alloc (Below.refl _ _) _
 refine ⟨rfl, by omega, fun _ => ⟨_, rfl, fun j p hp => ?_⟩⟩
 have hj : j < 2 := (List.getElem?_eq_some_iff.1 hp).1
 have hsz : (Kd.slice 5 (Kd.int .u8)).sz = 1 := rfl
 rcases (show j = 0 ∨ j = 1 by omega) with rfl | rfl
 ·obtain rfl : x = p := by simpa using hp
  refine ⟨[.slice A1 x.length c1], rfl, ⟨A1, c1, rfl, l1, Kd.C_below h1 hal⟩, fun k u hu => ?_⟩
  have hk : k = 0 := by
   cases k with
   | zero => rfl
   | succ k => simp at hu
  subst hk
  obtain rfl : Value.slice A1 x.length c1 = u := by simpa using hu
  have hh := World.alloc_heap_new W (.cells #[.slice A1 x.length c1, .slice A2 y.length c2] 22)
  unfold World.cell? Addr.add
  simp only [Nat.zero_mul, Nat.one_mul, Nat.add_zero, if_true, if_neg (show ¬ (1 : Nat) = 0 by decide), Nat.zero_add]
  rw [hh]
  simp
 obtain rfl : y = p := by simpa using hp
 refine ⟨[.slice A2 y.length c2], rfl, ⟨A2, c2, rfl, l2, Kd.C_below h2 hal⟩, fun k u hu => ?_⟩
 have hk : k = 0 := by
  cases k with
  | zero => rfl
  | succ k => simp at hu
 subst hk
 obtain rfl : Value.slice A2 y.length c2 = u := by simpa using hu
 rw [hsz]
 have hh := World.alloc_heap_new W (.cells #[.slice A1 x.length c1, .slice A2 y.length c2] 22)
 unfold World.cell? Addr.add
 simp only [Nat.zero_mul, Nat.one_mul, Nat.add_zero, if_true, if_neg (show ¬ (1 : Nat) = 0 by decide), Nat.zero_add]
 rw [hh]
 simp
theorem su_seal (A : Option Addr) (c : Nat) (l r : List Int) (w : World) (h : (Kd.int .u8).C w A l.length l) (hc : l.length ≤ c) (hf : sum_Seal.f l = some r) :
  Calls Tryd.prog 11 #[.slice A l.length c] w fun e w' => ∃ A' c', e = .returned (.slice A' r.length c') ∧ r.length ≤ c' ∧ (Kd.int .u8).C w' A' r.length r ∧ Below w.heap.size w w' :=
 (sum_Seal.calls (fun k_ => k_ < w.heap.size) A c l r w (Kd.V_mk hc (Kd.C_F (Kd.heap_int .u8) h)) hf).mono fun e w' ⟨v, he, hR, hb⟩ => by
  obtain ⟨A', c', rfl, hl, hC⟩ := Kd.R_reads hR
  exact ⟨A', c', he, hl, hC, hb⟩
theorem su_open (A : Option Addr) (c : Nat) (l r : List Int) (o : Option Int) (w : World) (h : (Kd.int .u8).C w A l.length l) (hc : l.length ≤ c) (hf : sum_Open.f 40 l = some (r, o)) :
  Calls Tryd.prog 7 #[.slice A l.length c] w fun e w' => ∃ A' c', e = .returned (.tuple #[.slice A' r.length c', errW o]) ∧ r.length ≤ c' ∧ (Kd.int .u8).C w' A' r.length r ∧ Below w.heap.size w w' :=
 (sum_Open.calls 40 A c l r o w h hc hf).mono fun e w' ⟨v, he, hR, hb⟩ => by
  obtain ⟨A', c', rfl, hl, hC⟩ := Kd.R_reads hR
  exact ⟨A', c', he, hl, hC, hb⟩
set_option maxHeartbeats 8000000 in
set_option maxRecDepth 100000 in
theorem colloquylaw05_sure.calls (r : Bool) (w : World) (hg : Go.Proofs.YtachjpkpgbofaaaDoor.AsNum.GP w) (h : colloquylaw05_sure.f = some r) :
  Calls Tryd.prog 6 #[] w fun e w' => e = .returned (.bool r) ∧ Below w.heap.size w w' := by
 obtain rfl := Option.some.inj h
 have hu41 := Tryd.underlying41
 have kc := fun (w : World) (C : Array Value) (n c : Nat) => Lib.run_convert_bytes_const (P := Tryd.prog) w 22 5 C n c Tryd.underlying22 Tryd.underlying5
 have kc2 : ∀ (w : World) (o : Obj) (C : Array Value) (n c : Nat), (convert 22 22 (.slice (some ⟨w.heap.size + 1, 0, none⟩) n c)).run Tryd.prog ((w.alloc o).alloc (.cells C 5)) = .ok (.slice (some ⟨w.heap.size + 1, 0, none⟩) n c) ((w.alloc o).alloc (.cells C 5 (C.size, C.size + 1))) := fun w o C n c => by
  have h_ := kc (w.alloc o) C n c
  rwa [World.size_alloc] at h_
 have HG := Aside0.mk hg
 clear hg h
 have f1 : sum_Seal.f [97, 98] = some [97, 98, 1, 38, 0, 196] := by decide +kernel
 have f2 : sum_Open.f 40 [97, 98, 1, 38, 0, 196] = some ([97, 98], none) := by decide +kernel
 have f3 : sum_Open.f 40 [97, 98, 99] = some ([], some 2) := by decide +kernel
 have f4 : sum_Open.f 40 [97, 98, 99, 100, 101] = some ([], some 5) := by decide +kernel
 have f5 : sum_Of.f [[87, 105, 107, 105], [112, 101, 100, 105, 97]] = some 300286872 := by decide +kernel
 have F1 := Aside0.mk f1
 have F2 := Aside0.mk f2
 have F3 := Aside0.mk f3
 have F4 := Aside0.mk f4
 have F5 := Aside0.mk f5
 clear f1 f2 f3 f4 f5
 go_enter Tryd.func6, Tryd.ntmps6
 go_wp2_with fail
 have C1 := Aside0.mk (su_lit w [97, 98] _ (2, 3) rfl (by simp))
 refine (su_seal _ _ [97, 98] _ _ C1.out (by simp) F1.out).mono ?_
 rintro e w1 ⟨A1, c1, rfl, l1, hS1, b1⟩
 have HS1 := Aside0.mk hS1
 have HL1 := Aside0.mk l1
 have HB1 := Aside0.mk (below_step (below_alloc (Below.refl _ _) _) b1)
 clear hS1 l1 b1 C1
 go_wp2_with fail
 refine (su_open _ _ _ _ _ _ HS1.out HL1.out F2.out).mono ?_
 rintro e w2 ⟨A2, c2, rfl, l2, hS2, b2⟩
 have HS2 := Aside0.mk hS2
 have HL2 := Aside0.mk l2
 have HB2 := Aside0.mk (below_step HB1.out b2)
 clear hS2 l2 b2 HB1 HS1 HL1
 simp only [errW_none]
 go_wp2_with fail
 have C3 := Aside0.mk (su_lit w2 [97, 98, 99] _ (3, 4) rfl (by simp))
 refine (su_open _ _ [97, 98, 99] _ _ _ C3.out (by simp) F3.out).mono ?_
 rintro e w3 ⟨A3, c3, rfl, l3, hS3, b3⟩
 have b3' := below_step (below_alloc (Below.refl w2.heap.size w2) _) b3
 have HB3 := Aside0.mk (below_step HB2.out b3')
 have HS2' := Aside0.mk (Kd.C_below HS2.out b3')
 clear hS3 l3 b3 b3' C3 HS2 HB2
 simp only [errW_some]
 go_wp2_with fail
 have C4 := Aside0.mk (su_lit w3 [97, 98, 99, 100, 101] _ (5, 6) rfl (by simp))
 refine (su_open _ _ [97, 98, 99, 100, 101] _ _ _ C4.out (by simp) F4.out).mono ?_
 rintro e w4 ⟨A4, c4, rfl, l4, hS4, b4⟩
 have b4' := below_step (below_alloc (Below.refl w3.heap.size w3) _) b4
 have HB4 := Aside0.mk (below_step HB3.out b4')
 have HS3 := Aside0.mk (Kd.C_below HS2'.out b4')
 clear hS4 l4 b4 b4' C4 HS2' HB3
 simp only [errW_some]
 go_wp2_with fail
 have b5 := below_alloc (below_alloc (Below.refl w4.heap.size w4) (.cells #[.int .u8 87, .int .u8 105, .int .u8 107, .int .u8 105] 5 (4, 5))) (.cells #[.int .u8 112, .int .u8 101, .int .u8 100, .int .u8 105, .int .u8 97] 5 (5, 6))
 have C5 := su_lit w4 [87, 105, 107, 105] #[.int .u8 87, .int .u8 105, .int .u8 107, .int .u8 105] (4, 5) rfl (by simp)
 have C6 := su_lit (w4.alloc (.cells #[.int .u8 87, .int .u8 105, .int .u8 107, .int .u8 105] 5 (4, 5))) [112, 101, 100, 105, 97] #[.int .u8 112, .int .u8 101, .int .u8 100, .int .u8 105, .int .u8 97] (5, 6) rfl (by simp)
 have C5' := Kd.C_below C5 (below_alloc (Below.refl _ _) (.cells #[.int .u8 112, .int .u8 101, .int .u8 100, .int .u8 105, .int .u8 97] 5 (5, 6)))
 rw [World.size_alloc] at C6
 have C7 := su_two w4 _ b5 _ _ [87, 105, 107, 105] [112, 101, 100, 105, 97] 4 5 #[.slice (some ⟨w4.heap.size, 0, none⟩) 4 4, .slice (some ⟨w4.heap.size + 1, 0, none⟩) 5 5] rfl C5' C6 (by simp) (by simp)
 rw [World.size_alloc, World.size_alloc] at C7
 have H7 := Aside0.mk C7
 clear C5 C6 C5' C7
 have b6 := below_alloc b5 (.cells #[.slice (some ⟨w4.heap.size, 0, none⟩) 4 4, .slice (some ⟨w4.heap.size + 1, 0, none⟩) 5 5] 22)
 have hcs : ∀ W, Below w4.heap.size w4 W → (convert 22 9 (.slice A2 2 c2)).run Tryd.prog W = .ok (.string ⟨#[97, 98]⟩) W := fun W hb => by
  have h_ := Kd.C_string (P := Tryd.prog) (A := A2) (c := c2) Tryd.underlying22 Tryd.underlying5 Tryd.underlying9 (Kd.C_below HS3.out hb)
  exact h_
 refine (sum_Of.calls _ _ [[87, 105, 107, 105], [112, 101, 100, 105, 97]] 300286872 _ H7.out (by simp) F5.out).mono ?_
 rintro e w5 ⟨rfl, b7⟩
 have b8 := below_step b6 b7
 have hcs5 := hcs w5 b8
 have HB5 := Aside0.mk (below_step HB4.out b8)
 clear b5 b6 b7 b8 H7 hcs HB4
 go_wp2_with fail
 refine (Go.Proofs.YtachjpkpgbofaaaDoor.AsNum.num_some 2 _ (HG.out.below HB5.out)).mono ?_
 rintro e w6 ⟨rfl, b9⟩
 have HB6 := Aside0.mk (below_step HB5.out b9)
 clear b9 HB5
 go_wp2_with fail
 refine (Go.Proofs.YtachjpkpgbofaaaDoor.AsNum.num_some 5 _ (HG.out.below HB6.out)).mono ?_
 rintro e w7 ⟨rfl, b9⟩
 have HB7 := Aside0.mk (below_step HB6.out b9)
 clear b9 HB6
 go_wp2_with fail
 go_ret
 exact ⟨rfl, HB7.out⟩

/-! ### colloquyref05_Of: function 10 -/
def colloquyref05_Of.l0 : Nat → List Int → Int → Int → Int → Option (Int)
 | 0, _, _, _, _ => none
 | k + 1, x0, x3, x4, x5 => if x5 < (x0.length : Int) then (if 0 ≤ x5 then (colloquyref05_Of.l0 k x0 (Int.tmod (wrap64 (x3 + (wrap64 (rd x0 x5)))) 65521) (Int.tmod (wrap64 (x4 + (Int.tmod (wrap64 (x3 + (wrap64 (rd x0 x5)))) 65521))) 65521) (wrap64 (x5 + 1))) else (none)) else (some ((wrap64 ((wrap64 (x4 * 65536)) + x3)) % 4294967296))
def colloquyref05_Of.f (k : Nat) (l0 : List Int) : Option (Int) := colloquyref05_Of.l0 k l0 1 0 0
theorem colloquyref05_Of.mono_l : ∀ k, (∀ y0 y1 y2 y3, LeO (colloquyref05_Of.l0 k y0 y1 y2 y3) (colloquyref05_Of.l0 (k + 1) y0 y1 y2 y3))
 | 0 => fun _ _ _ _ r h => by simp [colloquyref05_Of.l0] at h
 | k + 1 => by
  have ih0 := colloquyref05_Of.mono_l k
  intro y0 y1 y2 y3
  unfold colloquyref05_Of.l0
  repeat' first
  | (with_reducible exact ih0 _ _ _ _)
  | (with_reducible exact LeO.refl _)
  | (with_reducible exact LeO.none _)
  | (with_reducible refine LeO.ite ?_ ?_)
  | (with_reducible refine LeO.bind ?_ (fun _ => ?_))
  | exact ih0 _ _ _ _
  | exact LeO.none _
  | refine LeO.ite ?_ ?_
  | refine LeO.bind ?_ (fun _ => ?_)
theorem colloquyref05_Of.mono : ∀ a0 k, LeO (colloquyref05_Of.f k a0) (colloquyref05_Of.f (k + 1) a0) := by
 intro a0 k
 have ih0 := colloquyref05_Of.mono_l k
 unfold colloquyref05_Of.f
 repeat' first
   | (with_reducible exact ih0 _ _ _ _)
   | (with_reducible exact LeO.refl _)
   | (with_reducible exact LeO.none _)
   | (with_reducible refine LeO.ite ?_ ?_)
   | (with_reducible refine LeO.bind ?_ (fun _ => ?_))
   | exact ih0 _ _ _ _
   | exact LeO.none _
   | refine LeO.ite ?_ ?_
   | refine LeO.bind ?_ (fun _ => ?_)
set_option maxHeartbeats 8000000 in
set_option maxRecDepth 100000 in
theorem colloquyref05_Of.calls (k : Nat) (A0 : Option Addr) (c0 : Nat) (l0 : List Int) (r : Int) (w : World) (hr0 : Kd.C (Kd.int .u8) w A0 l0.length l0) (hc0 : l0.length ≤ c0) (h : colloquyref05_Of.f k l0 = some r) :
  Calls Tryd.prog 10 #[.slice A0 l0.length c0] w fun e w' => e = .returned (.int .u32 r) ∧ Drawn0 w w' := by
 have HR0 := Aside0.mk hr0
 have HC0 := Aside0.mk hc0
 clear hr0 hc0
 have H : (colloquyref05_Of.l0 k l0 1 0 0) = some r := h
 clear h
 have H' := Aside0.mk H
 clear H
 go_enter Tryd.func10, Tryd.ntmps10
 go_wp2
 go_loopg [3, 4, 5] k (fun kq v3 v4 v5 w' => ∃ (x3_1 : Int) (x4_1 : Int) (x5_1 : Int), v3 = .int .i64 x3_1 ∧ v4 = .int .i64 x4_1 ∧ v5 = .int .i64 x5_1 ∧ Aside0 (colloquyref05_Of.l0 kq l0 x3_1 x4_1 x5_1 = some r) ∧ Aside0 (kq ≤ k) ∧ Drawn0 w w')
 case atStart => exact ⟨(1), (0), (0), (by first | rfl | (simp; done) | (simp [*]; done)), (by first | rfl | (simp; done) | (simp [*]; done)), (by first | rfl | (simp; done) | (simp [*]; done)), H', ⟨Nat.le_refl _⟩, by repeat (first | exact Drawn0.refl _ | apply Drawn0.step)⟩
 case round =>
  clear H'
  try clear c1
  obtain ⟨x3_1, x4_1, x5_1, rfl, rfl, rfl, HA, HK1, ⟨m1, rfl⟩⟩ := hrel
  cases gk with
  | zero => exact absurd HA.out (by simp [colloquyref05_Of.l0])
  | succ k1 =>
   have H := HA.out
   clear HA
   simp only [colloquyref05_Of.l0] at H
   by_cases c2 : x5_1 < (l0.length : Int)
   ·rw [if_pos c2] at H
    have c2b0 : decide (x5_1 < (l0.length : Int)) = true := decide_eq_true c2
    clear c2
    by_cases c3 : 0 ≤ x5_1
    ·rw [if_pos c3] at H
     have c3b0 : decide (0 ≤ x5_1) = true := decide_eq_true c3
     clear c3
     have H' := Aside0.mk H
     clear H
     have p130 : 0 ≤ (x5_1 : Int) := of_decide_eq_true (by first | (with_reducible assumption) | assumption)
     have q130 : x5_1 < (l0.length : Int) := of_decide_eq_true (by first | (with_reducible assumption) | assumption)
     obtain ⟨ad130, e130, hx130_0⟩ := Kd.at_int HR0.out x5_1 p130 q130
     cases e130
     replace p130 := eq_true p130
     replace q130 := eq_true q130
     go_wp2
     go_roundg k1
     case measure => have := HK1.out; omega
     case rel => exact ⟨(Int.tmod (wrap64 (x3_1 + (wrap64 (rd l0 x5_1)))) 65521), (Int.tmod (wrap64 (x4_1 + (Int.tmod (wrap64 (x3_1 + (wrap64 (rd l0 x5_1)))) 65521))) 65521), (wrap64 (x5_1 + 1)), (by first | rfl | (simp; done) | (simp [*]; done)), (by first | rfl | (simp; done) | (simp [*]; done)), (by first | rfl | (simp; done) | (simp [*]; done)), H', ⟨by have := HK1.out; omega⟩, by repeat (first | exact Drawn0.refl _ | apply Drawn0.step)⟩
    rw [if_neg c3] at H
    exact absurd H (by simp)
   rw [if_neg c2] at H
   have c2b0 : decide (x5_1 < (l0.length : Int)) = false := decide_eq_false c2
   clear c2
   obtain rfl := Option.some.inj H
   go_wp2
   go_ret
   exact ⟨by first | rfl | (simp; done) | (simp [*]; done), by repeat (first | exact Drawn0.refl _ | apply Drawn0.step)⟩

/-! ### colloquyref05_Seal: function 12 -/
def colloquyref05_Seal.f (k : Nat) (l0 : List Int) : Option (List Int) := (colloquyref05_Of.f k l0).bind fun t131 => (if ([] : List Int).length + l0.length < 140737488355328 then ((some (([] : List Int) ++ l0 : List Int)).bind fun y132 => ((some (([((Int.tdiv t131 16777216) % 4294967296) % 256, ((Int.tdiv t131 65536) % 4294967296) % 256, ((Int.tdiv t131 256) % 4294967296) % 256, (Int.tmod t131 256) % 256] : List Int) : List Int)).bind fun y135 => (if y132.length + y135.length < 140737488355328 then (some (y132 ++ y135)) else (none)))) else (none))
theorem colloquyref05_Seal.mono : ∀ a0 k, LeO (colloquyref05_Seal.f k a0) (colloquyref05_Seal.f (k + 1) a0) := by
 intro a0 k
 unfold colloquyref05_Seal.f
 repeat' first
   | (with_reducible exact colloquyref05_Of.mono _ _)
   | (with_reducible exact LeO.refl _)
   | (with_reducible exact LeO.none _)
   | (with_reducible refine LeO.ite ?_ ?_)
   | (with_reducible refine LeO.bind ?_ (fun _ => ?_))
   | exact colloquyref05_Of.mono _ _
   | exact LeO.none _
   | refine LeO.ite ?_ ?_
   | refine LeO.bind ?_ (fun _ => ?_)
set_option maxHeartbeats 8000000 in
set_option maxRecDepth 100000 in
theorem colloquyref05_Seal.calls (k : Nat) (A0 : Option Addr) (c0 : Nat) (l0 : List Int) (r : List Int) (w : World) (hr0 : Kd.C (Kd.int .u8) w A0 l0.length l0) (hc0 : l0.length ≤ c0) (h : colloquyref05_Seal.f k l0 = some r) :
  Calls Tryd.prog 12 #[.slice A0 l0.length c0] w fun e w' => ∃ v0_ : Value, e = .returned (v0_) ∧ Kd.R (Kd.int .u8) 5 w' w.heap.size (fun _ => True) v0_ r ∧ Below w.heap.size w w' := by
 have HR0 := Aside0.mk hr0
 have HC0 := Aside0.mk hc0
 clear hr0 hc0
 have HB := Aside0.mk (Below.refl w.heap.size w)
 have H : ((colloquyref05_Of.f k l0).bind fun t131 => (if ([] : List Int).length + l0.length < 140737488355328 then ((some (([] : List Int) ++ l0 : List Int)).bind fun y132 => ((some (([((Int.tdiv t131 16777216) % 4294967296) % 256, ((Int.tdiv t131 65536) % 4294967296) % 256, ((Int.tdiv t131 256) % 4294967296) % 256, (Int.tmod t131 256) % 256] : List Int) : List Int)).bind fun y135 => (if y132.length + y135.length < 140737488355328 then (some (y132 ++ y135)) else (none)))) else (none))) = some r := h
 clear h
 replace H := Option.bind_eq_some_iff.mp H
 obtain ⟨t131, A20, H⟩ := H
 replace H : (if ([] : List Int).length + l0.length < 140737488355328 then ((some (([] : List Int) ++ l0 : List Int)).bind fun y132 => ((some (([((Int.tdiv t131 16777216) % 4294967296) % 256, ((Int.tdiv t131 65536) % 4294967296) % 256, ((Int.tdiv t131 256) % 4294967296) % 256, (Int.tmod t131 256) % 256] : List Int) : List Int)).bind fun y135 => (if y132.length + y135.length < 140737488355328 then (some (y132 ++ y135)) else (none)))) else (none)) = some r := H
 have A2 := Aside0.mk A20
 clear A20
 by_cases c3 : ([] : List Int).length + l0.length < 140737488355328
 ·rw [if_pos c3] at H
  have LMc3 := Aside0.mk c3
  clear c3
  obtain ⟨y132, hy132⟩ : ∃ y_ : List Int, y_ = (([] : List Int) ++ l0) := ⟨_, rfl⟩
  replace H : ((some (([((Int.tdiv t131 16777216) % 4294967296) % 256, ((Int.tdiv t131 65536) % 4294967296) % 256, ((Int.tdiv t131 256) % 4294967296) % 256, (Int.tmod t131 256) % 256] : List Int) : List Int)).bind fun y135 => (if y132.length + y135.length < 140737488355328 then (some (y132 ++ y135)) else (none))) = some r := by first | (rw [hy132]; with_reducible exact H) | (have H2_ := (Option.bind_some _ _).symm.trans H; rw [hy132]; with_reducible exact H2_) | (have H2_ := (Option.bind_some _ _).symm.trans H; with_reducible exact H2_) | with_reducible exact H | (rw [hy132]; exact H) | exact H
  have Ny132 := Aside0.mk hy132
  clear hy132
  obtain ⟨y135, hy135⟩ : ∃ y_ : List Int, y_ = (([((Int.tdiv t131 16777216) % 4294967296) % 256, ((Int.tdiv t131 65536) % 4294967296) % 256, ((Int.tdiv t131 256) % 4294967296) % 256, (Int.tmod t131 256) % 256] : List Int)) := ⟨_, rfl⟩
  replace H : (if y132.length + y135.length < 140737488355328 then (some (y132 ++ y135)) else (none)) = some r := by first | (rw [hy135]; with_reducible exact H) | (have H2_ := (Option.bind_some _ _).symm.trans H; rw [hy135]; with_reducible exact H2_) | (have H2_ := (Option.bind_some _ _).symm.trans H; with_reducible exact H2_) | with_reducible exact H | (rw [hy135]; exact H) | exact H
  have Ny135 := Aside0.mk hy135
  clear hy135
  by_cases c4 : y132.length + y135.length < 140737488355328
  ·rw [if_pos c4] at H
   have LMc4 := Aside0.mk c4
   clear c4
   obtain ⟨y138, hy138⟩ : ∃ y_ : List Int, y_ = (y132 ++ y135) := ⟨_, rfl⟩
   replace H : (some y138) = some r := by first | (rw [hy138]; with_reducible exact H) | (have H2_ := (Option.bind_some _ _).symm.trans H; rw [hy138]; with_reducible exact H2_) | (have H2_ := (Option.bind_some _ _).symm.trans H; with_reducible exact H2_) | with_reducible exact H | (rw [hy138]; exact H) | exact H
   have Ny138 := Aside0.mk hy138
   clear hy138
   obtain rfl := Option.some.inj H
   go_enter Tryd.func12, Tryd.ntmps12
   try simp only [List.append_eq, List.cons_append, List.nil_append]
   go_wp2_with (first | ((with_reducible refine gate_callee (f := 10) rfl ?_); refine goesL_ (some 6) rfl rfl Tryd.func10 (by kernel_rfl) rfl #[.slice A0 l0.length c0] rfl uC ?_; (with_reducible refine (colloquyref05_Of.calls k _ _ l0 t131 _ ?side1 ?side2 A2.out).mono ?_); (case side1 => repeat (first | exact HR0.out | (with_reducible refine Kd.C_alloc ?_ _) | (with_reducible refine Kd.C_drewN ?_ _) | (with_reducible refine Kd.C_drew ?_))); (case side2 => exact HC0.out); rintro e w5 ⟨rfl, hd_⟩; refine ⟨_, rfl, ?_⟩; have hb := hd_.below; clear hd_; replace HB := Aside0.mk (below_step (uB0 HB) hb); (try clear hb); (try clear hb2); (try clear hk); (try clear hi)) | ((with_reducible refine gate_builtin (b := .append) (xs := #[.tmp 7, .tmp 8]) rfl ?_); at_builtin; refine Kd.R_append_rows (Kd.int .u8) (w0 := w) w.heap.size rfl (.tmp 7) (.tmp 8) 22 5 (.int .u8 0) 1 rfl Tryd.underlying22 info5 rfl (by decide) (by omega) (.slice none 0 0) ([] : List Int) l0 _ _ _ (fun _ => True) (fun _ => False) rfl rfl ?aO ?aR (fun _ _ h => h) (fun _ h => h.elim) ?aF ?aB ?aS ?aL ?_; (case aR => exact uS (Kd.C_below HR0.out HB.out)); (case aB => exact (uB0 HB)); (case aF => exact (fun _ _ => trivial)); (case aO => exact ((Kd.R_nil _ _ _ _ (fun _ => True)))); (case aS => exact (below_size (uB0 HB))); (case aL => have := LMc3.out; omega); intro v133 w6 ho hb hg hat; rw [← Ny132.out] at ho; replace HB := Aside0.mk (hb); have HO134 := Aside0.mk (ho); clear ho hb hg hat) | ((with_reducible refine gate_dst (N := 24) rfl ?_); refine Kd.R_lit (Kd.int .u8) _ 5 ?hg (N := 24) ?hd (xs := ([((Int.tdiv t131 16777216) % 4294967296) % 256, ((Int.tdiv t131 65536) % 4294967296) % 256, ((Int.tdiv t131 256) % 4294967296) % 256, (Int.tmod t131 256) % 256] : List Int)) (inner := [.int .u8 (((Int.tdiv t131 16777216) % 4294967296) % 256), .int .u8 (((Int.tdiv t131 65536) % 4294967296) % 256), .int .u8 (((Int.tdiv t131 256) % 4294967296) % 256), .int .u8 ((Int.tmod t131 256) % 256)]) (ok := fun _ => True) (okp := fun _ => True) ?hr ?hp (fun _ hk => hk) trivial (Below.refl _ _) (Nat.le_refl _) (by simp) ?_; (case hd => rfl); (case hg => rfl); (case hr => first | (go_simp; done) | (go_simp; rfl)); (case hp => exact (Reps.one (show Kd.M (Kd.int .u8) _ _ _ (((Int.tdiv t131 16777216) % 4294967296) % 256) [.int .u8 (((Int.tdiv t131 16777216) % 4294967296) % 256)] from rfl) (Reps.one (show Kd.M (Kd.int .u8) _ _ _ (((Int.tdiv t131 65536) % 4294967296) % 256) [.int .u8 (((Int.tdiv t131 65536) % 4294967296) % 256)] from rfl) (Reps.one (show Kd.M (Kd.int .u8) _ _ _ (((Int.tdiv t131 256) % 4294967296) % 256) [.int .u8 (((Int.tdiv t131 256) % 4294967296) % 256)] from rfl) (Reps.one (show Kd.M (Kd.int .u8) _ _ _ ((Int.tmod t131 256) % 256) [.int .u8 ((Int.tmod t131 256) % 256)] from rfl) (Reps.none _ _)))))); intro v136 w7 ho8 hb hg_ hnew_; clear hg_ hnew_; (first | rw [← Ny135.out] at ho8 | (simp only [Int.reduceToNat] at ho8; rw [← Ny135.out] at ho8)); have HO137 := Aside0.mk (Kd.R_lower (Kd.R_new' ho8 (Kd.R_lt (uR HO134))) (below_size (uB0 HB))); replace HO134 := Aside0.mk (Kd.R_elder' (uR HO134) (Kd.R_base ho8) hb); replace HB := Aside0.mk (below_step (uB0 HB) hb); clear hb ho8; obtain ⟨Ao10, co10, eo10⟩ := Kd.R_slice HO137.out; subst eo10) | ((with_reducible refine gate_builtin (b := .append) (xs := #[.tmp 9, .tmp 24]) rfl ?_); at_builtin; refine Kd.R_append_rows (Kd.int .u8) (w0 := w) w.heap.size rfl (.tmp 9) (.tmp 24) 22 5 (.int .u8 0) 1 rfl Tryd.underlying22 info5 rfl (by decide) (by omega) v133 y132 y135 _ _ _ (fun k_ => some k_ ≠ (.slice Ao10 y135.length co10 : Value).ownBlock) (fun _ => False) rfl rfl ?aO ?aR (fun _ _ h => h) (fun _ h => h.elim) ?aF ?aB ?aS ?aL ?_; (case aR => exact uS (Kd.R_reads' HO137.out).2.2); (case aB => exact (uB0 HB)); (case aF => exact (fun k_ hk => Kd.fresh' (Kd.R_lt (uR HO137)) k_ hk)); (case aO => exact (by (with_reducible repeat (first | apply Kd.R_alloc | apply Kd.R_drewN | apply Kd.R_drew)); exact Kd.R_mono HO134.out (fun _ hk => hk.2))); (case aS => exact (below_size (uB0 HB))); (case aL => have := LMc4.out; omega); intro v139 w9 ho hb hg hat; rw [← Ny138.out] at ho; replace HO137 := Aside0.mk (Kd.R_after (ok := (fun _ => True)) (uR HO137) hg hat); replace HB := Aside0.mk (hb); have HO140 := Aside0.mk (ho); clear HO134; clear ho hb hg hat))
   go_ret
   exact ⟨_, by first | rfl | (simp [errW_none, errW_some] <;> rfl) | (simp [*, errW_none, errW_some] <;> rfl), by (with_reducible repeat (first | apply Kd.R_alloc | apply Kd.R_drewN | apply Kd.R_drew)); exact Kd.R_mono HO140.out (fun _ hk => trivial), uB0 HB⟩
  rw [if_neg c4] at H
  exact absurd H (by simp)
 rw [if_neg c3] at H
 exact absurd H (by simp)

end Go.Proofs.YtachjpkpgbofaaaDoor.PSumTells
