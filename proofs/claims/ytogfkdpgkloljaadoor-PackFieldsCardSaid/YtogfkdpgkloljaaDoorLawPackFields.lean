/-
  The law PackFields: for every input that can be read it returns true, and each argument reads behind the call as it read before. Condition: the row's own cells alone (the package variable errors.errorType starts as the library's text lays it: tied by the card).
-/
import Derived.Test.YtogfkdpgkloljaaDoorRows
import Derived.Test.YtogfkdpgkloljaaDoorVM12
import Derived.Test.YtogfkdpgkloljaaDoorCards
import Derived.Test.YtogfkdpgkloljaaDoorTie
import Derived.WalkKit
import Derived.ProofKit
import Derived.OpenShut
import Derived.ShutString
import Derived.ChangeOld
import Derived.Below
import Derived.SizedLaws
import Derived.ChangeSame
import Derived.ChangeVars
import Derived.JoinedOf
import Derived.RowKit
import Derived.RowKitTokens
import Derived.LaidLaws
import Derived.LaidHandle
import Derived.Stop.Joined
import Derived.SevenTiedAt
import Derived.Test.YtogfkdpgkloljaaDoorWSized
namespace Go.Proofs.YtogfkdpgkloljaaDoor.packFields
open Go.ChangeShapes Go.WideShapes Go.ChangeAt Go.RowKit
open Go.ChangeMaps (open_string shut_string)
set_option linter.unusedVariables false
theorem own : ownKnob Tryd.prog.godebug = none := by kernel_rfl
theorem laidOut : laidOutB Tryd.prog = true := by kernel_rfl
open Go.Proofs.YtogfkdpgkloljaaDoorVs
theorem fieldOp : ROp Tryd.prog 29 (fun ys => ∃ f : Fld, ys = f.vs ∧ f.OK) := by
  refine ROp.weaken (rop_struct Tryd.underlying29 rfl (ropF_cons (rop_int .u8 Tryd.underlying5) (nx := 1) (by kernel_rfl) (ropF_cons (rop_int .i64 Tryd.underlying3) (nx := 2) (by kernel_rfl)
    (ropF_cons (rop_slice1 Tryd.underlying27 (B := 8) (by kernel_rfl) (by kernel_rfl) (by kernel_rfl) (by kernel_rfl) (rop_int .i64 Tryd.underlying3)) (nx := 3) (by kernel_rfl) (ropF_cons (rop_string Tryd.underlying9) (nx := 4) (by kernel_rfl)
    (ropF_cons (rop_int .i64 Tryd.underlying3) (nx := 5) (by kernel_rfl) (ropF_cons (rop_int .i64 Tryd.underlying3) (nx := 6) (by kernel_rfl) (ropF_last (rop_int .i64 Tryd.underlying3) (by kernel_rfl)))))))) ) ?_
  rintro ys ⟨_, _, rfl, ⟨k, rfl, k1, k2⟩, _, _, rfl, ⟨n, rfl, n1, n2⟩, _, _, rfl, ⟨xs, rfl, xm, xb, hxs⟩, _, _, rfl, ⟨s, rfl, hs⟩, _, _, rfl, ⟨m, rfl, m1, m2⟩, _, _, rfl, ⟨lo, rfl, lo1, lo2⟩, ⟨hi, rfl, hi1, hi2⟩⟩
  obtain ⟨zs, rfl, hzs⟩ : ∃ zs : List Int, xs = zs.map (V.int .i64) ∧ ∀ x ∈ zs, R64 x := by
    clear xb xm
    induction xs with
    | nil => exact ⟨[], rfl, by simp⟩
    | cons x r ih =>
      obtain ⟨zs, rfl, h2⟩ := ih (fun y hy => hxs y (List.mem_cons_of_mem _ hy))
      obtain ⟨z, e, z1, z2⟩ := hxs x (List.mem_cons_self ..)
      obtain rfl : x = .int .i64 z := by simpa using e
      have e1 : IntKind.min .i64 = -9223372036854775808 := by decide
      have e2 : IntKind.max .i64 = 9223372036854775807 := by decide
      refine ⟨z :: zs, rfl, fun y hy => ?_⟩
      rcases List.mem_cons.1 hy with rfl | hy
      · unfold R64; omega
      · exact h2 y hy
  have e1 : IntKind.min .i64 = -9223372036854775808 := by decide
  have e2 : IntKind.max .i64 = 9223372036854775807 := by decide
  have e3 : IntKind.min .u8 = 0 := by decide
  have e4 : IntKind.max .u8 = 255 := by decide
  refine ⟨⟨k, n, zs, s, m, lo, hi⟩, rfl, ⟨by simp only; omega, by unfold R64; simp only; omega, hzs, by simp at xb ⊢; omega, by simp only; omega, by unfold R64; simp only; omega, by unfold R64; simp only; omega, by unfold R64; simp only; omega⟩⟩
theorem row_flds {H : Type} {enc : TypeId × Value → H} {w : World} {spare : Nat → Bool} {held : Bool} {a : Option Addr} {len cap : Nat} {d : DataW H} {ps : List MemPlace} (h : DataW.Trod enc Tryd.prog w 0 spare held 22 (.slice a len cap) d ps) (hz : Wt Tryd.prog 22 d) :
    ∃ l : List Fld, l.length < 2 ^ 62 ∧ (∀ f ∈ l, f.OK) ∧ Rd Tryd.prog (fun b => b < w.heap.size) w (flds l) (.slice a len cap) := by
  obtain ⟨fuel, hf⟩ := h
  obtain ⟨A, c, l, hc, h1, h2, h3, h4⟩ := rd_rowA Tryd.underlying22 fieldOp hf hz (B := 80) (by kernel_rfl) (k := 7) (by kernel_rfl) (by decide) (by kernel_rfl) (by kernel_rfl)
  simp [Value.cells] at hc
  obtain ⟨rfl, rfl, rfl⟩ := hc
  obtain ⟨fs, rfl, hok⟩ : ∃ fs : List Fld, l = fs.map Fld.vs ∧ ∀ f ∈ fs, f.OK := by
    clear h4 h2 h1 hf
    induction l with
    | nil => exact ⟨[], rfl, by simp⟩
    | cons x r ih =>
      obtain ⟨fs, rfl, h2⟩ := ih (fun y hy => h3 y (List.mem_cons_of_mem _ hy))
      obtain ⟨_, f, rfl, hf⟩ := h3 x (List.mem_cons_self ..)
      exact ⟨f :: fs, rfl, fun y hy => by
        rcases List.mem_cons.1 hy with rfl | hy
        · exact hf
        · exact h2 y hy⟩
  refine ⟨fs, by simp at h2; omega, hok, ?_⟩
  have e : flds fs = .list 29 ((fs.map Fld.vs).map V.agg) := by simp [flds]
  rw [e]
  exact h4
theorem row_u8s {H : Type} {enc : TypeId × Value → H} {w : World} {spare : Nat → Bool} {held : Bool} {a : Option Addr} {len cap : Nat} {d : DataW H} {ps : List MemPlace} (h : DataW.Trod enc Tryd.prog w 0 spare held 23 (.slice a len cap) d ps) (hz : Wt Tryd.prog 23 d) :
    ∃ l : List Int, l.length ≤ 140737488351232 ∧ (∀ x ∈ l, 0 ≤ x ∧ x < 256) ∧ Rd Tryd.prog (fun b => b < w.heap.size) w (u8s l) (.slice a len cap) := by
  obtain ⟨fuel, hf⟩ := h
  obtain ⟨A, c, xs, hc, h1, h2, h3, h4⟩ := rd_row1 Tryd.underlying23 (rop_int .u8 Tryd.underlying5) hf hz (B := 1) (by kernel_rfl) (by kernel_rfl) (by kernel_rfl) (by kernel_rfl)
  simp [Value.cells] at hc
  obtain ⟨rfl, rfl, rfl⟩ := hc
  obtain ⟨zs, rfl, hzs⟩ : ∃ zs : List Int, xs = zs.map (V.int .u8) ∧ ∀ x ∈ zs, 0 ≤ x ∧ x < 256 := by
    clear h4 h2 h1 hf
    induction xs with
    | nil => exact ⟨[], rfl, by simp⟩
    | cons x r ih =>
      obtain ⟨zs, rfl, h2⟩ := ih (fun y hy => h3 y (List.mem_cons_of_mem _ hy))
      obtain ⟨z, e, z1, z2⟩ := h3 x (List.mem_cons_self ..)
      obtain rfl : x = .int .u8 z := by simpa using e
      have e1 : IntKind.min .u8 = 0 := by decide
      have e2 : IntKind.max .u8 = 255 := by decide
      refine ⟨z :: zs, rfl, fun y hy => ?_⟩
      rcases List.mem_cons.1 hy with rfl | hy
      · omega
      · exact h2 y hy
  exact ⟨zs, by simp at h2; omega, hzs, h4⟩
theorem et : Tryd.prog.globalNamed "errors.errorType" = some 0 := by kernel_rfl
theorem rt : (Tryd.prog.cutTypes.find? (·.1 == "internal/reflectlite.rtype")).map (·.2) = some 85 := by kernel_rfl
theorem oneRow : ((List.range 127).filter fun t => Tryd.prog.rowNamed t [101, 114, 114, 111, 114]) = [37] := by kernel_rfl
theorem tsize : Tryd.prog.types.size = 127 := by kernel_rfl
theorem handle_of_laid {W : World} (h : laidMetH Tryd.prog [("errors.errorType", Rows.laid_errors_errorType)] W) : Go.Proofs.YtogfkdpgkloljaaDoor.AsNum.GP W := by
  have h' : laidMet Tryd.prog [] W ∧ handlesMet Tryd.prog [("errors.errorType", Rows.laid_errors_errorType)] W := h
  obtain ⟨name, u, ty, e1, e2, e3, e4, e5⟩ := h'.2 _ (List.mem_singleton.2 rfl)
  have en : name = [101, 114, 114, 111, 114] := (Option.some.inj e1).symm
  subst en
  obtain rfl := Option.some.inj (rt.symm.trans e2)
  have hm : ty ∈ (List.range 127).filter fun t => Tryd.prog.rowNamed t [101, 114, 114, 111, 114] := List.mem_filter.2 ⟨List.mem_range.2 (by rw [← tsize]; exact e3), e4⟩
  rw [oneRow] at hm
  obtain rfl := List.mem_singleton.1 hm
  have hh : typeHandle Tryd.prog 37 = .pointer (some ⟨1, 37, none⟩) := by kernel_rfl
  rw [hh] at e5
  simpa [Go.Proofs.YtogfkdpgkloljaaDoor.AsNum.GP] using World.var?_cell et e5 0
noncomputable def laidWorld (os : Os) : World :=
  let w0 := World.holding Tryd.prog os ⟨#[], #[], []⟩
  { w0 with heap := w0.heap.modify 0 fun
      | .cells _ t frozen => .cells #[.iface 85 (.agg #[.pointer (some ⟨1, 37, none⟩)])] t frozen
      | o => o }
theorem laidWorld_met (os : Os) (args : Array Value) : laidMetH Tryd.prog [("errors.errorType", Rows.laid_errors_errorType)] ((laidWorld os).forCall (fun _ _ => 0) ⟨#[], args, []⟩).memory :=
  laidMetH_of_parts (laidMet_nil _ _) (by kernel_rfl)
set_option maxRecDepth 100000 in
theorem lifted (os : Os) (started : os.Started) (H : Type) (enc : TypeId × Value → H) :
    ReturnsInHanded {} Tryd.checked os 3 .any (fun w args => (Rows.packFieldsSpec.pre enc Tryd.prog Tryd.f3 Rows.packFieldsRow.domain false w args ∧ laidMetH Tryd.prog [("errors.errorType", Rows.laid_errors_errorType)] w) ∧ sizedMet enc Tryd.prog Tryd.f3 (OpenSpec.ofChange Rows.packFieldsSpec) false w args)
      (Rows.packFieldsSpec.post enc Tryd.prog Tryd.f3 false true false false) := by
  refine returnsInHanded_of_change_and (C := Tryd.checked) (X := fun w _ => laidMetH Tryd.prog [("errors.errorType", Rows.laid_errors_errorType)] w) (fun _ _ _ hh h => h.of_heap hh) own started (by kernel_rfl) Tryd.func3
    (ChangeSpec.witness_at (enc := enc) (C := Tryd.checked) (os := os) (X := fun w _ => laidMetH Tryd.prog [("errors.errorType", Rows.laid_errors_errorType)] w) false (laidWorld os) #[.slice none 0 0, .slice none 0 0] 8 rfl (by kernel_rfl) (by kernel_rfl) (by kernel_rfl) (by kernel_rfl) (by kernel_rfl) (laidWorld_met os _)) ?_
  intro W base args ds gs before hval0 hW hcnd hsz0 hL _
  have hg := handle_of_laid hL
  have hsz : (DataW.weightsEach Tryd.prog (Tryd.f3.params.toList ++ Rows.packFieldsSpec.plain.varTypes Tryd.prog) (ds ++ gs)).all (· ≤ reachBytes) = true := hsz0
  have hval : ∀ (j : Nat) t v, Tryd.f3.params[j]? = some t → args[j]? = some v → Value.okWide Tryd.prog W .any base t v := hval0
  have hW' := hW
  obtain ⟨p, q, hA0, hV, rfl, hfz, hnd⟩ := hW
  have hA : DataW.TrodAll enc Tryd.prog W 0 (fun _ => true) true Tryd.f3.params.toList args.toList ds p := hA0
  rw [Tryd.params3] at hA hval hsz
  obtain ⟨v0, vs0, d0, ds0, p0, q0, hargs, rfl, rfl, h0, r0⟩ := trodAll_cons hA
  obtain ⟨v1, vs1, d1, ds1, p1, q1, rfl, rfl, rfl, h1, r1⟩ := trodAll_cons r0
  obtain ⟨rfl, rfl, rfl⟩ := trodAll_nil r1
  obtain rfl : args = #[v0, v1] := by cases args; simp_all
  obtain ⟨rfl, rfl⟩ := trodVars_none hV
  obtain ⟨a0, len0, cap0, rfl⟩ := okWide_slice Tryd.underlying22 (hval 0 22 v0 rfl rfl)
  have k0 := h0
  have lt0 : ∀ x ∈ p0, x.block < W.heap.size := by obtain ⟨m, hm⟩ := k0; exact DataW.trod_lt m _ _ _ hm
  obtain ⟨l, hl, hok, hrd⟩ := row_flds h0 (wt_of hsz (j := 0) rfl rfl)
  obtain ⟨a1, len1, cap1, rfl⟩ := okWide_slice Tryd.underlying23 (hval 1 23 v1 rfl rfl)
  have k1 := h1
  have lt1 : ∀ x ∈ p1, x.block < W.heap.size := by obtain ⟨m, hm⟩ := k1; exact DataW.trod_lt m _ _ _ hm
  obtain ⟨b, hbl, hbb, hrd1⟩ := row_u8s h1 (wt_of hsz (j := 1) rfl rfl)
  clear hA0 hval0 hsz0 hsz
  refine (law_calls (ps := [.one .lent, .one .lent]) (sims 3 0 _ (by rw [show sg 3 = [(0, (⟨[.one .lent, .one .lent], [.one .fz]⟩ : Sig))] from by kernel_rfl]; exact List.mem_singleton.2 rfl)) hg (xss := [[flds l], [u8s b]]) (cs := [.slice a0 len0 cap0, .slice a1 len1 cap1]) ⟨.cons (by simp [flds]) hrd .nil, .cons (by simp [u8s]) hrd1 .nil, trivial⟩ rfl (PackFields_ok l b hok hl hbl hbb)).mono fun e W' ⟨he, bel⟩ => ?_
  subst he
  exact ⟨_, rfl, _, _, _, [], _, [], hW', trodAll_mk1 (shut_bool Tryd.underlying4 _), (trodAll_cons_mk (Below.trod laidOut (by kernel_rfl) (of_decide_eq_true (by kernel_rfl)) k0 bel lt0) (trodAll_cons_mk (Below.trod laidOut (by kernel_rfl) (of_decide_eq_true (by kernel_rfl)) k1 bel lt1) trodAll_mk0)), rfl, bel.frame _, fun h => by cases h⟩
theorem over : Rows.packFieldsRow.holds Tryd.pinned (OpenSpec.ofChange Rows.packFieldsSpec) :=
  OpenClaim.holds_of_wide 3 Tryd.f3 rfl rfl rfl rfl rfl rfl rfl ⟨rfl, rfl, rfl, rfl, rfl⟩ rfl rfl rfl rfl rfl (by kernel_rfl) Tryd.func3 (by kernel_rfl)
    (of_decide_eq_true (by kernel_rfl)) (by unfold Func.isWrapper; first | (rw [if_pos (by decide +kernel)]; kernel_rfl) | (rw [if_neg (by decide +kernel)]; exact ⟨rfl, rfl⟩))
    (fun os started H enc _ => lifted os started H enc)
theorem proved : Rows.PackFieldsSaid := over
theorem carded : Rows.PackFieldsCardSaid :=
  Claim7.holds_tied_plain_at .later [] [.handle] true (true, "24ed4fe5a1da21cde87c8d3c06ca3cc70e82c572295f7011edf36be2448f9101") true
    proved (fun _ h => by cases h) (by kernel_rfl) (fun _ h => by cases h) packFields_row_tie rfl ⟨rfl, rfl⟩ (by kernel_rfl) rfl
    (fun f fn hf hfn => by
      obtain rfl : f = 3 := Option.some.inj ((show Tryd.prog.funcNamed "colloquy/colloquylaw06.PackFields" = some 3 by kernel_rfl).symm.trans hf) |>.symm
      obtain rfl : fn = Tryd.f3 := (Option.some.inj (Tryd.func3.symm.trans hfn)).symm
      exact ⟨by kernel_rfl, fun j t ht => by
        rw [Tryd.params3] at ht
        rcases j with _ | j
        · have ht' : t = 22 := by simpa using ht.symm
          subst ht'
          exact (show Tryd.prog.wantsStandIn 22 = false by kernel_rfl)
        rcases j with _ | j
        · have ht' : t = 23 := by simpa using ht.symm
          subst ht'
          exact (show Tryd.prog.wantsStandIn 23 = false by kernel_rfl)
        simp at ht⟩)
    (by kernel_rfl)
end Go.Proofs.YtogfkdpgkloljaaDoor.packFields
namespace Go.Proofs.YtogfkdpgkloljaaDoor
theorem packFields_holds : Rows.PackFieldsCardSaid := packFields.carded
#print axioms packFields_holds
end Go.Proofs.YtogfkdpgkloljaaDoor
