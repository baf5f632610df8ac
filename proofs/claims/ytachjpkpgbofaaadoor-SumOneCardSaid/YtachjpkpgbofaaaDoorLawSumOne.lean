/-
  The law SumOne: for every input that can be read it returns true, and each argument reads behind the call as it read before. Condition: the row's own cells alone (the package variable errors.errorType starts as the library's text lays it: tied by the card).
-/
import Derived.Test.YtachjpkpgbofaaaDoorRows
import Derived.Test.YtachjpkpgbofaaaDoorPSumOnex2
import Derived.Test.YtachjpkpgbofaaaDoorPureSumOne
import Derived.Test.YtachjpkpgbofaaaDoorCards
import Derived.Test.YtachjpkpgbofaaaDoorTie
import Derived.WalkKit
import Derived.ProofKit
import Derived.OpenShut
import Derived.ShutString
import Derived.ChangeOld
import Derived.Below
import Derived.SizedLaws
import Derived.ChangeSame
import Derived.ChangeVars
import Derived.JoinedOf
import Derived.RowKit
import Derived.RowKitTokens
import Derived.LaidLaws
import Derived.LaidHandle
import Derived.Stop.Joined
import Derived.SevenTiedAt
import Derived.Test.YtachjpkpgbofaaaDoorV1
import Derived.Test.YtachjpkpgbofaaaDoorOpens
namespace Go.Proofs.YtachjpkpgbofaaaDoor.sumOne
open Go.ChangeShapes Go.WideShapes Go.ChangeAt Go.RowKit
open Go.ChangeMaps (open_string shut_string)
set_option linter.unusedVariables false
theorem own : ownKnob Tryd.prog.godebug = none := by kernel_rfl
theorem laidOut : laidOutB Tryd.prog = true := by kernel_rfl
def IsRow (k : IntKind) (w : World) (a : Option Addr) (len cap : Nat) (zs : List Int) : Prop :=
  (a = none ∧ len = 0 ∧ cap = 0 ∧ zs = []) ∨
  ∃ x, a = some x ∧ len ≤ cap ∧ cap ≤ maxLen ∧ zs.length = cap ∧ (∀ i, i < zs.length → w.cell? (x.add i) = some (.int k (zs.getD i 0))) ∧ ∀ n ∈ zs, (Lit.int k n).wf = true
open Go.Proofs.YtachjpkpgbofaaaDoor.PSumOne Go.Proofs.YtachjpkpgbofaaaDoorW.PrintWords
theorem o36 : Opens.Opens Tryd.prog 36 k36 (fun x => (x.f0.length ≤ maxLen ∧ x.f0.length * 1 ≤ 140737488351232 ∧ ∀ y1_ ∈ x.f0, (Lit.int .u8 y1_).wf = true) ∧ (x.f1.length ≤ maxLen ∧ x.f1.length * 1 ≤ 140737488351232 ∧ ∀ y1_ ∈ x.f1, (Lit.int .u8 y1_).wf = true) ∧ (x.f2.length ≤ maxLen ∧ x.f2.length * 1 ≤ 140737488351232 ∧ ∀ y1_ ∈ x.f2, (Lit.int .u8 y1_).wf = true)) :=
  (Opens.opens_iso (fun p => ⟨p.1, p.2.1, p.2.2⟩) (fun _ => rfl) (Opens.opens_array (l := [(22, 0), (22, 1), (22, 2)]) Tryd.underlying36 (by kernel_rfl) (by kernel_rfl) (Opens.opensF_cons (Opens.opens_slice 5 Tryd.underlying22 (by kernel_rfl) (B := 1) (by kernel_rfl) (Opens.opens_int Tryd.underlying5 (by kernel_rfl))) (by kernel_rfl) (Opens.opensF_cons (Opens.opens_slice 5 Tryd.underlying22 (by kernel_rfl) (B := 1) (by kernel_rfl) (Opens.opens_int Tryd.underlying5 (by kernel_rfl))) (by kernel_rfl) (Opens.opensF_last (Opens.opens_slice 5 Tryd.underlying22 (by kernel_rfl) (B := 1) (by kernel_rfl) (Opens.opens_int Tryd.underlying5 (by kernel_rfl))) (by kernel_rfl)))))).weaken (fun x h => by first | exact h | (simp only [true_and, and_true, and_assoc] at h ⊢; exact h) | simpa [and_assoc] using h)
theorem o38 : Opens.Opens Tryd.prog 38 k38 (fun x => ((Lit.int .u16 x.f0).wf = true) ∧ ((Lit.int .u16 x.f1).wf = true)) :=
  (Opens.opens_iso (fun p => ⟨p.1, p.2⟩) (fun _ => rfl) (Opens.opens_array (l := [(37, 0), (37, 1)]) Tryd.underlying38 (by kernel_rfl) (by kernel_rfl) (Opens.opensF_cons (Opens.opens_int Tryd.underlying37 (by kernel_rfl)) (by kernel_rfl) (Opens.opensF_last (Opens.opens_int Tryd.underlying37 (by kernel_rfl)) (by kernel_rfl))))).weaken (fun x h => by first | exact h | (simp only [true_and, and_true, and_assoc] at h ⊢; exact h) | simpa [and_assoc] using h)
theorem et : Tryd.prog.globalNamed "errors.errorType" = some 0 := by kernel_rfl
theorem rt : (Tryd.prog.cutTypes.find? (·.1 == "internal/reflectlite.rtype")).map (·.2) = some 63 := by kernel_rfl
theorem oneRow : ((List.range 104).filter fun t => Tryd.prog.rowNamed t [101, 114, 114, 111, 114]) = [25] := by kernel_rfl
theorem tsize : Tryd.prog.types.size = 104 := by kernel_rfl
theorem handle_of_laid {W : World} (h : laidMetH Tryd.prog [("errors.errorType", Rows.laid_errors_errorType)] W) : Go.Proofs.YtachjpkpgbofaaaDoor.AsNum.GP W := by
  have h' : laidMet Tryd.prog [] W ∧ handlesMet Tryd.prog [("errors.errorType", Rows.laid_errors_errorType)] W := h
  obtain ⟨name, u, ty, e1, e2, e3, e4, e5⟩ := h'.2 _ (List.mem_singleton.2 rfl)
  have en : name = [101, 114, 114, 111, 114] := (Option.some.inj e1).symm
  subst en
  obtain rfl := Option.some.inj (rt.symm.trans e2)
  have hm : ty ∈ (List.range 104).filter fun t => Tryd.prog.rowNamed t [101, 114, 114, 111, 114] := List.mem_filter.2 ⟨List.mem_range.2 (by rw [← tsize]; exact e3), e4⟩
  rw [oneRow] at hm
  obtain rfl := List.mem_singleton.1 hm
  have hh : typeHandle Tryd.prog 25 = .pointer (some ⟨1, 25, none⟩) := by kernel_rfl
  rw [hh] at e5
  simpa [Go.Proofs.YtachjpkpgbofaaaDoor.AsNum.GP] using World.var?_cell et e5 0
noncomputable def laidWorld (os : Os) : World :=
  let w0 := World.holding Tryd.prog os ⟨#[], #[], []⟩
  { w0 with heap := w0.heap.modify 0 fun
      | .cells _ t frozen => .cells #[.iface 63 (.agg #[.pointer (some ⟨1, 25, none⟩)])] t frozen
      | o => o }
theorem laidWorld_met (os : Os) (args : Array Value) : laidMetH Tryd.prog [("errors.errorType", Rows.laid_errors_errorType)] ((laidWorld os).forCall (fun _ _ => 0) ⟨#[], args, []⟩).memory :=
  laidMetH_of_parts (laidMet_nil _ _) (by kernel_rfl)
set_option maxRecDepth 100000 in
theorem lifted (os : Os) (started : os.Started) (H : Type) (enc : TypeId × Value → H) :
    ReturnsInHanded {} Tryd.checked os 4 .any (fun w args => (Rows.sumOneSpec.pre enc Tryd.prog Tryd.f4 Rows.sumOneRow.domain false w args ∧ laidMetH Tryd.prog [("errors.errorType", Rows.laid_errors_errorType)] w) ∧ sizedMet enc Tryd.prog Tryd.f4 (OpenSpec.ofChange Rows.sumOneSpec) false w args)
      (Rows.sumOneSpec.post enc Tryd.prog Tryd.f4 false true false false) := by
  refine returnsInHanded_of_change_and (C := Tryd.checked) (X := fun w _ => laidMetH Tryd.prog [("errors.errorType", Rows.laid_errors_errorType)] w) (fun _ _ _ hh h => h.of_heap hh) own started (by kernel_rfl) Tryd.func4
    (ChangeSpec.witness_at (enc := enc) (C := Tryd.checked) (os := os) (X := fun w _ => laidMetH Tryd.prog [("errors.errorType", Rows.laid_errors_errorType)] w) false (laidWorld os) #[.agg #[.slice none 0 0, .slice none 0 0, .slice none 0 0], .agg #[.int .u16 0, .int .u16 0]] 8 rfl (by kernel_rfl) (by kernel_rfl) (by kernel_rfl) (by kernel_rfl) (by kernel_rfl) (laidWorld_met os _)) ?_
  intro W base args ds gs before hval0 hW hcnd hsz0 hL _
  have hg := handle_of_laid hL
  have hsz : (DataW.weightsEach Tryd.prog (Tryd.f4.params.toList ++ Rows.sumOneSpec.plain.varTypes Tryd.prog) (ds ++ gs)).all (· ≤ reachBytes) = true := hsz0
  have hval : ∀ (j : Nat) t v, Tryd.f4.params[j]? = some t → args[j]? = some v → Value.okWide Tryd.prog W .any base t v := hval0
  have hW' := hW
  obtain ⟨p, q, hA0, hV, rfl, hfz, hnd⟩ := hW
  have hA : DataW.TrodAll enc Tryd.prog W 0 (fun _ => true) true Tryd.f4.params.toList args.toList ds p := hA0
  rw [Tryd.params4] at hA hval hsz
  obtain ⟨v0, vs0, d0, ds0, p0, q0, hargs, rfl, rfl, h0, r0⟩ := trodAll_cons hA
  obtain ⟨v1, vs1, d1, ds1, p1, q1, rfl, rfl, rfl, h1, r1⟩ := trodAll_cons r0
  obtain ⟨rfl, rfl, rfl⟩ := trodAll_nil r1
  obtain rfl : args = #[v0, v1] := by cases args; simp_all
  obtain ⟨rfl, rfl⟩ := trodVars_none hV
  obtain ⟨cs0, rfl, hz0⟩ := Opens.okWide_array Tryd.underlying36 (hval 0 36 v0 rfl rfl)
  have k0 := h0
  have lt0 : ∀ x ∈ p0, x.block < W.heap.size := by obtain ⟨m, hm⟩ := k0; exact DataW.trod_lt m _ _ _ hm
  obtain ⟨x0, hx0, wx0⟩ := Opens.param o36 h0 (Opens.wt_of hsz (j := 0) (t := 36) rfl rfl)
  obtain ⟨cs0⟩ := cs0
  obtain ⟨A0_0, c0_0, A0_1, c0_1, A0_2, c0_2, he0, hc0_0, hr0_0, hc0_1, hr0_1, hc0_2, hr0_2⟩ := k36_open hx0
  change cs0 = _ at he0
  subst he0
  obtain ⟨cs1, rfl, hz1⟩ := Opens.okWide_array Tryd.underlying38 (hval 1 38 v1 rfl rfl)
  have k1 := h1
  have lt1 : ∀ x ∈ p1, x.block < W.heap.size := by obtain ⟨m, hm⟩ := k1; exact DataW.trod_lt m _ _ _ hm
  obtain ⟨x1, hx1, wx1⟩ := Opens.param o38 h1 (Opens.wt_of hsz (j := 1) (t := 38) rfl rfl)
  obtain ⟨cs1⟩ := cs1
  have he1 := k38_open hx1
  change cs1 = _ at he1
  subst he1
  clear hA0 hval0 hsz0 hsz
  refine (PSumOne.colloquylaw05_SumOne.walk Pure.SumOne A0_0 c0_0 x0.f0 A0_1 c0_1 x0.f1 A0_2 c0_2 x0.f2 x1.f0 x1.f1 W hg hr0_0 hc0_0 wx0.1.1 wx0.1.2.1 wx0.1.2.2 hr0_1 hc0_1 wx0.2.1.1 wx0.2.1.2.1 wx0.2.1.2.2 hr0_2 hc0_2 wx0.2.2.1 wx0.2.2.2.1 wx0.2.2.2.2 wx1.1 wx1.2).mono fun e W' ⟨he, bel⟩ => ?_
  subst he
  exact ⟨_, rfl, _, _, _, [], _, [], hW', trodAll_mk1 (shut_bool Tryd.underlying4 _), (trodAll_cons_mk (Below.trod laidOut (by kernel_rfl) (of_decide_eq_true (by kernel_rfl)) k0 bel lt0) (trodAll_cons_mk (Below.trod laidOut (by kernel_rfl) (of_decide_eq_true (by kernel_rfl)) k1 bel lt1) trodAll_mk0)), rfl, bel.frame _, fun h => by cases h⟩
theorem over : Rows.sumOneRow.holds Tryd.pinned (OpenSpec.ofChange Rows.sumOneSpec) :=
  OpenClaim.holds_of_wide 4 Tryd.f4 rfl rfl rfl rfl rfl rfl rfl ⟨rfl, rfl, rfl, rfl, rfl⟩ rfl rfl rfl rfl rfl (by kernel_rfl) Tryd.func4 (by kernel_rfl)
    (of_decide_eq_true (by kernel_rfl)) (by unfold Func.isWrapper; first | (rw [if_pos (by decide +kernel)]; kernel_rfl) | (rw [if_neg (by decide +kernel)]; exact ⟨rfl, rfl⟩))
    (fun os started H enc _ => lifted os started H enc)
theorem proved : Rows.SumOneSaid := over
theorem carded : Rows.SumOneCardSaid :=
  Claim7.holds_tied_plain_at .later [] [.handle] true (true, "c27951ae411bc0aeab0bc703a3e05c89fb6173c219e4751abb954b7dd96134ad") true
    proved (fun _ h => by cases h) (by kernel_rfl) (fun _ h => by cases h) sumOne_row_tie rfl ⟨rfl, rfl⟩ (by kernel_rfl) rfl
    (fun f fn hf hfn => by
      obtain rfl : f = 4 := Option.some.inj ((show Tryd.prog.funcNamed "colloquy/colloquylaw05.SumOne" = some 4 by kernel_rfl).symm.trans hf) |>.symm
      obtain rfl : fn = Tryd.f4 := (Option.some.inj (Tryd.func4.symm.trans hfn)).symm
      exact ⟨by kernel_rfl, fun j t ht => by
        rw [Tryd.params4] at ht
        rcases j with _ | j
        · have ht' : t = 36 := by simpa using ht.symm
          subst ht'
          exact (show Tryd.prog.wantsStandIn 36 = false by kernel_rfl)
        rcases j with _ | j
        · have ht' : t = 38 := by simpa using ht.symm
          subst ht'
          exact (show Tryd.prog.wantsStandIn 38 = false by kernel_rfl)
        simp at ht⟩)
    (by kernel_rfl)
end Go.Proofs.YtachjpkpgbofaaaDoor.sumOne
namespace Go.Proofs.YtachjpkpgbofaaaDoor
theorem sumOne_holds : Rows.SumOneCardSaid := sumOne.carded
#print axioms sumOne_holds
end Go.Proofs.YtachjpkpgbofaaaDoor
