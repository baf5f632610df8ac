/-
  The law MonBack: for every input that can be read it returns true, and each argument reads behind the call as it read before. Condition: the row's own cells alone (the package variable errors.errorType starts as the library's text lays it: tied by the card).
-/
import Derived.Test.YtodfomkhhfcnhaaDoorRows
import Derived.Test.YtodfomkhhfcnhaaDoorPMonBackx9
import Derived.Test.YtodfomkhhfcnhaaDoorPureMonBack
import Derived.Test.YtodfomkhhfcnhaaDoorCards
import Derived.Test.YtodfomkhhfcnhaaDoorTie
import Derived.WalkKit
import Derived.ProofKit
import Derived.OpenShut
import Derived.ShutString
import Derived.ChangeOld
import Derived.Below
import Derived.SizedLaws
import Derived.ChangeSame
import Derived.ChangeVars
import Derived.JoinedOf
import Derived.RowKit
import Derived.RowKitTokens
import Derived.LaidLaws
import Derived.LaidHandle
import Derived.Stop.Joined
import Derived.SevenTiedAt
import Derived.Test.YtodfomkhhfcnhaaDoorV1
import Derived.Test.YtodfomkhhfcnhaaDoorOpens
namespace Go.Proofs.YtodfomkhhfcnhaaDoor.monBack
open Go.ChangeShapes Go.WideShapes Go.ChangeAt Go.RowKit
open Go.ChangeMaps (open_string shut_string)
set_option linter.unusedVariables false
theorem own : ownKnob Tryd.prog.godebug = none := by kernel_rfl
theorem laidOut : laidOutB Tryd.prog = true := by kernel_rfl
def IsRow (k : IntKind) (w : World) (a : Option Addr) (len cap : Nat) (zs : List Int) : Prop :=
  (a = none ∧ len = 0 ∧ cap = 0 ∧ zs = []) ∨
  ∃ x, a = some x ∧ len ≤ cap ∧ cap ≤ maxLen ∧ zs.length = cap ∧ (∀ i, i < zs.length → w.cell? (x.add i) = some (.int k (zs.getD i 0))) ∧ ∀ n ∈ zs, (Lit.int k n).wf = true
open Go.Proofs.YtodfomkhhfcnhaaDoor.PMonBack Go.Proofs.YtodfomkhhfcnhaaDoorW.PrintWords
theorem o62 : Opens.Opens Tryd.prog 62 k62 (fun x => ((Lit.int .i64 x.f0).wf = true) ∧ ((Lit.int .i64 x.f1).wf = true) ∧ ((Lit.int .i64 x.f2).wf = true)) :=
  (Opens.opens_iso (fun p => ⟨p.1, p.2.1, p.2.2⟩) (fun _ => rfl) (Opens.opens_struct (fs := _) (l := _) Tryd.underlying62 rfl (by kernel_rfl) (Opens.opensF_cons (Opens.opens_int Tryd.underlying3 (by kernel_rfl)) (by kernel_rfl) (Opens.opensF_cons (Opens.opens_int Tryd.underlying3 (by kernel_rfl)) (by kernel_rfl) (Opens.opensF_last (Opens.opens_int Tryd.underlying3 (by kernel_rfl)) (by kernel_rfl)))))).weaken (fun x h => by first | exact h | (simp only [true_and, and_true, and_assoc] at h ⊢; exact h) | simpa [and_assoc] using h)
theorem o25 : Opens.Opens Tryd.prog 25 k25 (fun x => ((Lit.int .i64 x.f0).wf = true) ∧ (x.f1.length ≤ maxLen ∧ x.f1.length * 24 ≤ 140737488351232 ∧ ∀ y1_ ∈ x.f1, ((Lit.int .i64 y1_.f0).wf = true) ∧ ((Lit.int .i64 y1_.f1).wf = true) ∧ ((Lit.int .i64 y1_.f2).wf = true))) :=
  (Opens.opens_iso (fun p => ⟨p.1, p.2⟩) (fun _ => rfl) (Opens.opens_struct (fs := _) (l := _) Tryd.underlying25 rfl (by kernel_rfl) (Opens.opensF_cons (Opens.opens_int Tryd.underlying3 (by kernel_rfl)) (by kernel_rfl) (Opens.opensF_last (Opens.opens_slice 62 Tryd.underlying23 (by kernel_rfl) (B := 24) (by kernel_rfl) o62) (by kernel_rfl))))).weaken (fun x h => by first | exact h | (simp only [true_and, and_true, and_assoc] at h ⊢; exact h) | simpa [and_assoc] using h)
theorem o28 : Opens.Opens Tryd.prog 28 k28 (fun x => ((Lit.int .i64 x.f0).wf = true) ∧ ((Lit.int .i64 x.f1).wf = true) ∧ ((Lit.int .i64 x.f2).wf = true) ∧ (x.f3.length ≤ maxLen ∧ x.f3.length * 8 ≤ 140737488351232 ∧ ∀ y1_ ∈ x.f3, (Lit.int .i64 y1_).wf = true)) :=
  (Opens.opens_iso (fun p => ⟨p.1, p.2.1, p.2.2.1, p.2.2.2⟩) (fun _ => rfl) (Opens.opens_struct (fs := _) (l := _) Tryd.underlying28 rfl (by kernel_rfl) (Opens.opensF_cons (Opens.opens_int Tryd.underlying3 (by kernel_rfl)) (by kernel_rfl) (Opens.opensF_cons (Opens.opens_int Tryd.underlying3 (by kernel_rfl)) (by kernel_rfl) (Opens.opensF_cons (Opens.opens_int Tryd.underlying3 (by kernel_rfl)) (by kernel_rfl) (Opens.opensF_last (Opens.opens_slice 3 Tryd.underlying26 (by kernel_rfl) (B := 8) (by kernel_rfl) (Opens.opens_int Tryd.underlying3 (by kernel_rfl))) (by kernel_rfl))))))).weaken (fun x h => by first | exact h | (simp only [true_and, and_true, and_assoc] at h ⊢; exact h) | simpa [and_assoc] using h)
theorem et : Tryd.prog.globalNamed "errors.errorType" = some 0 := by kernel_rfl
theorem rt : (Tryd.prog.cutTypes.find? (·.1 == "internal/reflectlite.rtype")).map (·.2) = some 90 := by kernel_rfl
theorem oneRow : ((List.range 133).filter fun t => Tryd.prog.rowNamed t [101, 114, 114, 111, 114]) = [38] := by kernel_rfl
theorem tsize : Tryd.prog.types.size = 133 := by kernel_rfl
theorem handle_of_laid {W : World} (h : laidMetH Tryd.prog [("errors.errorType", Rows.laid_errors_errorType)] W) : Go.Proofs.YtodfomkhhfcnhaaDoor.AsNum.GP W := by
  have h' : laidMet Tryd.prog [] W ∧ handlesMet Tryd.prog [("errors.errorType", Rows.laid_errors_errorType)] W := h
  obtain ⟨name, u, ty, e1, e2, e3, e4, e5⟩ := h'.2 _ (List.mem_singleton.2 rfl)
  have en : name = [101, 114, 114, 111, 114] := (Option.some.inj e1).symm
  subst en
  obtain rfl := Option.some.inj (rt.symm.trans e2)
  have hm : ty ∈ (List.range 133).filter fun t => Tryd.prog.rowNamed t [101, 114, 114, 111, 114] := List.mem_filter.2 ⟨List.mem_range.2 (by rw [← tsize]; exact e3), e4⟩
  rw [oneRow] at hm
  obtain rfl := List.mem_singleton.1 hm
  have hh : typeHandle Tryd.prog 38 = .pointer (some ⟨1, 38, none⟩) := by kernel_rfl
  rw [hh] at e5
  simpa [Go.Proofs.YtodfomkhhfcnhaaDoor.AsNum.GP] using World.var?_cell et e5 0
noncomputable def laidWorld (os : Os) : World :=
  let w0 := World.holding Tryd.prog os ⟨#[], #[], []⟩
  { w0 with heap := w0.heap.modify 0 fun
      | .cells _ t frozen => .cells #[.iface 90 (.agg #[.pointer (some ⟨1, 38, none⟩)])] t frozen
      | o => o }
theorem laidWorld_met (os : Os) (args : Array Value) : laidMetH Tryd.prog [("errors.errorType", Rows.laid_errors_errorType)] ((laidWorld os).forCall (fun _ _ => 0) ⟨#[], args, []⟩).memory :=
  laidMetH_of_parts (laidMet_nil _ _) (by kernel_rfl)
set_option maxRecDepth 100000 in
theorem lifted (os : Os) (started : os.Started) (H : Type) (enc : TypeId × Value → H) :
    ReturnsInHanded {} Tryd.checked os 4 .any (fun w args => (Rows.monBackSpec.pre enc Tryd.prog Tryd.f4 Rows.monBackRow.domain false w args ∧ laidMetH Tryd.prog [("errors.errorType", Rows.laid_errors_errorType)] w) ∧ sizedMet enc Tryd.prog Tryd.f4 (OpenSpec.ofChange Rows.monBackSpec) false w args)
      (Rows.monBackSpec.post enc Tryd.prog Tryd.f4 false true false false) := by
  refine returnsInHanded_of_change_and (C := Tryd.checked) (X := fun w _ => laidMetH Tryd.prog [("errors.errorType", Rows.laid_errors_errorType)] w) (fun _ _ _ hh h => h.of_heap hh) own started (by kernel_rfl) Tryd.func4
    (ChangeSpec.witness_at (enc := enc) (C := Tryd.checked) (os := os) (X := fun w _ => laidMetH Tryd.prog [("errors.errorType", Rows.laid_errors_errorType)] w) false (laidWorld os) #[.slice none 0 0, .agg #[.int .i64 0, .slice none 0 0], .slice none 0 0] 8 rfl (by kernel_rfl) (by kernel_rfl) (by kernel_rfl) (by kernel_rfl) (by kernel_rfl) (laidWorld_met os _)) ?_
  intro W base args ds gs before hval0 hW hcnd hsz0 hL _
  have hg := handle_of_laid hL
  have hsz : (DataW.weightsEach Tryd.prog (Tryd.f4.params.toList ++ Rows.monBackSpec.plain.varTypes Tryd.prog) (ds ++ gs)).all (· ≤ reachBytes) = true := hsz0
  have hval : ∀ (j : Nat) t v, Tryd.f4.params[j]? = some t → args[j]? = some v → Value.okWide Tryd.prog W .any base t v := hval0
  have hW' := hW
  obtain ⟨p, q, hA0, hV, rfl, hfz, hnd⟩ := hW
  have hA : DataW.TrodAll enc Tryd.prog W 0 (fun _ => true) true Tryd.f4.params.toList args.toList ds p := hA0
  rw [Tryd.params4] at hA hval hsz
  obtain ⟨v0, vs0, d0, ds0, p0, q0, hargs, rfl, rfl, h0, r0⟩ := trodAll_cons hA
  obtain ⟨v1, vs1, d1, ds1, p1, q1, rfl, rfl, rfl, h1, r1⟩ := trodAll_cons r0
  obtain ⟨v2, vs2, d2, ds2, p2, q2, rfl, rfl, rfl, h2, r2⟩ := trodAll_cons r1
  obtain ⟨rfl, rfl, rfl⟩ := trodAll_nil r2
  obtain rfl : args = #[v0, v1, v2] := by cases args; simp_all
  obtain ⟨rfl, rfl⟩ := trodVars_none hV
  obtain ⟨a0, len0, cap0, rfl⟩ := okWide_slice Tryd.underlying22 (hval 0 22 v0 rfl rfl)
  have k0 := h0
  have lt0 : ∀ x ∈ p0, x.block < W.heap.size := by obtain ⟨m, hm⟩ := k0; exact DataW.trod_lt m _ _ _ hm
  obtain ⟨z0, w0⟩ : ∃ zs, IsRow .u8 W a0 len0 cap0 zs := by
    obtain ⟨fuel, hf⟩ := h0
    rcases open_ints Tryd.underlying22 Tryd.underlying5 (by kernel_rfl) hf with ⟨hcs, _⟩ | ⟨x, l, c, zs, hcs, _, hl, hm, hz, _, hcell, hwz⟩
    · simp [Value.cells] at hcs
      obtain ⟨rfl, rfl, rfl⟩ := hcs
      exact ⟨[], .inl ⟨rfl, rfl, rfl, rfl⟩⟩
    · simp [Value.cells] at hcs
      obtain ⟨rfl, rfl, rfl⟩ := hcs
      exact ⟨zs, .inr ⟨_, rfl, hl, hm, by simpa using hz, hcell, hwz⟩⟩
  have y0 : len0 * 1 ≤ 140737488351232 := Go.Proofs.YtodfomkhhfcnhaaDoorW.PrintWords.sized_ints hsz (j := 0) (t := 22) rfl rfl Tryd.underlying22 Tryd.underlying5 (by kernel_rfl) (by kernel_rfl) h0
  obtain ⟨cs1, rfl, hz1⟩ := okWide_struct Tryd.underlying25 (hval 1 25 v1 rfl rfl)
  have k1 := h1
  have lt1 : ∀ x ∈ p1, x.block < W.heap.size := by obtain ⟨m, hm⟩ := k1; exact DataW.trod_lt m _ _ _ hm
  obtain ⟨x1, hx1, wx1⟩ := Opens.param o25 h1 (Opens.wt_of hsz (j := 1) (t := 25) rfl rfl)
  obtain ⟨cs1⟩ := cs1
  obtain ⟨A1_1, c1_1, he1, hc1_1, hr1_1⟩ := k25_open hx1
  change cs1 = _ at he1
  subst he1
  obtain ⟨a2, len2, cap2, rfl⟩ := okWide_slice Tryd.underlying55 (hval 2 55 v2 rfl rfl)
  have k2 := h2
  have lt2 : ∀ x ∈ p2, x.block < W.heap.size := by obtain ⟨m, hm⟩ := k2; exact DataW.trod_lt m _ _ _ hm
  obtain ⟨l2, rfl, hc2, m2, z2, hr2, e2⟩ := Opens.param_row Tryd.underlying55 o28 h2 (Opens.wt_of hsz (j := 2) (t := 55) rfl rfl) (B := 48) (by kernel_rfl)
  clear hA0 hval0 hsz0 hsz
  refine (PMonBack.colloquylaw20_MonBack.walk Pure.MonBack a0 len0 cap0 z0 x1.f0 A1_1 c1_1 x1.f1 a2 cap2 l2 W hg w0 y0 wx1.1 hr1_1 hc1_1 wx1.2.1 wx1.2.2.1 wx1.2.2.2 hr2 hc2 m2 z2 e2).mono fun e W' ⟨he, bel⟩ => ?_
  subst he
  exact ⟨_, rfl, _, _, _, [], _, [], hW', trodAll_mk1 (shut_bool Tryd.underlying4 _), (trodAll_cons_mk (Below.trod laidOut (by kernel_rfl) (of_decide_eq_true (by kernel_rfl)) k0 bel lt0) (trodAll_cons_mk (Below.trod laidOut (by kernel_rfl) (of_decide_eq_true (by kernel_rfl)) k1 bel lt1) (trodAll_cons_mk (Below.trod laidOut (by kernel_rfl) (of_decide_eq_true (by kernel_rfl)) k2 bel lt2) trodAll_mk0))), rfl, bel.frame _, fun h => by cases h⟩
theorem over : Rows.monBackRow.holds Tryd.pinned (OpenSpec.ofChange Rows.monBackSpec) :=
  OpenClaim.holds_of_wide 4 Tryd.f4 rfl rfl rfl rfl rfl rfl rfl ⟨rfl, rfl, rfl, rfl, rfl⟩ rfl rfl rfl rfl rfl (by kernel_rfl) Tryd.func4 (by kernel_rfl)
    (of_decide_eq_true (by kernel_rfl)) (by unfold Func.isWrapper; first | (rw [if_pos (by decide +kernel)]; kernel_rfl) | (rw [if_neg (by decide +kernel)]; exact ⟨rfl, rfl⟩))
    (fun os started H enc _ => lifted os started H enc)
theorem proved : Rows.MonBackSaid := over
theorem carded : Rows.MonBackCardSaid :=
  Claim7.holds_tied_plain_at .later [] [.handle] true (true, "a867ecacf9ea7cce418fd67316155c53726ba8083aeea446d74c5bc6f7118f33") true
    proved (fun _ h => by cases h) (by kernel_rfl) (fun _ h => by cases h) monBack_row_tie rfl ⟨rfl, rfl⟩ (by kernel_rfl) rfl
    (fun f fn hf hfn => by
      obtain rfl : f = 4 := Option.some.inj ((show Tryd.prog.funcNamed "colloquy/colloquylaw20.MonBack" = some 4 by kernel_rfl).symm.trans hf) |>.symm
      obtain rfl : fn = Tryd.f4 := (Option.some.inj (Tryd.func4.symm.trans hfn)).symm
      exact ⟨by kernel_rfl, fun j t ht => by
        rw [Tryd.params4] at ht
        rcases j with _ | j
        · have ht' : t = 22 := by simpa using ht.symm
          subst ht'
          exact (show Tryd.prog.wantsStandIn 22 = false by kernel_rfl)
        rcases j with _ | j
        · have ht' : t = 25 := by simpa using ht.symm
          subst ht'
          exact (show Tryd.prog.wantsStandIn 25 = false by kernel_rfl)
        rcases j with _ | j
        · have ht' : t = 55 := by simpa using ht.symm
          subst ht'
          exact (show Tryd.prog.wantsStandIn 55 = false by kernel_rfl)
        simp at ht⟩)
    (by kernel_rfl)
end Go.Proofs.YtodfomkhhfcnhaaDoor.monBack
namespace Go.Proofs.YtodfomkhhfcnhaaDoor
theorem monBack_holds : Rows.MonBackCardSaid := monBack.carded
#print axioms monBack_holds
end Go.Proofs.YtodfomkhhfcnhaaDoor
