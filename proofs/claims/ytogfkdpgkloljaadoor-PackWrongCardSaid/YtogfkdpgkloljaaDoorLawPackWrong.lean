/-
  The law PackWrong: for every input that can be read it returns true, and each argument reads behind the call as it read before. Condition: the row's own cells alone (the package variable errors.errorType starts as the library's text lays it: tied by the card).
-/
import Derived.Test.YtogfkdpgkloljaaDoorRows
import Derived.Test.YtogfkdpgkloljaaDoorVd
import Derived.Test.YtogfkdpgkloljaaDoorCards
import Derived.Test.YtogfkdpgkloljaaDoorTie
import Derived.WalkKit
import Derived.ProofKit
import Derived.OpenShut
import Derived.ShutString
import Derived.ChangeOld
import Derived.Below
import Derived.SizedLaws
import Derived.ChangeSame
import Derived.ChangeVars
import Derived.JoinedOf
import Derived.RowKit
import Derived.RowKitTokens
import Derived.LaidLaws
import Derived.LaidHandle
import Derived.Stop.Joined
import Derived.SevenTiedAt
import Derived.Test.YtogfkdpgkloljaaDoorWSized
namespace Go.Proofs.YtogfkdpgkloljaaDoor.packWrong
open Go.ChangeShapes Go.WideShapes Go.ChangeAt Go.RowKit
open Go.ChangeMaps (open_string shut_string)
set_option linter.unusedVariables false
theorem own : ownKnob Tryd.prog.godebug = none := by kernel_rfl
theorem laidOut : laidOutB Tryd.prog = true := by kernel_rfl
def IsRow (k : IntKind) (w : World) (a : Option Addr) (len cap : Nat) (zs : List Int) : Prop :=
  (a = none ∧ len = 0 ∧ cap = 0 ∧ zs = []) ∨
  ∃ x, a = some x ∧ len ≤ cap ∧ cap ≤ maxLen ∧ zs.length = cap ∧ (∀ i, i < zs.length → w.cell? (x.add i) = some (.int k (zs.getD i 0))) ∧ ∀ n ∈ zs, (Lit.int k n).wf = true
open Go.Proofs.YtogfkdpgkloljaaDoorVs
theorem row_rd {w : World} {a : Option Addr} {len cap : Nat} {zs : List Int} (h : IsRow .u8 w a len cap zs) : ∃ l : List Int, l.length = len ∧ (∀ x ∈ l, 0 ≤ x ∧ x < 256) ∧ Rd Tryd.prog (fun b => b < w.heap.size) w (u8s l) (.slice a len cap) := by
  rcases h with ⟨rfl, rfl, rfl, rfl⟩ | ⟨x, rfl, hl, hm, hz, hc, hw⟩
  · exact ⟨[], rfl, by simp, .nil _ _ _⟩
  · refine ⟨zs.take len, by simp; omega, fun y hy => ?_, ?_⟩
    · have h2 := hw y (List.mem_of_mem_take hy)
      have h3 : IntKind.min .u8 ≤ y ∧ y ≤ IntKind.max .u8 := by simpa [Lit.wf] using h2
      have e1 : IntKind.min .u8 = 0 := by decide
      have e2 : IntKind.max .u8 = 255 := by decide
      omega
    · rcases Nat.eq_zero_or_pos len with rfl | hp
      · simpa [u8s] using Rd.nil (P := Tryd.prog) (S := fun b => b < w.heap.size) (w := w) 5 (some x) cap
      · have h0 := hc 0 (by omega)
        have hx : x.block < w.heap.size ∧ x.spot = none := by
          unfold World.cell? at h0
          simp only [Addr.add, if_true] at h0
          split at h0
          · rename_i hh
            refine ⟨(Array.getElem?_eq_some_iff.1 hh).1, ?_⟩
            split at h0
            · cases h0
            · rename_i hs
              simpa using hs
          · cases h0
        obtain ⟨b, o, sp⟩ := x
        obtain ⟨hb, rfl⟩ := hx
        have key := Rd.listS (P := Tryd.prog) (S := fun b => b < w.heap.size) (w := w) 5 ((zs.take len).map (V.int .u8)) b o cap (fun i => .int .u8 (zs.getD i 0)) (by cases zs with | nil => simp at hz; omega | cons z r => cases len with | zero => omega | succ k => simp) (by kernel_rfl) (by kernel_rfl) hb (by simp; omega)
          (fun i hi => by
            have h3 := hc i (by simp at hi; omega)
            unfold Addr.add at h3
            by_cases hi0 : i = 0
            · subst hi0; simpa using h3
            · rw [if_neg hi0] at h3; exact h3)
          (fun i hi => by simp)
          (fun i hi => by
            have hi2 : i < zs.length := by simp at hi; omega
            have e : ((zs.take len).map (V.int .u8))[i] = V.int .u8 (zs.getD i 0) := by simp [List.getD_eq_getElem?_getD, List.getElem?_eq_getElem hi2]
            rw [e]
            exact .int _ _)
        have e2 : ((zs.take len).map (V.int .u8)).length = len := by simp; omega
        rw [e2] at key
        exact key
theorem et : Tryd.prog.globalNamed "errors.errorType" = some 0 := by kernel_rfl
theorem rt : (Tryd.prog.cutTypes.find? (·.1 == "internal/reflectlite.rtype")).map (·.2) = some 85 := by kernel_rfl
theorem oneRow : ((List.range 127).filter fun t => Tryd.prog.rowNamed t [101, 114, 114, 111, 114]) = [37] := by kernel_rfl
theorem tsize : Tryd.prog.types.size = 127 := by kernel_rfl
theorem handle_of_laid {W : World} (h : laidMetH Tryd.prog [("errors.errorType", Rows.laid_errors_errorType)] W) : Go.Proofs.YtogfkdpgkloljaaDoor.AsNum.GP W := by
  have h' : laidMet Tryd.prog [] W ∧ handlesMet Tryd.prog [("errors.errorType", Rows.laid_errors_errorType)] W := h
  obtain ⟨name, u, ty, e1, e2, e3, e4, e5⟩ := h'.2 _ (List.mem_singleton.2 rfl)
  have en : name = [101, 114, 114, 111, 114] := (Option.some.inj e1).symm
  subst en
  obtain rfl := Option.some.inj (rt.symm.trans e2)
  have hm : ty ∈ (List.range 127).filter fun t => Tryd.prog.rowNamed t [101, 114, 114, 111, 114] := List.mem_filter.2 ⟨List.mem_range.2 (by rw [← tsize]; exact e3), e4⟩
  rw [oneRow] at hm
  obtain rfl := List.mem_singleton.1 hm
  have hh : typeHandle Tryd.prog 37 = .pointer (some ⟨1, 37, none⟩) := by kernel_rfl
  rw [hh] at e5
  simpa [Go.Proofs.YtogfkdpgkloljaaDoor.AsNum.GP] using World.var?_cell et e5 0
noncomputable def laidWorld (os : Os) : World :=
  let w0 := World.holding Tryd.prog os ⟨#[], #[], []⟩
  { w0 with heap := w0.heap.modify 0 fun
      | .cells _ t frozen => .cells #[.iface 85 (.agg #[.pointer (some ⟨1, 37, none⟩)])] t frozen
      | o => o }
theorem laidWorld_met (os : Os) (args : Array Value) : laidMetH Tryd.prog [("errors.errorType", Rows.laid_errors_errorType)] ((laidWorld os).forCall (fun _ _ => 0) ⟨#[], args, []⟩).memory :=
  laidMetH_of_parts (laidMet_nil _ _) (by kernel_rfl)
set_option maxRecDepth 100000 in
theorem lifted (os : Os) (started : os.Started) (H : Type) (enc : TypeId × Value → H) :
    ReturnsInHanded {} Tryd.checked os 5 .any (fun w args => (Rows.packWrongSpec.pre enc Tryd.prog Tryd.f5 Rows.packWrongRow.domain false w args ∧ laidMetH Tryd.prog [("errors.errorType", Rows.laid_errors_errorType)] w) ∧ sizedMet enc Tryd.prog Tryd.f5 (OpenSpec.ofChange Rows.packWrongSpec) false w args)
      (Rows.packWrongSpec.post enc Tryd.prog Tryd.f5 false true false false) := by
  refine returnsInHanded_of_change_and (C := Tryd.checked) (X := fun w _ => laidMetH Tryd.prog [("errors.errorType", Rows.laid_errors_errorType)] w) (fun _ _ _ hh h => h.of_heap hh) own started (by kernel_rfl) Tryd.func5
    (ChangeSpec.witness_at (enc := enc) (C := Tryd.checked) (os := os) (X := fun w _ => laidMetH Tryd.prog [("errors.errorType", Rows.laid_errors_errorType)] w) false (laidWorld os) #[.slice none 0 0, .int .i64 0, .int .i64 0, .int .i64 0] 8 rfl (by kernel_rfl) (by kernel_rfl) (by kernel_rfl) (by kernel_rfl) (by kernel_rfl) (laidWorld_met os _)) ?_
  intro W base args ds gs before hval0 hW hcnd hsz0 hL _
  have hg := handle_of_laid hL
  have hsz : (DataW.weightsEach Tryd.prog (Tryd.f5.params.toList ++ Rows.packWrongSpec.plain.varTypes Tryd.prog) (ds ++ gs)).all (· ≤ reachBytes) = true := hsz0
  have hval : ∀ (j : Nat) t v, Tryd.f5.params[j]? = some t → args[j]? = some v → Value.okWide Tryd.prog W .any base t v := hval0
  have hW' := hW
  obtain ⟨p, q, hA0, hV, rfl, hfz, hnd⟩ := hW
  have hA : DataW.TrodAll enc Tryd.prog W 0 (fun _ => true) true Tryd.f5.params.toList args.toList ds p := hA0
  rw [Tryd.params5] at hA hval hsz
  obtain ⟨v0, vs0, d0, ds0, p0, q0, hargs, rfl, rfl, h0, r0⟩ := trodAll_cons hA
  obtain ⟨v1, vs1, d1, ds1, p1, q1, rfl, rfl, rfl, h1, r1⟩ := trodAll_cons r0
  obtain ⟨v2, vs2, d2, ds2, p2, q2, rfl, rfl, rfl, h2, r2⟩ := trodAll_cons r1
  obtain ⟨v3, vs3, d3, ds3, p3, q3, rfl, rfl, rfl, h3, r3⟩ := trodAll_cons r2
  obtain ⟨rfl, rfl, rfl⟩ := trodAll_nil r3
  obtain rfl : args = #[v0, v1, v2, v3] := by cases args; simp_all
  obtain ⟨rfl, rfl⟩ := trodVars_none hV
  obtain ⟨a0, len0, cap0, rfl⟩ := okWide_slice Tryd.underlying23 (hval 0 23 v0 rfl rfl)
  have k0 := h0
  have lt0 : ∀ x ∈ p0, x.block < W.heap.size := by obtain ⟨m, hm⟩ := k0; exact DataW.trod_lt m _ _ _ hm
  obtain ⟨z0, w0⟩ : ∃ zs, IsRow .u8 W a0 len0 cap0 zs := by
    obtain ⟨fuel, hf⟩ := h0
    rcases open_ints Tryd.underlying23 Tryd.underlying5 (by kernel_rfl) hf with ⟨hcs, _⟩ | ⟨x, l, c, zs, hcs, _, hl, hm, hz, _, hcell, hwz⟩
    · simp [Value.cells] at hcs
      obtain ⟨rfl, rfl, rfl⟩ := hcs
      exact ⟨[], .inl ⟨rfl, rfl, rfl, rfl⟩⟩
    · simp [Value.cells] at hcs
      obtain ⟨rfl, rfl, rfl⟩ := hcs
      exact ⟨zs, .inr ⟨_, rfl, hl, hm, by simpa using hz, hcell, hwz⟩⟩
  have y0 : len0 * 1 ≤ 140737488351232 := Go.Proofs.YtogfkdpgkloljaaDoorW.PrintWords.sized_ints hsz (j := 0) (t := 23) rfl rfl Tryd.underlying23 Tryd.underlying5 (by kernel_rfl) (by kernel_rfl) h0
  obtain ⟨a1, rfl, rfl, rfl, w1⟩ := open_int Tryd.underlying3 (hval 1 3 v1 rfl rfl) h1
  obtain ⟨a2, rfl, rfl, rfl, w2⟩ := open_int Tryd.underlying3 (hval 2 3 v2 rfl rfl) h2
  obtain ⟨a3, rfl, rfl, rfl, w3⟩ := open_int Tryd.underlying3 (hval 3 3 v3 rfl rfl) h3
  clear hA0 hval0 hsz0 hsz
  obtain ⟨zs, hzl, hzb, hrd⟩ := row_rd w0
  refine (law_calls (ps := [.one .lent, .one .fz, .one .fz, .one .fz]) (sims 5 0 _ (by rw [show sg 5 = [(0, (⟨[.one .lent, .one .fz, .one .fz, .one .fz], [.one .fz]⟩ : Sig))] from by kernel_rfl]; exact List.mem_singleton.2 rfl)) hg (xss := [[u8s zs], [.int .i64 a1], [.int .i64 a2], [.int .i64 a3]]) (cs := [.slice a0 len0 cap0, .int .i64 a1, .int .i64 a2, .int .i64 a3]) ⟨.cons (by simp [u8s]) hrd .nil, .cons (by simp) (.int _ _) .nil, .cons (by simp) (.int _ _) .nil, .cons (by simp) (.int _ _) .nil, trivial⟩ rfl (PackWrong_ok zs a1 a2 a3 (by omega) hzb)).mono fun e W' ⟨he, bel⟩ => ?_
  subst he
  exact ⟨_, rfl, _, _, _, [], _, [], hW', trodAll_mk1 (shut_bool Tryd.underlying4 _), (trodAll_cons_mk (Below.trod laidOut (by kernel_rfl) (of_decide_eq_true (by kernel_rfl)) k0 bel lt0) (trodAll_cons_mk (shut_int Tryd.underlying3 w1) (trodAll_cons_mk (shut_int Tryd.underlying3 w2) (trodAll_cons_mk (shut_int Tryd.underlying3 w3) trodAll_mk0)))), rfl, bel.frame _, fun h => by cases h⟩
theorem over : Rows.packWrongRow.holds Tryd.pinned (OpenSpec.ofChange Rows.packWrongSpec) :=
  OpenClaim.holds_of_wide 5 Tryd.f5 rfl rfl rfl rfl rfl rfl rfl ⟨rfl, rfl, rfl, rfl, rfl⟩ rfl rfl rfl rfl rfl (by kernel_rfl) Tryd.func5 (by kernel_rfl)
    (of_decide_eq_true (by kernel_rfl)) (by unfold Func.isWrapper; first | (rw [if_pos (by decide +kernel)]; kernel_rfl) | (rw [if_neg (by decide +kernel)]; exact ⟨rfl, rfl⟩))
    (fun os started H enc _ => lifted os started H enc)
theorem proved : Rows.PackWrongSaid := over
theorem carded : Rows.PackWrongCardSaid :=
  Claim7.holds_tied_plain_at .later [] [.handle] true (true, "24ed4fe5a1da21cde87c8d3c06ca3cc70e82c572295f7011edf36be2448f9101") true
    proved (fun _ h => by cases h) (by kernel_rfl) (fun _ h => by cases h) packWrong_row_tie rfl ⟨rfl, rfl⟩ (by kernel_rfl) rfl
    (fun f fn hf hfn => by
      obtain rfl : f = 5 := Option.some.inj ((show Tryd.prog.funcNamed "colloquy/colloquylaw06.PackWrong" = some 5 by kernel_rfl).symm.trans hf) |>.symm
      obtain rfl : fn = Tryd.f5 := (Option.some.inj (Tryd.func5.symm.trans hfn)).symm
      exact ⟨by kernel_rfl, fun j t ht => by
        rw [Tryd.params5] at ht
        rcases j with _ | j
        · have ht' : t = 23 := by simpa using ht.symm
          subst ht'
          exact (show Tryd.prog.wantsStandIn 23 = false by kernel_rfl)
        rcases j with _ | j
        · have ht' : t = 3 := by simpa using ht.symm
          subst ht'
          exact (show Tryd.prog.wantsStandIn 3 = false by kernel_rfl)
        rcases j with _ | j
        · have ht' : t = 3 := by simpa using ht.symm
          subst ht'
          exact (show Tryd.prog.wantsStandIn 3 = false by kernel_rfl)
        rcases j with _ | j
        · have ht' : t = 3 := by simpa using ht.symm
          subst ht'
          exact (show Tryd.prog.wantsStandIn 3 = false by kernel_rfl)
        simp at ht⟩)
    (by kernel_rfl)
end Go.Proofs.YtogfkdpgkloljaaDoor.packWrong
namespace Go.Proofs.YtogfkdpgkloljaaDoor
theorem packWrong_holds : Rows.PackWrongCardSaid := packWrong.carded
#print axioms packWrong_holds
end Go.Proofs.YtogfkdpgkloljaaDoor
