/-
  Several texts in one: What the functions of this seat answer. Condition: the package variable errors.errorType holds the handle of the type error.
-/
import Derived.Test.YtlhcgiegganbpaaDoorAs
import Derived.Test.YtlhcgiegganbpaaDoorVM8
import Derived.Test.YtlhcgiegganbpaaDoorVM9
set_option linter.unusedVariables false
set_option linter.unusedSimpArgs false
set_option maxRecDepth 100000
namespace Go.Proofs.YtlhcgiegganbpaaDoorVs
abbrev GP := Go.Proofs.YtlhcgiegganbpaaDoor.AsNum.GP
theorem gdep : GWDep GP where
  dep w w' h hg := by unfold GP Go.Proofs.YtlhcgiegganbpaaDoor.AsNum.GP at *; rw [cell_same h]; exact hg
  pos w hg := by
    rcases Nat.lt_or_ge 0 w.heap.size with h0 | h0
    · exact h0
    · unfold GP Go.Proofs.YtlhcgiegganbpaaDoor.AsNum.GP at hg; simp [World.cell?, Array.getElem?_eq_none h0] at hg

/-! slices.Clone[[]int,int] -/
theorem cl48A (Φ : Funs) (n : Nat) (v0 : V) : (textE Tryd.prog (sgL []) [] { Tryd.f48 with body := some (cl1 Tryd.f48) } ⟨[.one .lent], [.one .own]⟩).map (fun t => t.eval Φ n [v0]) = some (some (.ret [[.list 3 []]])) := by kernel_rfl
theorem cl48B (Φ : Funs) (n : Nat) (v0 : V) : (textE Tryd.prog (sgL []) [] { Tryd.f48 with body := some (cl2 Tryd.f48) } ⟨[.one .lent], [.one .own]⟩).map (fun t => t.eval Φ n [v0]) = some (op1V Φ (.mk 3 []) [] fun v1 => chkV 2 v0 <| op1V Φ (.app 3 8 true) [[v1], [v0]] fun v2 => some (.ret [[v2]])) := by kernel_rfl
theorem cl48 : Sim Tryd.prog GP 48 ⟨[.one .lent], [.one .own]⟩ (cloneφ 3 8 true) :=
  sim_clone gdep (by kernel_rfl) Tryd.func48 (by kernel_rfl) (show Tryd.f48.body = some (nilBody _ _ 63 _ _ _ _ _ _ _ _ _ _ (cl1 Tryd.f48) (cl2 Tryd.f48)) from rfl) Tryd.underlying63 (by decide) (by decide) (by kernel_rfl) cl48A cl48B

noncomputable def T : Tab := ⟨tabV [(33, 0, vcOf Tryd.prog sg [] Tryd.f33 g33_0, g33_0.ps), (34, 0, vcOf Tryd.prog sg [] Tryd.f34 g34_0, g34_0.ps), (6, 0, vcOf Tryd.prog sg [9013] Tryd.f6 g6_0, g6_0.ps), (6, 1, vcOf Tryd.prog sg [] Tryd.f6 g6_1, g6_1.ps), (36, 0, vcOf Tryd.prog sg [] Tryd.f36 g36_0, g36_0.ps), (35, 0, vcOf Tryd.prog sg [] Tryd.f35 g35_0, g35_0.ps), (7, 0, vcOf Tryd.prog sg [] Tryd.f7 g7_0, g7_0.ps), (7, 1, vcOf Tryd.prog sg [] Tryd.f7 g7_1, g7_1.ps), (39, 0, vcOf Tryd.prog sg [] Tryd.f39 g39_0, g39_0.ps), (65, 0, vcOf Tryd.prog sg [] Tryd.f65 g65_0, g65_0.ps), (41, 0, vcOf Tryd.prog sg [] Tryd.f41 g41_0, g41_0.ps), (41, 1, vcOf Tryd.prog sg [] Tryd.f41 g41_1, g41_1.ps), (64, 0, vcOf Tryd.prog sg [] Tryd.f64 g64_0, g64_0.ps), (44, 0, vcOf Tryd.prog sg [] Tryd.f44 g44_0, g44_0.ps), (40, 0, vcOf Tryd.prog sg [] Tryd.f40 g40_0, g40_0.ps), (9, 0, vcOf Tryd.prog sg [] Tryd.f9 g9_0, g9_0.ps), (9, 1, vcOf Tryd.prog sg [] Tryd.f9 g9_1, g9_1.ps), (10, 0, vcOf Tryd.prog sg [] Tryd.f10 g10_0, g10_0.ps), (10, 1, vcOf Tryd.prog sg [] Tryd.f10 g10_1, g10_1.ps), (11, 0, vcOf Tryd.prog sg [] Tryd.f11 g11_0, g11_0.ps), (11, 1, vcOf Tryd.prog sg [] Tryd.f11 g11_1, g11_1.ps), (12, 0, vcOf Tryd.prog sg [] Tryd.f12 g12_0, g12_0.ps), (12, 1, vcOf Tryd.prog sg [] Tryd.f12 g12_1, g12_1.ps), (13, 0, vcOf Tryd.prog sg [] Tryd.f13 g13_0, g13_0.ps), (75, 0, vcOf Tryd.prog sg [] Tryd.f75 g75_0, g75_0.ps), (66, 0, vcOf Tryd.prog sg [] Tryd.f66 g66_0, g66_0.ps), (76, 0, vcOf Tryd.prog sg [] Tryd.f76 g76_0, g76_0.ps), (68, 0, vcOf Tryd.prog sg [] Tryd.f68 g68_0, g68_0.ps), (69, 0, vcOf Tryd.prog sg [] Tryd.f69 g69_0, g69_0.ps), (67, 0, vcOf Tryd.prog sg [] Tryd.f67 g67_0, g67_0.ps), (43, 0, vcOf Tryd.prog sg [] Tryd.f43 g43_0, g43_0.ps), (18, 0, vcOf Tryd.prog sg [] Tryd.f18 g18_0, g18_0.ps), (45, 0, vcOf Tryd.prog sg [] Tryd.f45 g45_0, g45_0.ps), (16, 0, vcOf Tryd.prog sg [] Tryd.f16 g16_0, g16_0.ps), (16, 1, vcOf Tryd.prog sg [] Tryd.f16 g16_1, g16_1.ps), (14, 0, vcOf Tryd.prog sg [] Tryd.f14 g14_0, g14_0.ps), (42, 0, vcOf Tryd.prog sg [] Tryd.f42 g42_0, g42_0.ps), (19, 0, vcOf Tryd.prog sg [] Tryd.f19 g19_0, g19_0.ps), (15, 0, vcOf Tryd.prog sg [] Tryd.f15 g15_0, g15_0.ps), (46, 0, vcOf Tryd.prog sg [] Tryd.f46 g46_0, g46_0.ps), (47, 0, vcOf Tryd.prog sg [] Tryd.f47 g47_0, g47_0.ps), (17, 0, vcOf Tryd.prog sg [] Tryd.f17 g17_0, g17_0.ps), (20, 1, vcOf Tryd.prog sg [] Tryd.f20 g20_1, g20_1.ps), (49, 0, vcOf Tryd.prog sg [] Tryd.f49 g49_0, g49_0.ps), (21, 0, vcOf Tryd.prog sg [] Tryd.f21 g21_0, g21_0.ps), (50, 0, vcOf Tryd.prog sg [] Tryd.f50 g50_0, g50_0.ps), (51, 0, vcOf Tryd.prog sg [] Tryd.f51 g51_0, g51_0.ps), (52, 0, vcOf Tryd.prog sg [] Tryd.f52 g52_0, g52_0.ps), (22, 1, vcOf Tryd.prog sg [] Tryd.f22 g22_1, g22_1.ps), (23, 0, vcOf Tryd.prog sg [] Tryd.f23 g23_0, g23_0.ps), (24, 1, vcOf Tryd.prog sg [] Tryd.f24 g24_1, g24_1.ps), (25, 1, vcOf Tryd.prog sg [] Tryd.f25 g25_1, g25_1.ps), (26, 1, vcOf Tryd.prog sg [] Tryd.f26 g26_1, g26_1.ps), (27, 0, vcOf Tryd.prog sg [] Tryd.f27 g27_0, g27_0.ps), (3, 0, vcOf Tryd.prog sg [] Tryd.f3 g3_0, g3_0.ps), (28, 0, vcOf Tryd.prog sg [] Tryd.f28 g28_0, g28_0.ps), (4, 0, vcOf Tryd.prog sg [] Tryd.f4 g4_0, g4_0.ps)], tabG [(8, 0, numφ 84), (74, 0, growφ 30), (37, 0, delφ 30), (48, 0, cloneφ 3 8 true)]⟩
theorem sims : ∀ f k g, (k, g) ∈ sg f → Sim Tryd.prog GP f g (Fix T f k) := by
  refine sims_fix gdep (by kernel_rfl) fun f k g h => ?_
  have h := sgL_mem h
  simp only [L, List.mem_cons, List.not_mem_nil, or_false, Prod.mk.injEq] at h
  rcases h with ⟨rfl, rfl, rfl⟩ | ⟨rfl, rfl, rfl⟩ | ⟨rfl, rfl, rfl⟩ | ⟨rfl, rfl, rfl⟩ | ⟨rfl, rfl, rfl⟩ | ⟨rfl, rfl, rfl⟩ | ⟨rfl, rfl, rfl⟩ | ⟨rfl, rfl, rfl⟩ | ⟨rfl, rfl, rfl⟩ | ⟨rfl, rfl, rfl⟩ | ⟨rfl, rfl, rfl⟩ | ⟨rfl, rfl, rfl⟩ | ⟨rfl, rfl, rfl⟩ | ⟨rfl, rfl, rfl⟩ | ⟨rfl, rfl, rfl⟩ | ⟨rfl, rfl, rfl⟩ | ⟨rfl, rfl, rfl⟩ | ⟨rfl, rfl, rfl⟩ | ⟨rfl, rfl, rfl⟩ | ⟨rfl, rfl, rfl⟩ | ⟨rfl, rfl, rfl⟩ | ⟨rfl, rfl, rfl⟩ | ⟨rfl, rfl, rfl⟩ | ⟨rfl, rfl, rfl⟩ | ⟨rfl, rfl, rfl⟩ | ⟨rfl, rfl, rfl⟩ | ⟨rfl, rfl, rfl⟩ | ⟨rfl, rfl, rfl⟩ | ⟨rfl, rfl, rfl⟩ | ⟨rfl, rfl, rfl⟩ | ⟨rfl, rfl, rfl⟩ | ⟨rfl, rfl, rfl⟩ | ⟨rfl, rfl, rfl⟩ | ⟨rfl, rfl, rfl⟩ | ⟨rfl, rfl, rfl⟩ | ⟨rfl, rfl, rfl⟩ | ⟨rfl, rfl, rfl⟩ | ⟨rfl, rfl, rfl⟩ | ⟨rfl, rfl, rfl⟩ | ⟨rfl, rfl, rfl⟩ | ⟨rfl, rfl, rfl⟩ | ⟨rfl, rfl, rfl⟩ | ⟨rfl, rfl, rfl⟩ | ⟨rfl, rfl, rfl⟩ | ⟨rfl, rfl, rfl⟩ | ⟨rfl, rfl, rfl⟩ | ⟨rfl, rfl, rfl⟩ | ⟨rfl, rfl, rfl⟩ | ⟨rfl, rfl, rfl⟩ | ⟨rfl, rfl, rfl⟩ | ⟨rfl, rfl, rfl⟩ | ⟨rfl, rfl, rfl⟩ | ⟨rfl, rfl, rfl⟩ | ⟨rfl, rfl, rfl⟩ | ⟨rfl, rfl, rfl⟩ | ⟨rfl, rfl, rfl⟩ | ⟨rfl, rfl, rfl⟩ | ⟨rfl, rfl, rfl⟩ | ⟨rfl, rfl, rfl⟩ | ⟨rfl, rfl, rfl⟩ | ⟨rfl, rfl, rfl⟩
  · exact .given _ rfl (sim_num ⟨_, Tryd.func8, by kernel_rfl, by kernel_rfl⟩ Go.Proofs.YtlhcgiegganbpaaDoor.AsNum.num_none Go.Proofs.YtlhcgiegganbpaaDoor.AsNum.num_some)
  · exact .given _ rfl (sim_grow)
  · exact .given _ rfl (sim_del)
  · exact .given _ rfl (cl48)
  · exact .told Tryd.f33 (hsOf []) _ rfl Tryd.func33 (by kernel_rfl) (told_ok (x33_0 (fun _ _ _ => none) 0 .unit .unit .unit .unit .unit .unit .unit .unit)) rfl
  · exact .told Tryd.f34 (hsOf []) _ rfl Tryd.func34 (by kernel_rfl) (told_ok (x34_0 (fun _ _ _ => none) 0 .unit .unit .unit .unit .unit .unit .unit .unit .unit)) rfl
  · exact .told Tryd.f6 (hsOf [9013]) _ rfl Tryd.func6 (by kernel_rfl) (told_ok (x6_0 (fun _ _ _ => none) 0 .unit .unit .unit .unit .unit .unit .unit .unit .unit)) rfl
  · exact .told Tryd.f6 (hsOf []) _ rfl Tryd.func6 (by kernel_rfl) (told_ok (x6_1 (fun _ _ _ => none) 0 .unit)) rfl
  · exact .told Tryd.f36 (hsOf []) _ rfl Tryd.func36 (by kernel_rfl) (told_ok (x36_0 (fun _ _ _ => none) 0 .unit .unit .unit .unit)) rfl
  · exact .told Tryd.f35 (hsOf []) _ rfl Tryd.func35 (by kernel_rfl) (told_ok (x35_0 (fun _ _ _ => none) 0 .unit .unit)) rfl
  · exact .told Tryd.f7 (hsOf []) _ rfl Tryd.func7 (by kernel_rfl) (told_ok (x7_0 (fun _ _ _ => none) 0 .unit .unit .unit .unit .unit .unit .unit .unit .unit)) rfl
  · exact .told Tryd.f7 (hsOf []) _ rfl Tryd.func7 (by kernel_rfl) (told_ok (x7_1 (fun _ _ _ => none) 0 .unit)) rfl
  · exact .told Tryd.f39 (hsOf []) _ rfl Tryd.func39 (by kernel_rfl) (told_ok (x39_0 (fun _ _ _ => none) 0 .unit .unit .unit)) rfl
  · exact .told Tryd.f65 (hsOf []) _ rfl Tryd.func65 (by kernel_rfl) (told_ok (x65_0 (fun _ _ _ => none) 0 .unit)) rfl
  · exact .told Tryd.f41 (hsOf []) _ rfl Tryd.func41 (by kernel_rfl) (told_ok (x41_0 (fun _ _ _ => none) 0 .unit .unit .unit .unit .unit .unit .unit .unit)) rfl
  · exact .told Tryd.f41 (hsOf []) _ rfl Tryd.func41 (by kernel_rfl) (told_ok (x41_1 (fun _ _ _ => none) 0)) rfl
  · exact .told Tryd.f64 (hsOf []) _ rfl Tryd.func64 (by kernel_rfl) (told_ok (x64_0 (fun _ _ _ => none) 0 .unit .unit .unit .unit)) rfl
  · exact .told Tryd.f44 (hsOf []) _ rfl Tryd.func44 (by kernel_rfl) (told_ok (x44_0 (fun _ _ _ => none) 0 .unit .unit)) rfl
  · exact .told Tryd.f40 (hsOf []) _ rfl Tryd.func40 (by kernel_rfl) (told_ok (x40_0 (fun _ _ _ => none) 0 .unit .unit)) rfl
  · exact .told Tryd.f9 (hsOf []) _ rfl Tryd.func9 (by kernel_rfl) (told_ok (x9_0 (fun _ _ _ => none) 0 .unit .unit .unit .unit .unit .unit .unit .unit .unit .unit)) rfl
  · exact .told Tryd.f9 (hsOf []) _ rfl Tryd.func9 (by kernel_rfl) (told_ok (x9_1 (fun _ _ _ => none) 0 .unit .unit)) rfl
  · exact .told Tryd.f10 (hsOf []) _ rfl Tryd.func10 (by kernel_rfl) (told_ok (x10_0 (fun _ _ _ => none) 0 .unit .unit .unit .unit .unit .unit .unit .unit .unit)) rfl
  · exact .told Tryd.f10 (hsOf []) _ rfl Tryd.func10 (by kernel_rfl) (told_ok (x10_1 (fun _ _ _ => none) 0 .unit)) rfl
  · exact .told Tryd.f11 (hsOf []) _ rfl Tryd.func11 (by kernel_rfl) (told_ok (x11_0 (fun _ _ _ => none) 0 .unit .unit .unit .unit .unit .unit .unit .unit)) rfl
  · exact .told Tryd.f11 (hsOf []) _ rfl Tryd.func11 (by kernel_rfl) (told_ok (x11_1 (fun _ _ _ => none) 0)) rfl
  · exact .told Tryd.f12 (hsOf []) _ rfl Tryd.func12 (by kernel_rfl) (told_ok (x12_0 (fun _ _ _ => none) 0 .unit .unit .unit .unit .unit .unit .unit .unit)) rfl
  · exact .told Tryd.f12 (hsOf []) _ rfl Tryd.func12 (by kernel_rfl) (told_ok (x12_1 (fun _ _ _ => none) 0)) rfl
  · exact .told Tryd.f13 (hsOf []) _ rfl Tryd.func13 (by kernel_rfl) (told_ok (x13_0 (fun _ _ _ => none) 0 .unit)) rfl
  · exact .told Tryd.f75 (hsOf []) _ rfl Tryd.func75 (by kernel_rfl) (told_ok (x75_0 (fun _ _ _ => none) 0 .unit .unit)) rfl
  · exact .told Tryd.f66 (hsOf []) _ rfl Tryd.func66 (by kernel_rfl) (told_ok (x66_0 (fun _ _ _ => none) 0 .unit .unit)) rfl
  · exact .told Tryd.f76 (hsOf []) _ rfl Tryd.func76 (by kernel_rfl) (told_ok (x76_0 (fun _ _ _ => none) 0 .unit .unit)) rfl
  · exact .told Tryd.f68 (hsOf []) _ rfl Tryd.func68 (by kernel_rfl) (told_ok (x68_0 (fun _ _ _ => none) 0 .unit .unit)) rfl
  · exact .told Tryd.f69 (hsOf []) _ rfl Tryd.func69 (by kernel_rfl) (told_ok (x69_0 (fun _ _ _ => none) 0 .unit)) rfl
  · exact .told Tryd.f67 (hsOf []) _ rfl Tryd.func67 (by kernel_rfl) (told_ok (x67_0 (fun _ _ _ => none) 0 .unit)) rfl
  · exact .told Tryd.f43 (hsOf []) _ rfl Tryd.func43 (by kernel_rfl) (told_ok (x43_0 (fun _ _ _ => none) 0 .unit)) rfl
  · exact .told Tryd.f18 (hsOf []) _ rfl Tryd.func18 (by kernel_rfl) (told_ok (x18_0 (fun _ _ _ => none) 0 .unit)) rfl
  · exact .told Tryd.f45 (hsOf []) _ rfl Tryd.func45 (by kernel_rfl) (told_ok (x45_0 (fun _ _ _ => none) 0 .unit .unit .unit)) rfl
  · exact .told Tryd.f16 (hsOf []) _ rfl Tryd.func16 (by kernel_rfl) (told_ok (x16_0 (fun _ _ _ => none) 0 .unit .unit .unit .unit .unit .unit .unit .unit)) rfl
  · exact .told Tryd.f16 (hsOf []) _ rfl Tryd.func16 (by kernel_rfl) (told_ok (x16_1 (fun _ _ _ => none) 0)) rfl
  · exact .told Tryd.f14 (hsOf []) _ rfl Tryd.func14 (by kernel_rfl) (told_ok (x14_0 (fun _ _ _ => none) 0)) rfl
  · exact .told Tryd.f42 (hsOf []) _ rfl Tryd.func42 (by kernel_rfl) (told_ok (x42_0 (fun _ _ _ => none) 0 .unit)) rfl
  · exact .told Tryd.f19 (hsOf []) _ rfl Tryd.func19 (by kernel_rfl) (told_ok (x19_0 (fun _ _ _ => none) 0 .unit)) rfl
  · exact .told Tryd.f15 (hsOf []) _ rfl Tryd.func15 (by kernel_rfl) (told_ok (x15_0 (fun _ _ _ => none) 0 .unit .unit .unit .unit .unit .unit .unit .unit)) rfl
  · exact .told Tryd.f46 (hsOf []) _ rfl Tryd.func46 (by kernel_rfl) (told_ok (x46_0 (fun _ _ _ => none) 0 .unit)) rfl
  · exact .told Tryd.f47 (hsOf []) _ rfl Tryd.func47 (by kernel_rfl) (told_ok (x47_0 (fun _ _ _ => none) 0 .unit .unit .unit)) rfl
  · exact .told Tryd.f17 (hsOf []) _ rfl Tryd.func17 (by kernel_rfl) (told_ok (x17_0 (fun _ _ _ => none) 0 .unit .unit .unit .unit .unit .unit .unit .unit)) rfl
  · exact .told Tryd.f20 (hsOf []) _ rfl Tryd.func20 (by kernel_rfl) (told_ok (x20_1 (fun _ _ _ => none) 0 .unit)) rfl
  · exact .told Tryd.f49 (hsOf []) _ rfl Tryd.func49 (by kernel_rfl) (told_ok (x49_0 (fun _ _ _ => none) 0 .unit .unit)) rfl
  · exact .told Tryd.f21 (hsOf []) _ rfl Tryd.func21 (by kernel_rfl) (told_ok (x21_0 (fun _ _ _ => none) 0 .unit .unit .unit .unit .unit .unit .unit .unit .unit .unit .unit .unit .unit .unit .unit .unit)) rfl
  · exact .told Tryd.f50 (hsOf []) _ rfl Tryd.func50 (by kernel_rfl) (told_ok (x50_0 (fun _ _ _ => none) 0 .unit .unit .unit .unit .unit .unit .unit .unit .unit)) rfl
  · exact .told Tryd.f51 (hsOf []) _ rfl Tryd.func51 (by kernel_rfl) (told_ok (x51_0 (fun _ _ _ => none) 0 .unit .unit .unit .unit .unit .unit .unit .unit)) rfl
  · exact .told Tryd.f52 (hsOf []) _ rfl Tryd.func52 (by kernel_rfl) (told_ok (x52_0 (fun _ _ _ => none) 0 .unit .unit .unit .unit)) rfl
  · exact .told Tryd.f22 (hsOf []) _ rfl Tryd.func22 (by kernel_rfl) (told_ok (x22_1 (fun _ _ _ => none) 0 .unit .unit .unit .unit .unit .unit .unit .unit .unit .unit)) rfl
  · exact .told Tryd.f23 (hsOf []) _ rfl Tryd.func23 (by kernel_rfl) (told_ok (x23_0 (fun _ _ _ => none) 0 .unit .unit .unit .unit .unit .unit .unit .unit .unit)) rfl
  · exact .told Tryd.f24 (hsOf []) _ rfl Tryd.func24 (by kernel_rfl) (told_ok (x24_1 (fun _ _ _ => none) 0 .unit .unit .unit .unit .unit .unit .unit .unit .unit)) rfl
  · exact .told Tryd.f25 (hsOf []) _ rfl Tryd.func25 (by kernel_rfl) (told_ok (x25_1 (fun _ _ _ => none) 0 .unit .unit .unit .unit .unit .unit .unit .unit .unit)) rfl
  · exact .told Tryd.f26 (hsOf []) _ rfl Tryd.func26 (by kernel_rfl) (told_ok (x26_1 (fun _ _ _ => none) 0 .unit .unit .unit .unit .unit .unit .unit .unit)) rfl
  · exact .told Tryd.f27 (hsOf []) _ rfl Tryd.func27 (by kernel_rfl) (told_ok (x27_0 (fun _ _ _ => none) 0 .unit .unit .unit .unit .unit .unit .unit .unit)) rfl
  · exact .told Tryd.f3 (hsOf []) _ rfl Tryd.func3 (by kernel_rfl) (told_ok (x3_0 (fun _ _ _ => none) 0 .unit .unit .unit .unit .unit .unit .unit .unit .unit)) rfl
  · exact .told Tryd.f28 (hsOf []) _ rfl Tryd.func28 (by kernel_rfl) (told_ok (x28_0 (fun _ _ _ => none) 0 .unit .unit .unit .unit .unit .unit .unit .unit)) rfl
  · exact .told Tryd.f4 (hsOf []) _ rfl Tryd.func4 (by kernel_rfl) (told_ok (x4_0 (fun _ _ _ => none) 0 .unit .unit .unit .unit .unit .unit .unit .unit .unit)) rfl
theorem gv8 {xss raw : List (List V)} (h : (numφ 84) xss = some raw) : Fix T 8 0 xss = some raw := fix_given rfl h
theorem gv74 {xss raw : List (List V)} (h : (growφ 30) xss = some raw) : Fix T 74 0 xss = some raw := fix_given rfl h
theorem gv37 {xss raw : List (List V)} (h : (delφ 30) xss = some raw) : Fix T 37 0 xss = some raw := fix_given rfl h
theorem gv48 {xss raw : List (List V)} (h : (cloneφ 3 8 true) xss = some raw) : Fix T 48 0 xss = some raw := fix_given rfl h
theorem e33_0 (n : Nat) {v0 v1 v2 v3 v4 v5 v6 v7 : V} {raw : List (List V)} (h : F33_0 (Fix T) n v0 v1 v2 v3 v4 v5 v6 v7 = some (.ret raw)) : Fix T 33 0 [[v0, v1, v2, v3, v4, v5, v6, v7]] = some raw := fix_text (vs := [v7, v6, v5, v4, v3, v2, v1, v0]) rfl rfl (x33_0 _ n v0 v1 v2 v3 v4 v5 v6 v7) rfl (by simp [LensOK, g33_0, PSh.ms]) h
theorem e34_0 (n : Nat) {v0 v1 v2 v3 v4 v5 v6 v7 v8 : V} {raw : List (List V)} (h : F34_0 (Fix T) n v0 v1 v2 v3 v4 v5 v6 v7 v8 = some (.ret raw)) : Fix T 34 0 [[v0, v1, v2, v3, v4, v5, v6, v7], [v8]] = some raw := fix_text (vs := [v8, v7, v6, v5, v4, v3, v2, v1, v0]) rfl rfl (x34_0 _ n v0 v1 v2 v3 v4 v5 v6 v7 v8) rfl (by simp [LensOK, g34_0, PSh.ms]) h
theorem e6_0 (n : Nat) {v0 v1 v2 v3 v4 v5 v6 v7 v8 : V} {raw : List (List V)} (h : F6_0 (Fix T) n v0 v1 v2 v3 v4 v5 v6 v7 v8 = some (.ret raw)) : Fix T 6 0 [[v0, v1, v2, v3, v4, v5, v6, v7], [v8]] = some raw := fix_text (vs := [v8, v7, v6, v5, v4, v3, v2, v1, v0]) rfl rfl (x6_0 _ n v0 v1 v2 v3 v4 v5 v6 v7 v8) rfl (by simp [LensOK, g6_0, PSh.ms]) h
theorem e6_1 (n : Nat) {v0 : V} {raw : List (List V)} (h : F6_1 (Fix T) n v0 = some (.ret raw)) : Fix T 6 1 [[], [v0]] = some raw := fix_text (vs := [v0]) rfl rfl (x6_1 _ n v0) rfl (by simp [LensOK, g6_1, PSh.ms]) h
theorem e36_0 (n : Nat) {v0 v1 v2 v3 : V} {raw : List (List V)} (h : F36_0 (Fix T) n v0 v1 v2 v3 = some (.ret raw)) : Fix T 36 0 [[v0, v1, v2], [v3]] = some raw := fix_text (vs := [v3, v2, v1, v0]) rfl rfl (x36_0 _ n v0 v1 v2 v3) rfl (by simp [LensOK, g36_0, PSh.ms]) h
theorem e35_0 (n : Nat) {v0 v1 : V} {raw : List (List V)} (h : F35_0 (Fix T) n v0 v1 = some (.ret raw)) : Fix T 35 0 [[v0], [v1]] = some raw := fix_text (vs := [v1, v0]) rfl rfl (x35_0 _ n v0 v1) rfl (by simp [LensOK, g35_0, PSh.ms]) h
theorem e7_0 (n : Nat) {v0 v1 v2 v3 v4 v5 v6 v7 v8 : V} {raw : List (List V)} (h : F7_0 (Fix T) n v0 v1 v2 v3 v4 v5 v6 v7 v8 = some (.ret raw)) : Fix T 7 0 [[v0, v1, v2, v3, v4, v5, v6, v7], [v8]] = some raw := fix_text (vs := [v8, v7, v6, v5, v4, v3, v2, v1, v0]) rfl rfl (x7_0 _ n v0 v1 v2 v3 v4 v5 v6 v7 v8) rfl (by simp [LensOK, g7_0, PSh.ms]) h
theorem e7_1 (n : Nat) {v0 : V} {raw : List (List V)} (h : F7_1 (Fix T) n v0 = some (.ret raw)) : Fix T 7 1 [[], [v0]] = some raw := fix_text (vs := [v0]) rfl rfl (x7_1 _ n v0) rfl (by simp [LensOK, g7_1, PSh.ms]) h
theorem e39_0 (n : Nat) {v0 v1 v2 : V} {raw : List (List V)} (h : F39_0 (Fix T) n v0 v1 v2 = some (.ret raw)) : Fix T 39 0 [[v0, v1, v2]] = some raw := fix_text (vs := [v2, v1, v0]) rfl rfl (x39_0 _ n v0 v1 v2) rfl (by simp [LensOK, g39_0, PSh.ms]) h
theorem e65_0 (n : Nat) {v0 : V} {raw : List (List V)} (h : F65_0 (Fix T) n v0 = some (.ret raw)) : Fix T 65 0 [[v0]] = some raw := fix_text (vs := [v0]) rfl rfl (x65_0 _ n v0) rfl (by simp [LensOK, g65_0, PSh.ms]) h
theorem e41_0 (n : Nat) {v0 v1 v2 v3 v4 v5 v6 v7 : V} {raw : List (List V)} (h : F41_0 (Fix T) n v0 v1 v2 v3 v4 v5 v6 v7 = some (.ret raw)) : Fix T 41 0 [[v0, v1, v2, v3, v4, v5, v6, v7]] = some raw := fix_text (vs := [v7, v6, v5, v4, v3, v2, v1, v0]) rfl rfl (x41_0 _ n v0 v1 v2 v3 v4 v5 v6 v7) rfl (by simp [LensOK, g41_0, PSh.ms]) h
theorem e41_1 (n : Nat) {raw : List (List V)} (h : F41_1 (Fix T) n = some (.ret raw)) : Fix T 41 1 [[]] = some raw := fix_text (vs := []) rfl rfl (x41_1 _ n) rfl (by simp [LensOK, g41_1, PSh.ms]) h
theorem e64_0 (n : Nat) {v0 v1 v2 v3 : V} {raw : List (List V)} (h : F64_0 (Fix T) n v0 v1 v2 v3 = some (.ret raw)) : Fix T 64 0 [[v0, v1, v2], [v3]] = some raw := fix_text (vs := [v3, v2, v1, v0]) rfl rfl (x64_0 _ n v0 v1 v2 v3) rfl (by simp [LensOK, g64_0, PSh.ms]) h
theorem e44_0 (n : Nat) {v0 v1 : V} {raw : List (List V)} (h : F44_0 (Fix T) n v0 v1 = some (.ret raw)) : Fix T 44 0 [[v0], [v1]] = some raw := fix_text (vs := [v1, v0]) rfl rfl (x44_0 _ n v0 v1) rfl (by simp [LensOK, g44_0, PSh.ms]) h
theorem e40_0 (n : Nat) {v0 v1 : V} {raw : List (List V)} (h : F40_0 (Fix T) n v0 v1 = some (.ret raw)) : Fix T 40 0 [[v0], [v1]] = some raw := fix_text (vs := [v1, v0]) rfl rfl (x40_0 _ n v0 v1) rfl (by simp [LensOK, g40_0, PSh.ms]) h
theorem e9_0 (n : Nat) {v0 v1 v2 v3 v4 v5 v6 v7 v8 v9 : V} {raw : List (List V)} (h : F9_0 (Fix T) n v0 v1 v2 v3 v4 v5 v6 v7 v8 v9 = some (.ret raw)) : Fix T 9 0 [[v0, v1, v2, v3, v4, v5, v6, v7], [v8], [v9]] = some raw := fix_text (vs := [v9, v8, v7, v6, v5, v4, v3, v2, v1, v0]) rfl rfl (x9_0 _ n v0 v1 v2 v3 v4 v5 v6 v7 v8 v9) rfl (by simp [LensOK, g9_0, PSh.ms]) h
theorem e9_1 (n : Nat) {v0 v1 : V} {raw : List (List V)} (h : F9_1 (Fix T) n v0 v1 = some (.ret raw)) : Fix T 9 1 [[], [v0], [v1]] = some raw := fix_text (vs := [v1, v0]) rfl rfl (x9_1 _ n v0 v1) rfl (by simp [LensOK, g9_1, PSh.ms]) h
theorem e10_0 (n : Nat) {v0 v1 v2 v3 v4 v5 v6 v7 v8 : V} {raw : List (List V)} (h : F10_0 (Fix T) n v0 v1 v2 v3 v4 v5 v6 v7 v8 = some (.ret raw)) : Fix T 10 0 [[v0, v1, v2, v3, v4, v5, v6, v7], [v8]] = some raw := fix_text (vs := [v8, v7, v6, v5, v4, v3, v2, v1, v0]) rfl rfl (x10_0 _ n v0 v1 v2 v3 v4 v5 v6 v7 v8) rfl (by simp [LensOK, g10_0, PSh.ms]) h
theorem e10_1 (n : Nat) {v0 : V} {raw : List (List V)} (h : F10_1 (Fix T) n v0 = some (.ret raw)) : Fix T 10 1 [[], [v0]] = some raw := fix_text (vs := [v0]) rfl rfl (x10_1 _ n v0) rfl (by simp [LensOK, g10_1, PSh.ms]) h
theorem e11_0 (n : Nat) {v0 v1 v2 v3 v4 v5 v6 v7 : V} {raw : List (List V)} (h : F11_0 (Fix T) n v0 v1 v2 v3 v4 v5 v6 v7 = some (.ret raw)) : Fix T 11 0 [[v0, v1, v2, v3, v4, v5, v6, v7]] = some raw := fix_text (vs := [v7, v6, v5, v4, v3, v2, v1, v0]) rfl rfl (x11_0 _ n v0 v1 v2 v3 v4 v5 v6 v7) rfl (by simp [LensOK, g11_0, PSh.ms]) h
theorem e11_1 (n : Nat) {raw : List (List V)} (h : F11_1 (Fix T) n = some (.ret raw)) : Fix T 11 1 [[]] = some raw := fix_text (vs := []) rfl rfl (x11_1 _ n) rfl (by simp [LensOK, g11_1, PSh.ms]) h
theorem e12_0 (n : Nat) {v0 v1 v2 v3 v4 v5 v6 v7 : V} {raw : List (List V)} (h : F12_0 (Fix T) n v0 v1 v2 v3 v4 v5 v6 v7 = some (.ret raw)) : Fix T 12 0 [[v0, v1, v2, v3, v4, v5, v6, v7]] = some raw := fix_text (vs := [v7, v6, v5, v4, v3, v2, v1, v0]) rfl rfl (x12_0 _ n v0 v1 v2 v3 v4 v5 v6 v7) rfl (by simp [LensOK, g12_0, PSh.ms]) h
theorem e12_1 (n : Nat) {raw : List (List V)} (h : F12_1 (Fix T) n = some (.ret raw)) : Fix T 12 1 [[]] = some raw := fix_text (vs := []) rfl rfl (x12_1 _ n) rfl (by simp [LensOK, g12_1, PSh.ms]) h
theorem e13_0 (n : Nat) {v0 : V} {raw : List (List V)} (h : F13_0 (Fix T) n v0 = some (.ret raw)) : Fix T 13 0 [[v0]] = some raw := fix_text (vs := [v0]) rfl rfl (x13_0 _ n v0) rfl (by simp [LensOK, g13_0, PSh.ms]) h
theorem e75_0 (n : Nat) {v0 v1 : V} {raw : List (List V)} (h : F75_0 (Fix T) n v0 v1 = some (.ret raw)) : Fix T 75 0 [[v0], [v1]] = some raw := fix_text (vs := [v1, v0]) rfl rfl (x75_0 _ n v0 v1) rfl (by simp [LensOK, g75_0, PSh.ms]) h
theorem e66_0 (n : Nat) {v0 v1 : V} {raw : List (List V)} (h : F66_0 (Fix T) n v0 v1 = some (.ret raw)) : Fix T 66 0 [[v0], [v1]] = some raw := fix_text (vs := [v1, v0]) rfl rfl (x66_0 _ n v0 v1) rfl (by simp [LensOK, g66_0, PSh.ms]) h
theorem e76_0 (n : Nat) {v0 v1 : V} {raw : List (List V)} (h : F76_0 (Fix T) n v0 v1 = some (.ret raw)) : Fix T 76 0 [[v0], [v1]] = some raw := fix_text (vs := [v1, v0]) rfl rfl (x76_0 _ n v0 v1) rfl (by simp [LensOK, g76_0, PSh.ms]) h
theorem e68_0 (n : Nat) {v0 v1 : V} {raw : List (List V)} (h : F68_0 (Fix T) n v0 v1 = some (.ret raw)) : Fix T 68 0 [[v0], [v1]] = some raw := fix_text (vs := [v1, v0]) rfl rfl (x68_0 _ n v0 v1) rfl (by simp [LensOK, g68_0, PSh.ms]) h
theorem e69_0 (n : Nat) {v0 : V} {raw : List (List V)} (h : F69_0 (Fix T) n v0 = some (.ret raw)) : Fix T 69 0 [[v0]] = some raw := fix_text (vs := [v0]) rfl rfl (x69_0 _ n v0) rfl (by simp [LensOK, g69_0, PSh.ms]) h
theorem e67_0 (n : Nat) {v0 : V} {raw : List (List V)} (h : F67_0 (Fix T) n v0 = some (.ret raw)) : Fix T 67 0 [[v0]] = some raw := fix_text (vs := [v0]) rfl rfl (x67_0 _ n v0) rfl (by simp [LensOK, g67_0, PSh.ms]) h
theorem e43_0 (n : Nat) {v0 : V} {raw : List (List V)} (h : F43_0 (Fix T) n v0 = some (.ret raw)) : Fix T 43 0 [[v0]] = some raw := fix_text (vs := [v0]) rfl rfl (x43_0 _ n v0) rfl (by simp [LensOK, g43_0, PSh.ms]) h
theorem e18_0 (n : Nat) {v0 : V} {raw : List (List V)} (h : F18_0 (Fix T) n v0 = some (.ret raw)) : Fix T 18 0 [[v0]] = some raw := fix_text (vs := [v0]) rfl rfl (x18_0 _ n v0) rfl (by simp [LensOK, g18_0, PSh.ms]) h
theorem e45_0 (n : Nat) {v0 v1 v2 : V} {raw : List (List V)} (h : F45_0 (Fix T) n v0 v1 v2 = some (.ret raw)) : Fix T 45 0 [[v0, v1, v2]] = some raw := fix_text (vs := [v2, v1, v0]) rfl rfl (x45_0 _ n v0 v1 v2) rfl (by simp [LensOK, g45_0, PSh.ms]) h
theorem e16_0 (n : Nat) {v0 v1 v2 v3 v4 v5 v6 v7 : V} {raw : List (List V)} (h : F16_0 (Fix T) n v0 v1 v2 v3 v4 v5 v6 v7 = some (.ret raw)) : Fix T 16 0 [[v0, v1, v2, v3, v4, v5, v6, v7]] = some raw := fix_text (vs := [v7, v6, v5, v4, v3, v2, v1, v0]) rfl rfl (x16_0 _ n v0 v1 v2 v3 v4 v5 v6 v7) rfl (by simp [LensOK, g16_0, PSh.ms]) h
theorem e16_1 (n : Nat) {raw : List (List V)} (h : F16_1 (Fix T) n = some (.ret raw)) : Fix T 16 1 [[]] = some raw := fix_text (vs := []) rfl rfl (x16_1 _ n) rfl (by simp [LensOK, g16_1, PSh.ms]) h
theorem e14_0 (n : Nat) {raw : List (List V)} (h : F14_0 (Fix T) n = some (.ret raw)) : Fix T 14 0 [] = some raw := fix_text (vs := []) rfl rfl (x14_0 _ n) rfl (by simp [LensOK, g14_0, PSh.ms]) h
theorem e42_0 (n : Nat) {v0 : V} {raw : List (List V)} (h : F42_0 (Fix T) n v0 = some (.ret raw)) : Fix T 42 0 [[v0]] = some raw := fix_text (vs := [v0]) rfl rfl (x42_0 _ n v0) rfl (by simp [LensOK, g42_0, PSh.ms]) h
theorem e19_0 (n : Nat) {v0 : V} {raw : List (List V)} (h : F19_0 (Fix T) n v0 = some (.ret raw)) : Fix T 19 0 [[v0]] = some raw := fix_text (vs := [v0]) rfl rfl (x19_0 _ n v0) rfl (by simp [LensOK, g19_0, PSh.ms]) h
theorem e15_0 (n : Nat) {v0 v1 v2 v3 v4 v5 v6 v7 : V} {raw : List (List V)} (h : F15_0 (Fix T) n v0 v1 v2 v3 v4 v5 v6 v7 = some (.ret raw)) : Fix T 15 0 [[v0, v1, v2, v3, v4, v5, v6, v7]] = some raw := fix_text (vs := [v7, v6, v5, v4, v3, v2, v1, v0]) rfl rfl (x15_0 _ n v0 v1 v2 v3 v4 v5 v6 v7) rfl (by simp [LensOK, g15_0, PSh.ms]) h
theorem e46_0 (n : Nat) {v0 : V} {raw : List (List V)} (h : F46_0 (Fix T) n v0 = some (.ret raw)) : Fix T 46 0 [[v0]] = some raw := fix_text (vs := [v0]) rfl rfl (x46_0 _ n v0) rfl (by simp [LensOK, g46_0, PSh.ms]) h
theorem e47_0 (n : Nat) {v0 v1 v2 : V} {raw : List (List V)} (h : F47_0 (Fix T) n v0 v1 v2 = some (.ret raw)) : Fix T 47 0 [[v0, v1, v2]] = some raw := fix_text (vs := [v2, v1, v0]) rfl rfl (x47_0 _ n v0 v1 v2) rfl (by simp [LensOK, g47_0, PSh.ms]) h
theorem e17_0 (n : Nat) {v0 v1 v2 v3 v4 v5 v6 v7 : V} {raw : List (List V)} (h : F17_0 (Fix T) n v0 v1 v2 v3 v4 v5 v6 v7 = some (.ret raw)) : Fix T 17 0 [[v0, v1, v2, v3, v4, v5, v6, v7]] = some raw := fix_text (vs := [v7, v6, v5, v4, v3, v2, v1, v0]) rfl rfl (x17_0 _ n v0 v1 v2 v3 v4 v5 v6 v7) rfl (by simp [LensOK, g17_0, PSh.ms]) h
theorem e20_1 (n : Nat) {v0 : V} {raw : List (List V)} (h : F20_1 (Fix T) n v0 = some (.ret raw)) : Fix T 20 1 [[v0]] = some raw := fix_text (vs := [v0]) rfl rfl (x20_1 _ n v0) rfl (by simp [LensOK, g20_1, PSh.ms]) h
theorem e49_0 (n : Nat) {v0 v1 : V} {raw : List (List V)} (h : F49_0 (Fix T) n v0 v1 = some (.ret raw)) : Fix T 49 0 [[v0], [v1]] = some raw := fix_text (vs := [v1, v0]) rfl rfl (x49_0 _ n v0 v1) rfl (by simp [LensOK, g49_0, PSh.ms]) h
theorem e21_0 (n : Nat) {v0 v1 v2 v3 v4 v5 v6 v7 v8 v9 v10 v11 v12 v13 v14 v15 : V} {raw : List (List V)} (h : F21_0 (Fix T) n v0 v1 v2 v3 v4 v5 v6 v7 v8 v9 v10 v11 v12 v13 v14 v15 = some (.ret raw)) : Fix T 21 0 [[v0, v1, v2, v3, v4, v5, v6, v7], [v8, v9, v10, v11, v12, v13, v14, v15]] = some raw := fix_text (vs := [v15, v14, v13, v12, v11, v10, v9, v8, v7, v6, v5, v4, v3, v2, v1, v0]) rfl rfl (x21_0 _ n v0 v1 v2 v3 v4 v5 v6 v7 v8 v9 v10 v11 v12 v13 v14 v15) rfl (by simp [LensOK, g21_0, PSh.ms]) h
theorem e50_0 (n : Nat) {v0 v1 v2 v3 v4 v5 v6 v7 v8 : V} {raw : List (List V)} (h : F50_0 (Fix T) n v0 v1 v2 v3 v4 v5 v6 v7 v8 = some (.ret raw)) : Fix T 50 0 [[v0, v1, v2, v3, v4, v5, v6, v7], [v8]] = some raw := fix_text (vs := [v8, v7, v6, v5, v4, v3, v2, v1, v0]) rfl rfl (x50_0 _ n v0 v1 v2 v3 v4 v5 v6 v7 v8) rfl (by simp [LensOK, g50_0, PSh.ms]) h
theorem e51_0 (n : Nat) {v0 v1 v2 v3 v4 v5 v6 v7 : V} {raw : List (List V)} (h : F51_0 (Fix T) n v0 v1 v2 v3 v4 v5 v6 v7 = some (.ret raw)) : Fix T 51 0 [[v0, v1, v2, v3, v4, v5, v6, v7]] = some raw := fix_text (vs := [v7, v6, v5, v4, v3, v2, v1, v0]) rfl rfl (x51_0 _ n v0 v1 v2 v3 v4 v5 v6 v7) rfl (by simp [LensOK, g51_0, PSh.ms]) h
theorem e52_0 (n : Nat) {v0 v1 v2 v3 : V} {raw : List (List V)} (h : F52_0 (Fix T) n v0 v1 v2 v3 = some (.ret raw)) : Fix T 52 0 [[v0], [v1, v2, v3]] = some raw := fix_text (vs := [v3, v2, v1, v0]) rfl rfl (x52_0 _ n v0 v1 v2 v3) rfl (by simp [LensOK, g52_0, PSh.ms]) h
theorem e22_1 (n : Nat) {v0 v1 v2 v3 v4 v5 v6 v7 v8 v9 : V} {raw : List (List V)} (h : F22_1 (Fix T) n v0 v1 v2 v3 v4 v5 v6 v7 v8 v9 = some (.ret raw)) : Fix T 22 1 [[v0, v1, v2, v3, v4, v5, v6, v7], [v8], [v9]] = some raw := fix_text (vs := [v9, v8, v7, v6, v5, v4, v3, v2, v1, v0]) rfl rfl (x22_1 _ n v0 v1 v2 v3 v4 v5 v6 v7 v8 v9) rfl (by simp [LensOK, g22_1, PSh.ms]) h
theorem e23_0 (n : Nat) {v0 v1 v2 v3 v4 v5 v6 v7 v8 : V} {raw : List (List V)} (h : F23_0 (Fix T) n v0 v1 v2 v3 v4 v5 v6 v7 v8 = some (.ret raw)) : Fix T 23 0 [[v0, v1, v2, v3, v4, v5, v6, v7], [v8]] = some raw := fix_text (vs := [v8, v7, v6, v5, v4, v3, v2, v1, v0]) rfl rfl (x23_0 _ n v0 v1 v2 v3 v4 v5 v6 v7 v8) rfl (by simp [LensOK, g23_0, PSh.ms]) h
theorem e24_1 (n : Nat) {v0 v1 v2 v3 v4 v5 v6 v7 v8 : V} {raw : List (List V)} (h : F24_1 (Fix T) n v0 v1 v2 v3 v4 v5 v6 v7 v8 = some (.ret raw)) : Fix T 24 1 [[v0, v1, v2, v3, v4, v5, v6, v7], [v8]] = some raw := fix_text (vs := [v8, v7, v6, v5, v4, v3, v2, v1, v0]) rfl rfl (x24_1 _ n v0 v1 v2 v3 v4 v5 v6 v7 v8) rfl (by simp [LensOK, g24_1, PSh.ms]) h
theorem e25_1 (n : Nat) {v0 v1 v2 v3 v4 v5 v6 v7 v8 : V} {raw : List (List V)} (h : F25_1 (Fix T) n v0 v1 v2 v3 v4 v5 v6 v7 v8 = some (.ret raw)) : Fix T 25 1 [[v0, v1, v2, v3, v4, v5, v6, v7], [v8]] = some raw := fix_text (vs := [v8, v7, v6, v5, v4, v3, v2, v1, v0]) rfl rfl (x25_1 _ n v0 v1 v2 v3 v4 v5 v6 v7 v8) rfl (by simp [LensOK, g25_1, PSh.ms]) h
theorem e26_1 (n : Nat) {v0 v1 v2 v3 v4 v5 v6 v7 : V} {raw : List (List V)} (h : F26_1 (Fix T) n v0 v1 v2 v3 v4 v5 v6 v7 = some (.ret raw)) : Fix T 26 1 [[v0, v1, v2, v3, v4, v5, v6, v7]] = some raw := fix_text (vs := [v7, v6, v5, v4, v3, v2, v1, v0]) rfl rfl (x26_1 _ n v0 v1 v2 v3 v4 v5 v6 v7) rfl (by simp [LensOK, g26_1, PSh.ms]) h
theorem e27_0 (n : Nat) {v0 v1 v2 v3 v4 v5 v6 v7 : V} {raw : List (List V)} (h : F27_0 (Fix T) n v0 v1 v2 v3 v4 v5 v6 v7 = some (.ret raw)) : Fix T 27 0 [[v0, v1, v2, v3, v4, v5, v6, v7]] = some raw := fix_text (vs := [v7, v6, v5, v4, v3, v2, v1, v0]) rfl rfl (x27_0 _ n v0 v1 v2 v3 v4 v5 v6 v7) rfl (by simp [LensOK, g27_0, PSh.ms]) h
theorem e3_0 (n : Nat) {v0 v1 v2 v3 v4 v5 v6 v7 v8 : V} {raw : List (List V)} (h : F3_0 (Fix T) n v0 v1 v2 v3 v4 v5 v6 v7 v8 = some (.ret raw)) : Fix T 3 0 [[v0, v1, v2, v3, v4, v5, v6, v7], [v8]] = some raw := fix_text (vs := [v8, v7, v6, v5, v4, v3, v2, v1, v0]) rfl rfl (x3_0 _ n v0 v1 v2 v3 v4 v5 v6 v7 v8) rfl (by simp [LensOK, g3_0, PSh.ms]) h
theorem e28_0 (n : Nat) {v0 v1 v2 v3 v4 v5 v6 v7 : V} {raw : List (List V)} (h : F28_0 (Fix T) n v0 v1 v2 v3 v4 v5 v6 v7 = some (.ret raw)) : Fix T 28 0 [[v0, v1, v2, v3, v4, v5, v6, v7]] = some raw := fix_text (vs := [v7, v6, v5, v4, v3, v2, v1, v0]) rfl rfl (x28_0 _ n v0 v1 v2 v3 v4 v5 v6 v7) rfl (by simp [LensOK, g28_0, PSh.ms]) h
theorem e4_0 (n : Nat) {v0 v1 v2 v3 v4 v5 v6 v7 v8 : V} {raw : List (List V)} (h : F4_0 (Fix T) n v0 v1 v2 v3 v4 v5 v6 v7 v8 = some (.ret raw)) : Fix T 4 0 [[v0, v1, v2, v3, v4, v5, v6, v7], [v8]] = some raw := fix_text (vs := [v8, v7, v6, v5, v4, v3, v2, v1, v0]) rfl rfl (x4_0 _ n v0 v1 v2 v3 v4 v5 v6 v7 v8) rfl (by simp [LensOK, g4_0, PSh.ms]) h
noncomputable def ft : FT := [
  (33, 0, (fun (Φ : Funs) (n : Nat) (xss : List (List V)) => (match xss with | [[v0, v1, v2, v3, v4, v5, v6, v7]] => F33_0 Φ n v0 v1 v2 v3 v4 v5 v6 v7 | _ => none : TR))),
  (34, 0, (fun (Φ : Funs) (n : Nat) (xss : List (List V)) => (match xss with | [[v0, v1, v2, v3, v4, v5, v6, v7], [v8]] => F34_0 Φ n v0 v1 v2 v3 v4 v5 v6 v7 v8 | _ => none : TR))),
  (6, 0, (fun (Φ : Funs) (n : Nat) (xss : List (List V)) => (match xss with | [[v0, v1, v2, v3, v4, v5, v6, v7], [v8]] => F6_0 Φ n v0 v1 v2 v3 v4 v5 v6 v7 v8 | _ => none : TR))),
  (6, 1, (fun (Φ : Funs) (n : Nat) (xss : List (List V)) => (match xss with | [[], [v0]] => F6_1 Φ n v0 | _ => none : TR))),
  (36, 0, (fun (Φ : Funs) (n : Nat) (xss : List (List V)) => (match xss with | [[v0, v1, v2], [v3]] => F36_0 Φ n v0 v1 v2 v3 | _ => none : TR))),
  (35, 0, (fun (Φ : Funs) (n : Nat) (xss : List (List V)) => (match xss with | [[v0], [v1]] => F35_0 Φ n v0 v1 | _ => none : TR))),
  (7, 0, (fun (Φ : Funs) (n : Nat) (xss : List (List V)) => (match xss with | [[v0, v1, v2, v3, v4, v5, v6, v7], [v8]] => F7_0 Φ n v0 v1 v2 v3 v4 v5 v6 v7 v8 | _ => none : TR))),
  (7, 1, (fun (Φ : Funs) (n : Nat) (xss : List (List V)) => (match xss with | [[], [v0]] => F7_1 Φ n v0 | _ => none : TR))),
  (39, 0, (fun (Φ : Funs) (n : Nat) (xss : List (List V)) => (match xss with | [[v0, v1, v2]] => F39_0 Φ n v0 v1 v2 | _ => none : TR))),
  (65, 0, (fun (Φ : Funs) (n : Nat) (xss : List (List V)) => (match xss with | [[v0]] => F65_0 Φ n v0 | _ => none : TR))),
  (41, 0, (fun (Φ : Funs) (n : Nat) (xss : List (List V)) => (match xss with | [[v0, v1, v2, v3, v4, v5, v6, v7]] => F41_0 Φ n v0 v1 v2 v3 v4 v5 v6 v7 | _ => none : TR))),
  (41, 1, (fun (Φ : Funs) (n : Nat) (xss : List (List V)) => (match xss with | [[]] => F41_1 Φ n  | _ => none : TR))),
  (64, 0, (fun (Φ : Funs) (n : Nat) (xss : List (List V)) => (match xss with | [[v0, v1, v2], [v3]] => F64_0 Φ n v0 v1 v2 v3 | _ => none : TR))),
  (44, 0, (fun (Φ : Funs) (n : Nat) (xss : List (List V)) => (match xss with | [[v0], [v1]] => F44_0 Φ n v0 v1 | _ => none : TR))),
  (40, 0, (fun (Φ : Funs) (n : Nat) (xss : List (List V)) => (match xss with | [[v0], [v1]] => F40_0 Φ n v0 v1 | _ => none : TR))),
  (9, 0, (fun (Φ : Funs) (n : Nat) (xss : List (List V)) => (match xss with | [[v0, v1, v2, v3, v4, v5, v6, v7], [v8], [v9]] => F9_0 Φ n v0 v1 v2 v3 v4 v5 v6 v7 v8 v9 | _ => none : TR))),
  (9, 1, (fun (Φ : Funs) (n : Nat) (xss : List (List V)) => (match xss with | [[], [v0], [v1]] => F9_1 Φ n v0 v1 | _ => none : TR))),
  (10, 0, (fun (Φ : Funs) (n : Nat) (xss : List (List V)) => (match xss with | [[v0, v1, v2, v3, v4, v5, v6, v7], [v8]] => F10_0 Φ n v0 v1 v2 v3 v4 v5 v6 v7 v8 | _ => none : TR))),
  (10, 1, (fun (Φ : Funs) (n : Nat) (xss : List (List V)) => (match xss with | [[], [v0]] => F10_1 Φ n v0 | _ => none : TR))),
  (11, 0, (fun (Φ : Funs) (n : Nat) (xss : List (List V)) => (match xss with | [[v0, v1, v2, v3, v4, v5, v6, v7]] => F11_0 Φ n v0 v1 v2 v3 v4 v5 v6 v7 | _ => none : TR))),
  (11, 1, (fun (Φ : Funs) (n : Nat) (xss : List (List V)) => (match xss with | [[]] => F11_1 Φ n  | _ => none : TR))),
  (12, 0, (fun (Φ : Funs) (n : Nat) (xss : List (List V)) => (match xss with | [[v0, v1, v2, v3, v4, v5, v6, v7]] => F12_0 Φ n v0 v1 v2 v3 v4 v5 v6 v7 | _ => none : TR))),
  (12, 1, (fun (Φ : Funs) (n : Nat) (xss : List (List V)) => (match xss with | [[]] => F12_1 Φ n  | _ => none : TR))),
  (13, 0, (fun (Φ : Funs) (n : Nat) (xss : List (List V)) => (match xss with | [[v0]] => F13_0 Φ n v0 | _ => none : TR))),
  (75, 0, (fun (Φ : Funs) (n : Nat) (xss : List (List V)) => (match xss with | [[v0], [v1]] => F75_0 Φ n v0 v1 | _ => none : TR))),
  (66, 0, (fun (Φ : Funs) (n : Nat) (xss : List (List V)) => (match xss with | [[v0], [v1]] => F66_0 Φ n v0 v1 | _ => none : TR))),
  (76, 0, (fun (Φ : Funs) (n : Nat) (xss : List (List V)) => (match xss with | [[v0], [v1]] => F76_0 Φ n v0 v1 | _ => none : TR))),
  (68, 0, (fun (Φ : Funs) (n : Nat) (xss : List (List V)) => (match xss with | [[v0], [v1]] => F68_0 Φ n v0 v1 | _ => none : TR))),
  (69, 0, (fun (Φ : Funs) (n : Nat) (xss : List (List V)) => (match xss with | [[v0]] => F69_0 Φ n v0 | _ => none : TR))),
  (67, 0, (fun (Φ : Funs) (n : Nat) (xss : List (List V)) => (match xss with | [[v0]] => F67_0 Φ n v0 | _ => none : TR))),
  (43, 0, (fun (Φ : Funs) (n : Nat) (xss : List (List V)) => (match xss with | [[v0]] => F43_0 Φ n v0 | _ => none : TR))),
  (18, 0, (fun (Φ : Funs) (n : Nat) (xss : List (List V)) => (match xss with | [[v0]] => F18_0 Φ n v0 | _ => none : TR))),
  (45, 0, (fun (Φ : Funs) (n : Nat) (xss : List (List V)) => (match xss with | [[v0, v1, v2]] => F45_0 Φ n v0 v1 v2 | _ => none : TR))),
  (16, 0, (fun (Φ : Funs) (n : Nat) (xss : List (List V)) => (match xss with | [[v0, v1, v2, v3, v4, v5, v6, v7]] => F16_0 Φ n v0 v1 v2 v3 v4 v5 v6 v7 | _ => none : TR))),
  (16, 1, (fun (Φ : Funs) (n : Nat) (xss : List (List V)) => (match xss with | [[]] => F16_1 Φ n  | _ => none : TR))),
  (14, 0, (fun (Φ : Funs) (n : Nat) (xss : List (List V)) => (match xss with | [] => F14_0 Φ n  | _ => none : TR))),
  (42, 0, (fun (Φ : Funs) (n : Nat) (xss : List (List V)) => (match xss with | [[v0]] => F42_0 Φ n v0 | _ => none : TR))),
  (19, 0, (fun (Φ : Funs) (n : Nat) (xss : List (List V)) => (match xss with | [[v0]] => F19_0 Φ n v0 | _ => none : TR))),
  (15, 0, (fun (Φ : Funs) (n : Nat) (xss : List (List V)) => (match xss with | [[v0, v1, v2, v3, v4, v5, v6, v7]] => F15_0 Φ n v0 v1 v2 v3 v4 v5 v6 v7 | _ => none : TR))),
  (46, 0, (fun (Φ : Funs) (n : Nat) (xss : List (List V)) => (match xss with | [[v0]] => F46_0 Φ n v0 | _ => none : TR))),
  (47, 0, (fun (Φ : Funs) (n : Nat) (xss : List (List V)) => (match xss with | [[v0, v1, v2]] => F47_0 Φ n v0 v1 v2 | _ => none : TR))),
  (17, 0, (fun (Φ : Funs) (n : Nat) (xss : List (List V)) => (match xss with | [[v0, v1, v2, v3, v4, v5, v6, v7]] => F17_0 Φ n v0 v1 v2 v3 v4 v5 v6 v7 | _ => none : TR))),
  (20, 1, (fun (Φ : Funs) (n : Nat) (xss : List (List V)) => (match xss with | [[v0]] => F20_1 Φ n v0 | _ => none : TR))),
  (49, 0, (fun (Φ : Funs) (n : Nat) (xss : List (List V)) => (match xss with | [[v0], [v1]] => F49_0 Φ n v0 v1 | _ => none : TR))),
  (21, 0, (fun (Φ : Funs) (n : Nat) (xss : List (List V)) => (match xss with | [[v0, v1, v2, v3, v4, v5, v6, v7], [v8, v9, v10, v11, v12, v13, v14, v15]] => F21_0 Φ n v0 v1 v2 v3 v4 v5 v6 v7 v8 v9 v10 v11 v12 v13 v14 v15 | _ => none : TR))),
  (50, 0, (fun (Φ : Funs) (n : Nat) (xss : List (List V)) => (match xss with | [[v0, v1, v2, v3, v4, v5, v6, v7], [v8]] => F50_0 Φ n v0 v1 v2 v3 v4 v5 v6 v7 v8 | _ => none : TR))),
  (51, 0, (fun (Φ : Funs) (n : Nat) (xss : List (List V)) => (match xss with | [[v0, v1, v2, v3, v4, v5, v6, v7]] => F51_0 Φ n v0 v1 v2 v3 v4 v5 v6 v7 | _ => none : TR))),
  (52, 0, (fun (Φ : Funs) (n : Nat) (xss : List (List V)) => (match xss with | [[v0], [v1, v2, v3]] => F52_0 Φ n v0 v1 v2 v3 | _ => none : TR))),
  (22, 1, (fun (Φ : Funs) (n : Nat) (xss : List (List V)) => (match xss with | [[v0, v1, v2, v3, v4, v5, v6, v7], [v8], [v9]] => F22_1 Φ n v0 v1 v2 v3 v4 v5 v6 v7 v8 v9 | _ => none : TR))),
  (23, 0, (fun (Φ : Funs) (n : Nat) (xss : List (List V)) => (match xss with | [[v0, v1, v2, v3, v4, v5, v6, v7], [v8]] => F23_0 Φ n v0 v1 v2 v3 v4 v5 v6 v7 v8 | _ => none : TR))),
  (24, 1, (fun (Φ : Funs) (n : Nat) (xss : List (List V)) => (match xss with | [[v0, v1, v2, v3, v4, v5, v6, v7], [v8]] => F24_1 Φ n v0 v1 v2 v3 v4 v5 v6 v7 v8 | _ => none : TR))),
  (25, 1, (fun (Φ : Funs) (n : Nat) (xss : List (List V)) => (match xss with | [[v0, v1, v2, v3, v4, v5, v6, v7], [v8]] => F25_1 Φ n v0 v1 v2 v3 v4 v5 v6 v7 v8 | _ => none : TR))),
  (26, 1, (fun (Φ : Funs) (n : Nat) (xss : List (List V)) => (match xss with | [[v0, v1, v2, v3, v4, v5, v6, v7]] => F26_1 Φ n v0 v1 v2 v3 v4 v5 v6 v7 | _ => none : TR))),
  (27, 0, (fun (Φ : Funs) (n : Nat) (xss : List (List V)) => (match xss with | [[v0, v1, v2, v3, v4, v5, v6, v7]] => F27_0 Φ n v0 v1 v2 v3 v4 v5 v6 v7 | _ => none : TR))),
  (3, 0, (fun (Φ : Funs) (n : Nat) (xss : List (List V)) => (match xss with | [[v0, v1, v2, v3, v4, v5, v6, v7], [v8]] => F3_0 Φ n v0 v1 v2 v3 v4 v5 v6 v7 v8 | _ => none : TR))),
  (28, 0, (fun (Φ : Funs) (n : Nat) (xss : List (List V)) => (match xss with | [[v0, v1, v2, v3, v4, v5, v6, v7]] => F28_0 Φ n v0 v1 v2 v3 v4 v5 v6 v7 | _ => none : TR))),
  (4, 0, (fun (Φ : Funs) (n : Nat) (xss : List (List V)) => (match xss with | [[v0, v1, v2, v3, v4, v5, v6, v7], [v8]] => F4_0 Φ n v0 v1 v2 v3 v4 v5 v6 v7 v8 | _ => none : TR)))]
theorem closed {f k : Nat} {xss raw : List (List V)} (n : Nat) (h : evT T.gv ft n f k xss = some raw) : Fix T f k xss = some raw := by
  refine evT_ok (ft := ft) (fun f k F hF Φ n xss raw hl hr hg => ?_) n f k xss raw h
  have hF := lkF_mem hF
  simp only [ft, List.mem_cons, List.not_mem_nil, or_false, Prod.mk.injEq] at hF
  rcases hF with ⟨rfl, rfl, rfl⟩ | ⟨rfl, rfl, rfl⟩ | ⟨rfl, rfl, rfl⟩ | ⟨rfl, rfl, rfl⟩ | ⟨rfl, rfl, rfl⟩ | ⟨rfl, rfl, rfl⟩ | ⟨rfl, rfl, rfl⟩ | ⟨rfl, rfl, rfl⟩ | ⟨rfl, rfl, rfl⟩ | ⟨rfl, rfl, rfl⟩ | ⟨rfl, rfl, rfl⟩ | ⟨rfl, rfl, rfl⟩ | ⟨rfl, rfl, rfl⟩ | ⟨rfl, rfl, rfl⟩ | ⟨rfl, rfl, rfl⟩ | ⟨rfl, rfl, rfl⟩ | ⟨rfl, rfl, rfl⟩ | ⟨rfl, rfl, rfl⟩ | ⟨rfl, rfl, rfl⟩ | ⟨rfl, rfl, rfl⟩ | ⟨rfl, rfl, rfl⟩ | ⟨rfl, rfl, rfl⟩ | ⟨rfl, rfl, rfl⟩ | ⟨rfl, rfl, rfl⟩ | ⟨rfl, rfl, rfl⟩ | ⟨rfl, rfl, rfl⟩ | ⟨rfl, rfl, rfl⟩ | ⟨rfl, rfl, rfl⟩ | ⟨rfl, rfl, rfl⟩ | ⟨rfl, rfl, rfl⟩ | ⟨rfl, rfl, rfl⟩ | ⟨rfl, rfl, rfl⟩ | ⟨rfl, rfl, rfl⟩ | ⟨rfl, rfl, rfl⟩ | ⟨rfl, rfl, rfl⟩ | ⟨rfl, rfl, rfl⟩ | ⟨rfl, rfl, rfl⟩ | ⟨rfl, rfl, rfl⟩ | ⟨rfl, rfl, rfl⟩ | ⟨rfl, rfl, rfl⟩ | ⟨rfl, rfl, rfl⟩ | ⟨rfl, rfl, rfl⟩ | ⟨rfl, rfl, rfl⟩ | ⟨rfl, rfl, rfl⟩ | ⟨rfl, rfl, rfl⟩ | ⟨rfl, rfl, rfl⟩ | ⟨rfl, rfl, rfl⟩ | ⟨rfl, rfl, rfl⟩ | ⟨rfl, rfl, rfl⟩ | ⟨rfl, rfl, rfl⟩ | ⟨rfl, rfl, rfl⟩ | ⟨rfl, rfl, rfl⟩ | ⟨rfl, rfl, rfl⟩ | ⟨rfl, rfl, rfl⟩ | ⟨rfl, rfl, rfl⟩ | ⟨rfl, rfl, rfl⟩ | ⟨rfl, rfl, rfl⟩
  · simp only at hr; split at hr
    · exact e33_0 n (text_mono hl (x33_0 Φ n _ _ _ _ _ _ _ _) (x33_0 _ n _ _ _ _ _ _ _ _) _ hr)
    · cases hr
  · simp only at hr; split at hr
    · exact e34_0 n (text_mono hl (x34_0 Φ n _ _ _ _ _ _ _ _ _) (x34_0 _ n _ _ _ _ _ _ _ _ _) _ hr)
    · cases hr
  · simp only at hr; split at hr
    · exact e6_0 n (text_mono hl (x6_0 Φ n _ _ _ _ _ _ _ _ _) (x6_0 _ n _ _ _ _ _ _ _ _ _) _ hr)
    · cases hr
  · simp only at hr; split at hr
    · exact e6_1 n (text_mono hl (x6_1 Φ n _) (x6_1 _ n _) _ hr)
    · cases hr
  · simp only at hr; split at hr
    · exact e36_0 n (text_mono hl (x36_0 Φ n _ _ _ _) (x36_0 _ n _ _ _ _) _ hr)
    · cases hr
  · simp only at hr; split at hr
    · exact e35_0 n (text_mono hl (x35_0 Φ n _ _) (x35_0 _ n _ _) _ hr)
    · cases hr
  · simp only at hr; split at hr
    · exact e7_0 n (text_mono hl (x7_0 Φ n _ _ _ _ _ _ _ _ _) (x7_0 _ n _ _ _ _ _ _ _ _ _) _ hr)
    · cases hr
  · simp only at hr; split at hr
    · exact e7_1 n (text_mono hl (x7_1 Φ n _) (x7_1 _ n _) _ hr)
    · cases hr
  · simp only at hr; split at hr
    · exact e39_0 n (text_mono hl (x39_0 Φ n _ _ _) (x39_0 _ n _ _ _) _ hr)
    · cases hr
  · simp only at hr; split at hr
    · exact e65_0 n (text_mono hl (x65_0 Φ n _) (x65_0 _ n _) _ hr)
    · cases hr
  · simp only at hr; split at hr
    · exact e41_0 n (text_mono hl (x41_0 Φ n _ _ _ _ _ _ _ _) (x41_0 _ n _ _ _ _ _ _ _ _) _ hr)
    · cases hr
  · simp only at hr; split at hr
    · exact e41_1 n (text_mono hl (x41_1 Φ n) (x41_1 _ n) _ hr)
    · cases hr
  · simp only at hr; split at hr
    · exact e64_0 n (text_mono hl (x64_0 Φ n _ _ _ _) (x64_0 _ n _ _ _ _) _ hr)
    · cases hr
  · simp only at hr; split at hr
    · exact e44_0 n (text_mono hl (x44_0 Φ n _ _) (x44_0 _ n _ _) _ hr)
    · cases hr
  · simp only at hr; split at hr
    · exact e40_0 n (text_mono hl (x40_0 Φ n _ _) (x40_0 _ n _ _) _ hr)
    · cases hr
  · simp only at hr; split at hr
    · exact e9_0 n (text_mono hl (x9_0 Φ n _ _ _ _ _ _ _ _ _ _) (x9_0 _ n _ _ _ _ _ _ _ _ _ _) _ hr)
    · cases hr
  · simp only at hr; split at hr
    · exact e9_1 n (text_mono hl (x9_1 Φ n _ _) (x9_1 _ n _ _) _ hr)
    · cases hr
  · simp only at hr; split at hr
    · exact e10_0 n (text_mono hl (x10_0 Φ n _ _ _ _ _ _ _ _ _) (x10_0 _ n _ _ _ _ _ _ _ _ _) _ hr)
    · cases hr
  · simp only at hr; split at hr
    · exact e10_1 n (text_mono hl (x10_1 Φ n _) (x10_1 _ n _) _ hr)
    · cases hr
  · simp only at hr; split at hr
    · exact e11_0 n (text_mono hl (x11_0 Φ n _ _ _ _ _ _ _ _) (x11_0 _ n _ _ _ _ _ _ _ _) _ hr)
    · cases hr
  · simp only at hr; split at hr
    · exact e11_1 n (text_mono hl (x11_1 Φ n) (x11_1 _ n) _ hr)
    · cases hr
  · simp only at hr; split at hr
    · exact e12_0 n (text_mono hl (x12_0 Φ n _ _ _ _ _ _ _ _) (x12_0 _ n _ _ _ _ _ _ _ _) _ hr)
    · cases hr
  · simp only at hr; split at hr
    · exact e12_1 n (text_mono hl (x12_1 Φ n) (x12_1 _ n) _ hr)
    · cases hr
  · simp only at hr; split at hr
    · exact e13_0 n (text_mono hl (x13_0 Φ n _) (x13_0 _ n _) _ hr)
    · cases hr
  · simp only at hr; split at hr
    · exact e75_0 n (text_mono hl (x75_0 Φ n _ _) (x75_0 _ n _ _) _ hr)
    · cases hr
  · simp only at hr; split at hr
    · exact e66_0 n (text_mono hl (x66_0 Φ n _ _) (x66_0 _ n _ _) _ hr)
    · cases hr
  · simp only at hr; split at hr
    · exact e76_0 n (text_mono hl (x76_0 Φ n _ _) (x76_0 _ n _ _) _ hr)
    · cases hr
  · simp only at hr; split at hr
    · exact e68_0 n (text_mono hl (x68_0 Φ n _ _) (x68_0 _ n _ _) _ hr)
    · cases hr
  · simp only at hr; split at hr
    · exact e69_0 n (text_mono hl (x69_0 Φ n _) (x69_0 _ n _) _ hr)
    · cases hr
  · simp only at hr; split at hr
    · exact e67_0 n (text_mono hl (x67_0 Φ n _) (x67_0 _ n _) _ hr)
    · cases hr
  · simp only at hr; split at hr
    · exact e43_0 n (text_mono hl (x43_0 Φ n _) (x43_0 _ n _) _ hr)
    · cases hr
  · simp only at hr; split at hr
    · exact e18_0 n (text_mono hl (x18_0 Φ n _) (x18_0 _ n _) _ hr)
    · cases hr
  · simp only at hr; split at hr
    · exact e45_0 n (text_mono hl (x45_0 Φ n _ _ _) (x45_0 _ n _ _ _) _ hr)
    · cases hr
  · simp only at hr; split at hr
    · exact e16_0 n (text_mono hl (x16_0 Φ n _ _ _ _ _ _ _ _) (x16_0 _ n _ _ _ _ _ _ _ _) _ hr)
    · cases hr
  · simp only at hr; split at hr
    · exact e16_1 n (text_mono hl (x16_1 Φ n) (x16_1 _ n) _ hr)
    · cases hr
  · simp only at hr; split at hr
    · exact e14_0 n (text_mono hl (x14_0 Φ n) (x14_0 _ n) _ hr)
    · cases hr
  · simp only at hr; split at hr
    · exact e42_0 n (text_mono hl (x42_0 Φ n _) (x42_0 _ n _) _ hr)
    · cases hr
  · simp only at hr; split at hr
    · exact e19_0 n (text_mono hl (x19_0 Φ n _) (x19_0 _ n _) _ hr)
    · cases hr
  · simp only at hr; split at hr
    · exact e15_0 n (text_mono hl (x15_0 Φ n _ _ _ _ _ _ _ _) (x15_0 _ n _ _ _ _ _ _ _ _) _ hr)
    · cases hr
  · simp only at hr; split at hr
    · exact e46_0 n (text_mono hl (x46_0 Φ n _) (x46_0 _ n _) _ hr)
    · cases hr
  · simp only at hr; split at hr
    · exact e47_0 n (text_mono hl (x47_0 Φ n _ _ _) (x47_0 _ n _ _ _) _ hr)
    · cases hr
  · simp only at hr; split at hr
    · exact e17_0 n (text_mono hl (x17_0 Φ n _ _ _ _ _ _ _ _) (x17_0 _ n _ _ _ _ _ _ _ _) _ hr)
    · cases hr
  · simp only at hr; split at hr
    · exact e20_1 n (text_mono hl (x20_1 Φ n _) (x20_1 _ n _) _ hr)
    · cases hr
  · simp only at hr; split at hr
    · exact e49_0 n (text_mono hl (x49_0 Φ n _ _) (x49_0 _ n _ _) _ hr)
    · cases hr
  · simp only at hr; split at hr
    · exact e21_0 n (text_mono hl (x21_0 Φ n _ _ _ _ _ _ _ _ _ _ _ _ _ _ _ _) (x21_0 _ n _ _ _ _ _ _ _ _ _ _ _ _ _ _ _ _) _ hr)
    · cases hr
  · simp only at hr; split at hr
    · exact e50_0 n (text_mono hl (x50_0 Φ n _ _ _ _ _ _ _ _ _) (x50_0 _ n _ _ _ _ _ _ _ _ _) _ hr)
    · cases hr
  · simp only at hr; split at hr
    · exact e51_0 n (text_mono hl (x51_0 Φ n _ _ _ _ _ _ _ _) (x51_0 _ n _ _ _ _ _ _ _ _) _ hr)
    · cases hr
  · simp only at hr; split at hr
    · exact e52_0 n (text_mono hl (x52_0 Φ n _ _ _ _) (x52_0 _ n _ _ _ _) _ hr)
    · cases hr
  · simp only at hr; split at hr
    · exact e22_1 n (text_mono hl (x22_1 Φ n _ _ _ _ _ _ _ _ _ _) (x22_1 _ n _ _ _ _ _ _ _ _ _ _) _ hr)
    · cases hr
  · simp only at hr; split at hr
    · exact e23_0 n (text_mono hl (x23_0 Φ n _ _ _ _ _ _ _ _ _) (x23_0 _ n _ _ _ _ _ _ _ _ _) _ hr)
    · cases hr
  · simp only at hr; split at hr
    · exact e24_1 n (text_mono hl (x24_1 Φ n _ _ _ _ _ _ _ _ _) (x24_1 _ n _ _ _ _ _ _ _ _ _) _ hr)
    · cases hr
  · simp only at hr; split at hr
    · exact e25_1 n (text_mono hl (x25_1 Φ n _ _ _ _ _ _ _ _ _) (x25_1 _ n _ _ _ _ _ _ _ _ _) _ hr)
    · cases hr
  · simp only at hr; split at hr
    · exact e26_1 n (text_mono hl (x26_1 Φ n _ _ _ _ _ _ _ _) (x26_1 _ n _ _ _ _ _ _ _ _) _ hr)
    · cases hr
  · simp only at hr; split at hr
    · exact e27_0 n (text_mono hl (x27_0 Φ n _ _ _ _ _ _ _ _) (x27_0 _ n _ _ _ _ _ _ _ _) _ hr)
    · cases hr
  · simp only at hr; split at hr
    · exact e3_0 n (text_mono hl (x3_0 Φ n _ _ _ _ _ _ _ _ _) (x3_0 _ n _ _ _ _ _ _ _ _ _) _ hr)
    · cases hr
  · simp only at hr; split at hr
    · exact e28_0 n (text_mono hl (x28_0 Φ n _ _ _ _ _ _ _ _) (x28_0 _ n _ _ _ _ _ _ _ _) _ hr)
    · cases hr
  · simp only at hr; split at hr
    · exact e4_0 n (text_mono hl (x4_0 Φ n _ _ _ _ _ _ _ _ _) (x4_0 _ n _ _ _ _ _ _ _ _ _) _ hr)
    · cases hr
end Go.Proofs.YtlhcgiegganbpaaDoorVs
