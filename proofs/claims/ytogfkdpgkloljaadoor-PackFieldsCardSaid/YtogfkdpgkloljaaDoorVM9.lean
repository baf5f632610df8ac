/-
  Several texts in one: What the functions of this seat answer. Condition: the package variable errors.errorType holds the handle of the type error.
-/
import Derived.Test.YtogfkdpgkloljaaDoorAs
import Derived.Test.YtogfkdpgkloljaaDoorVM8
set_option linter.unusedVariables false
set_option linter.unusedSimpArgs false
set_option maxRecDepth 100000
namespace Go.Proofs.YtogfkdpgkloljaaDoorVs
abbrev GP := Go.Proofs.YtogfkdpgkloljaaDoor.AsNum.GP
theorem gdep : GWDep GP where
  dep w w' h hg := by unfold GP Go.Proofs.YtogfkdpgkloljaaDoor.AsNum.GP at *; rw [cell_same h]; exact hg
  pos w hg := by
    rcases Nat.lt_or_ge 0 w.heap.size with h0 | h0
    · exact h0
    · unfold GP Go.Proofs.YtogfkdpgkloljaaDoor.AsNum.GP at hg; simp [World.cell?, Array.getElem?_eq_none h0] at hg

/-! slices.Clone[[]byte,byte] -/
theorem cl24A (Φ : Funs) (n : Nat) (v0 : V) : (textE Tryd.prog (sgL []) [] { Tryd.f24 with body := some (cl1 Tryd.f24) } ⟨[.one .lent], [.one .own]⟩).map (fun t => t.eval Φ n [v0]) = some (some (.ret [[.list 5 []]])) := by kernel_rfl
theorem cl24B (Φ : Funs) (n : Nat) (v0 : V) : (textE Tryd.prog (sgL []) [] { Tryd.f24 with body := some (cl2 Tryd.f24) } ⟨[.one .lent], [.one .own]⟩).map (fun t => t.eval Φ n [v0]) = some (op1V Φ (.mk 5 []) [] fun v1 => chkV 2 v0 <| op1V Φ (.app 5 1 true) [[v1], [v0]] fun v2 => some (.ret [[v2]])) := by kernel_rfl
theorem cl24 : Sim Tryd.prog GP 24 ⟨[.one .lent], [.one .own]⟩ (cloneφ 5 1 true) :=
  sim_clone gdep (by kernel_rfl) Tryd.func24 (by kernel_rfl) (show Tryd.f24.body = some (nilBody _ _ 23 _ _ _ _ _ _ _ _ _ _ (cl1 Tryd.f24) (cl2 Tryd.f24)) from rfl) Tryd.underlying23 (by decide) (by decide) (by kernel_rfl) cl24A cl24B

noncomputable def T : Tab := ⟨tabV [(32, 0, vcOf Tryd.prog sg [] Tryd.f32 g32_0, g32_0.ps), (22, 0, vcOf Tryd.prog sg [] Tryd.f22 g22_0, g22_0.ps), (22, 1, vcOf Tryd.prog sg [] Tryd.f22 g22_1, g22_1.ps), (23, 0, vcOf Tryd.prog sg [] Tryd.f23 g23_0, g23_0.ps), (23, 1, vcOf Tryd.prog sg [] Tryd.f23 g23_1, g23_1.ps), (7, 0, vcOf Tryd.prog sg [] Tryd.f7 g7_0, g7_0.ps), (7, 1, vcOf Tryd.prog sg [] Tryd.f7 g7_1, g7_1.ps), (6, 0, vcOf Tryd.prog sg [] Tryd.f6 g6_0, g6_0.ps), (6, 1, vcOf Tryd.prog sg [] Tryd.f6 g6_1, g6_1.ps), (8, 0, vcOf Tryd.prog sg [] Tryd.f8 g8_0, g8_0.ps), (8, 1, vcOf Tryd.prog sg [] Tryd.f8 g8_1, g8_1.ps), (25, 0, vcOf Tryd.prog sg [] Tryd.f25 g25_0, g25_0.ps), (25, 1, vcOf Tryd.prog sg [] Tryd.f25 g25_1, g25_1.ps), (33, 0, vcOf Tryd.prog sg [] Tryd.f33 g33_0, g33_0.ps), (26, 0, vcOf Tryd.prog sg [] Tryd.f26 g26_0, g26_0.ps), (27, 0, vcOf Tryd.prog sg [] Tryd.f27 g27_0, g27_0.ps), (27, 1, vcOf Tryd.prog sg [] Tryd.f27 g27_1, g27_1.ps), (9, 0, vcOf Tryd.prog sg [7006] Tryd.f9 g9_0, g9_0.ps), (9, 1, vcOf Tryd.prog sg [] Tryd.f9 g9_1, g9_1.ps), (28, 0, vcOf Tryd.prog sg [] Tryd.f28 g28_0, g28_0.ps), (28, 1, vcOf Tryd.prog sg [] Tryd.f28 g28_1, g28_1.ps), (10, 0, vcOf Tryd.prog sg [] Tryd.f10 g10_0, g10_0.ps), (10, 1, vcOf Tryd.prog sg [] Tryd.f10 g10_1, g10_1.ps), (11, 0, vcOf Tryd.prog sg [5006] Tryd.f11 g11_0, g11_0.ps), (11, 1, vcOf Tryd.prog sg [] Tryd.f11 g11_1, g11_1.ps), (13, 0, vcOf Tryd.prog sg [] Tryd.f13 g13_0, g13_0.ps), (13, 1, vcOf Tryd.prog sg [] Tryd.f13 g13_1, g13_1.ps), (14, 0, vcOf Tryd.prog sg [] Tryd.f14 g14_0, g14_0.ps), (16, 0, vcOf Tryd.prog sg [] Tryd.f16 g16_0, g16_0.ps), (21, 0, vcOf Tryd.prog sg [] Tryd.f21 g21_0, g21_0.ps), (15, 0, vcOf Tryd.prog sg [] Tryd.f15 g15_0, g15_0.ps), (30, 0, vcOf Tryd.prog sg [] Tryd.f30 g30_0, g30_0.ps), (17, 0, vcOf Tryd.prog sg [] Tryd.f17 g17_0, g17_0.ps), (38, 0, vcOf Tryd.prog sg [] Tryd.f38 g38_0, g38_0.ps), (31, 0, vcOf Tryd.prog sg [] Tryd.f31 g31_0, g31_0.ps), (18, 0, vcOf Tryd.prog sg [] Tryd.f18 g18_0, g18_0.ps), (20, 0, vcOf Tryd.prog sg [] Tryd.f20 g20_0, g20_0.ps), (19, 0, vcOf Tryd.prog sg [] Tryd.f19 g19_0, g19_0.ps), (3, 0, vcOf Tryd.prog sg [] Tryd.f3 g3_0, g3_0.ps), (4, 0, vcOf Tryd.prog sg [] Tryd.f4 g4_0, g4_0.ps), (5, 0, vcOf Tryd.prog sg [] Tryd.f5 g5_0, g5_0.ps)], tabG [(12, 0, numφ 62), (24, 0, cloneφ 5 1 true)]⟩
theorem sims : ∀ f k g, (k, g) ∈ sg f → Sim Tryd.prog GP f g (Fix T f k) := by
  refine sims_fix gdep (by kernel_rfl) fun f k g h => ?_
  have h := sgL_mem h
  simp only [L, List.mem_cons, List.not_mem_nil, or_false, Prod.mk.injEq] at h
  rcases h with ⟨rfl, rfl, rfl⟩ | ⟨rfl, rfl, rfl⟩ | ⟨rfl, rfl, rfl⟩ | ⟨rfl, rfl, rfl⟩ | ⟨rfl, rfl, rfl⟩ | ⟨rfl, rfl, rfl⟩ | ⟨rfl, rfl, rfl⟩ | ⟨rfl, rfl, rfl⟩ | ⟨rfl, rfl, rfl⟩ | ⟨rfl, rfl, rfl⟩ | ⟨rfl, rfl, rfl⟩ | ⟨rfl, rfl, rfl⟩ | ⟨rfl, rfl, rfl⟩ | ⟨rfl, rfl, rfl⟩ | ⟨rfl, rfl, rfl⟩ | ⟨rfl, rfl, rfl⟩ | ⟨rfl, rfl, rfl⟩ | ⟨rfl, rfl, rfl⟩ | ⟨rfl, rfl, rfl⟩ | ⟨rfl, rfl, rfl⟩ | ⟨rfl, rfl, rfl⟩ | ⟨rfl, rfl, rfl⟩ | ⟨rfl, rfl, rfl⟩ | ⟨rfl, rfl, rfl⟩ | ⟨rfl, rfl, rfl⟩ | ⟨rfl, rfl, rfl⟩ | ⟨rfl, rfl, rfl⟩ | ⟨rfl, rfl, rfl⟩ | ⟨rfl, rfl, rfl⟩ | ⟨rfl, rfl, rfl⟩ | ⟨rfl, rfl, rfl⟩ | ⟨rfl, rfl, rfl⟩ | ⟨rfl, rfl, rfl⟩ | ⟨rfl, rfl, rfl⟩ | ⟨rfl, rfl, rfl⟩ | ⟨rfl, rfl, rfl⟩ | ⟨rfl, rfl, rfl⟩ | ⟨rfl, rfl, rfl⟩ | ⟨rfl, rfl, rfl⟩ | ⟨rfl, rfl, rfl⟩ | ⟨rfl, rfl, rfl⟩ | ⟨rfl, rfl, rfl⟩ | ⟨rfl, rfl, rfl⟩
  · exact .given _ rfl (sim_num ⟨_, Tryd.func12, by kernel_rfl, by kernel_rfl⟩ Go.Proofs.YtogfkdpgkloljaaDoor.AsNum.num_none Go.Proofs.YtogfkdpgkloljaaDoor.AsNum.num_some)
  · exact .given _ rfl (cl24)
  · exact .told Tryd.f32 (hsOf []) _ rfl Tryd.func32 (by kernel_rfl) (told_ok (x32_0 (fun _ _ _ => none) 0 .unit .unit)) rfl
  · exact .told Tryd.f22 (hsOf []) _ rfl Tryd.func22 (by kernel_rfl) (told_ok (x22_0 (fun _ _ _ => none) 0 .unit .unit)) rfl
  · exact .told Tryd.f22 (hsOf []) _ rfl Tryd.func22 (by kernel_rfl) (told_ok (x22_1 (fun _ _ _ => none) 0 .unit)) rfl
  · exact .told Tryd.f23 (hsOf []) _ rfl Tryd.func23 (by kernel_rfl) (told_ok (x23_0 (fun _ _ _ => none) 0 .unit .unit)) rfl
  · exact .told Tryd.f23 (hsOf []) _ rfl Tryd.func23 (by kernel_rfl) (told_ok (x23_1 (fun _ _ _ => none) 0 .unit)) rfl
  · exact .told Tryd.f7 (hsOf []) _ rfl Tryd.func7 (by kernel_rfl) (told_ok (x7_0 (fun _ _ _ => none) 0 .unit .unit)) rfl
  · exact .told Tryd.f7 (hsOf []) _ rfl Tryd.func7 (by kernel_rfl) (told_ok (x7_1 (fun _ _ _ => none) 0 .unit)) rfl
  · exact .told Tryd.f6 (hsOf []) _ rfl Tryd.func6 (by kernel_rfl) (told_ok (x6_0 (fun _ _ _ => none) 0 .unit .unit .unit .unit .unit .unit .unit .unit)) rfl
  · exact .told Tryd.f6 (hsOf []) _ rfl Tryd.func6 (by kernel_rfl) (told_ok (x6_1 (fun _ _ _ => none) 0 .unit .unit .unit .unit .unit .unit .unit)) rfl
  · exact .told Tryd.f8 (hsOf []) _ rfl Tryd.func8 (by kernel_rfl) (told_ok (x8_0 (fun _ _ _ => none) 0 .unit)) rfl
  · exact .told Tryd.f8 (hsOf []) _ rfl Tryd.func8 (by kernel_rfl) (told_ok (x8_1 (fun _ _ _ => none) 0)) rfl
  · exact .told Tryd.f25 (hsOf []) _ rfl Tryd.func25 (by kernel_rfl) (told_ok (x25_0 (fun _ _ _ => none) 0 .unit .unit)) rfl
  · exact .told Tryd.f25 (hsOf []) _ rfl Tryd.func25 (by kernel_rfl) (told_ok (x25_1 (fun _ _ _ => none) 0)) rfl
  · exact .told Tryd.f33 (hsOf []) _ rfl Tryd.func33 (by kernel_rfl) (told_ok (x33_0 (fun _ _ _ => none) 0 .unit .unit)) rfl
  · exact .told Tryd.f26 (hsOf []) _ rfl Tryd.func26 (by kernel_rfl) (told_ok (x26_0 (fun _ _ _ => none) 0 .unit)) rfl
  · exact .told Tryd.f27 (hsOf []) _ rfl Tryd.func27 (by kernel_rfl) (told_ok (x27_0 (fun _ _ _ => none) 0 .unit .unit)) rfl
  · exact .told Tryd.f27 (hsOf []) _ rfl Tryd.func27 (by kernel_rfl) (told_ok (x27_1 (fun _ _ _ => none) 0)) rfl
  · exact .told Tryd.f9 (hsOf [7006]) _ rfl Tryd.func9 (by kernel_rfl) (told_ok (x9_0 (fun _ _ _ => none) 0 .unit .unit .unit .unit)) rfl
  · exact .told Tryd.f9 (hsOf []) _ rfl Tryd.func9 (by kernel_rfl) (told_ok (x9_1 (fun _ _ _ => none) 0 .unit .unit)) rfl
  · exact .told Tryd.f28 (hsOf []) _ rfl Tryd.func28 (by kernel_rfl) (told_ok (x28_0 (fun _ _ _ => none) 0 .unit .unit .unit)) rfl
  · exact .told Tryd.f28 (hsOf []) _ rfl Tryd.func28 (by kernel_rfl) (told_ok (x28_1 (fun _ _ _ => none) 0 .unit)) rfl
  · exact .told Tryd.f10 (hsOf []) _ rfl Tryd.func10 (by kernel_rfl) (told_ok (x10_0 (fun _ _ _ => none) 0 .unit .unit .unit .unit .unit)) rfl
  · exact .told Tryd.f10 (hsOf []) _ rfl Tryd.func10 (by kernel_rfl) (told_ok (x10_1 (fun _ _ _ => none) 0 .unit .unit .unit)) rfl
  · exact .told Tryd.f11 (hsOf [5006]) _ rfl Tryd.func11 (by kernel_rfl) (told_ok (x11_0 (fun _ _ _ => none) 0 .unit .unit .unit)) rfl
  · exact .told Tryd.f11 (hsOf []) _ rfl Tryd.func11 (by kernel_rfl) (told_ok (x11_1 (fun _ _ _ => none) 0 .unit)) rfl
  · exact .told Tryd.f13 (hsOf []) _ rfl Tryd.func13 (by kernel_rfl) (told_ok (x13_0 (fun _ _ _ => none) 0 .unit .unit)) rfl
  · exact .told Tryd.f13 (hsOf []) _ rfl Tryd.func13 (by kernel_rfl) (told_ok (x13_1 (fun _ _ _ => none) 0)) rfl
  · exact .told Tryd.f14 (hsOf []) _ rfl Tryd.func14 (by kernel_rfl) (told_ok (x14_0 (fun _ _ _ => none) 0 .unit)) rfl
  · exact .told Tryd.f16 (hsOf []) _ rfl Tryd.func16 (by kernel_rfl) (told_ok (x16_0 (fun _ _ _ => none) 0 .unit)) rfl
  · exact .told Tryd.f21 (hsOf []) _ rfl Tryd.func21 (by kernel_rfl) (told_ok (x21_0 (fun _ _ _ => none) 0 .unit .unit)) rfl
  · exact .told Tryd.f15 (hsOf []) _ rfl Tryd.func15 (by kernel_rfl) (told_ok (x15_0 (fun _ _ _ => none) 0)) rfl
  · exact .told Tryd.f30 (hsOf []) _ rfl Tryd.func30 (by kernel_rfl) (told_ok (x30_0 (fun _ _ _ => none) 0 .unit .unit)) rfl
  · exact .told Tryd.f17 (hsOf []) _ rfl Tryd.func17 (by kernel_rfl) (told_ok (x17_0 (fun _ _ _ => none) 0 .unit .unit .unit .unit .unit .unit .unit .unit)) rfl
  · exact .told Tryd.f38 (hsOf []) _ rfl Tryd.func38 (by kernel_rfl) (told_ok (x38_0 (fun _ _ _ => none) 0 .unit)) rfl
  · exact .told Tryd.f31 (hsOf []) _ rfl Tryd.func31 (by kernel_rfl) (told_ok (x31_0 (fun _ _ _ => none) 0 .unit .unit .unit .unit)) rfl
  · exact .told Tryd.f18 (hsOf []) _ rfl Tryd.func18 (by kernel_rfl) (told_ok (x18_0 (fun _ _ _ => none) 0 .unit .unit .unit .unit .unit .unit .unit .unit .unit)) rfl
  · exact .told Tryd.f20 (hsOf []) _ rfl Tryd.func20 (by kernel_rfl) (told_ok (x20_0 (fun _ _ _ => none) 0 .unit .unit .unit .unit .unit .unit .unit .unit .unit)) rfl
  · exact .told Tryd.f19 (hsOf []) _ rfl Tryd.func19 (by kernel_rfl) (told_ok (x19_0 (fun _ _ _ => none) 0 .unit .unit .unit .unit .unit .unit .unit .unit .unit .unit .unit .unit .unit .unit)) rfl
  · exact .told Tryd.f3 (hsOf []) _ rfl Tryd.func3 (by kernel_rfl) (told_ok (x3_0 (fun _ _ _ => none) 0 .unit .unit)) rfl
  · exact .told Tryd.f4 (hsOf []) _ rfl Tryd.func4 (by kernel_rfl) (told_ok (x4_0 (fun _ _ _ => none) 0 .unit .unit)) rfl
  · exact .told Tryd.f5 (hsOf []) _ rfl Tryd.func5 (by kernel_rfl) (told_ok (x5_0 (fun _ _ _ => none) 0 .unit .unit .unit .unit)) rfl
theorem gv12 {xss raw : List (List V)} (h : (numφ 62) xss = some raw) : Fix T 12 0 xss = some raw := fix_given rfl h
theorem gv24 {xss raw : List (List V)} (h : (cloneφ 5 1 true) xss = some raw) : Fix T 24 0 xss = some raw := fix_given rfl h
theorem e32_0 (n : Nat) {v0 v1 : V} {raw : List (List V)} (h : F32_0 (Fix T) n v0 v1 = some (.ret raw)) : Fix T 32 0 [[v0], [v1]] = some raw := fix_text (vs := [v1, v0]) rfl rfl (x32_0 _ n v0 v1) rfl (by simp [LensOK, g32_0, PSh.ms]) h
theorem e22_0 (n : Nat) {v0 v1 : V} {raw : List (List V)} (h : F22_0 (Fix T) n v0 v1 = some (.ret raw)) : Fix T 22 0 [[v0], [v1]] = some raw := fix_text (vs := [v1, v0]) rfl rfl (x22_0 _ n v0 v1) rfl (by simp [LensOK, g22_0, PSh.ms]) h
theorem e22_1 (n : Nat) {v0 : V} {raw : List (List V)} (h : F22_1 (Fix T) n v0 = some (.ret raw)) : Fix T 22 1 [[], [v0]] = some raw := fix_text (vs := [v0]) rfl rfl (x22_1 _ n v0) rfl (by simp [LensOK, g22_1, PSh.ms]) h
theorem e23_0 (n : Nat) {v0 v1 : V} {raw : List (List V)} (h : F23_0 (Fix T) n v0 v1 = some (.ret raw)) : Fix T 23 0 [[v0], [v1]] = some raw := fix_text (vs := [v1, v0]) rfl rfl (x23_0 _ n v0 v1) rfl (by simp [LensOK, g23_0, PSh.ms]) h
theorem e23_1 (n : Nat) {v0 : V} {raw : List (List V)} (h : F23_1 (Fix T) n v0 = some (.ret raw)) : Fix T 23 1 [[], [v0]] = some raw := fix_text (vs := [v0]) rfl rfl (x23_1 _ n v0) rfl (by simp [LensOK, g23_1, PSh.ms]) h
theorem e7_0 (n : Nat) {v0 v1 : V} {raw : List (List V)} (h : F7_0 (Fix T) n v0 v1 = some (.ret raw)) : Fix T 7 0 [[v0], [v1]] = some raw := fix_text (vs := [v1, v0]) rfl rfl (x7_0 _ n v0 v1) rfl (by simp [LensOK, g7_0, PSh.ms]) h
theorem e7_1 (n : Nat) {v0 : V} {raw : List (List V)} (h : F7_1 (Fix T) n v0 = some (.ret raw)) : Fix T 7 1 [[], [v0]] = some raw := fix_text (vs := [v0]) rfl rfl (x7_1 _ n v0) rfl (by simp [LensOK, g7_1, PSh.ms]) h
theorem e6_0 (n : Nat) {v0 v1 v2 v3 v4 v5 v6 v7 : V} {raw : List (List V)} (h : F6_0 (Fix T) n v0 v1 v2 v3 v4 v5 v6 v7 = some (.ret raw)) : Fix T 6 0 [[v0], [v1, v2, v3, v4, v5, v6, v7]] = some raw := fix_text (vs := [v7, v6, v5, v4, v3, v2, v1, v0]) rfl rfl (x6_0 _ n v0 v1 v2 v3 v4 v5 v6 v7) rfl (by simp [LensOK, g6_0, PSh.ms]) h
theorem e6_1 (n : Nat) {v0 v1 v2 v3 v4 v5 v6 : V} {raw : List (List V)} (h : F6_1 (Fix T) n v0 v1 v2 v3 v4 v5 v6 = some (.ret raw)) : Fix T 6 1 [[], [v0, v1, v2, v3, v4, v5, v6]] = some raw := fix_text (vs := [v6, v5, v4, v3, v2, v1, v0]) rfl rfl (x6_1 _ n v0 v1 v2 v3 v4 v5 v6) rfl (by simp [LensOK, g6_1, PSh.ms]) h
theorem e8_0 (n : Nat) {v0 : V} {raw : List (List V)} (h : F8_0 (Fix T) n v0 = some (.ret raw)) : Fix T 8 0 [[v0]] = some raw := fix_text (vs := [v0]) rfl rfl (x8_0 _ n v0) rfl (by simp [LensOK, g8_0, PSh.ms]) h
theorem e8_1 (n : Nat) {raw : List (List V)} (h : F8_1 (Fix T) n = some (.ret raw)) : Fix T 8 1 [[]] = some raw := fix_text (vs := []) rfl rfl (x8_1 _ n) rfl (by simp [LensOK, g8_1, PSh.ms]) h
theorem e25_0 (n : Nat) {v0 v1 : V} {raw : List (List V)} (h : F25_0 (Fix T) n v0 v1 = some (.ret raw)) : Fix T 25 0 [[v0, v1]] = some raw := fix_text (vs := [v1, v0]) rfl rfl (x25_0 _ n v0 v1) rfl (by simp [LensOK, g25_0, PSh.ms]) h
theorem e25_1 (n : Nat) {raw : List (List V)} (h : F25_1 (Fix T) n = some (.ret raw)) : Fix T 25 1 [[]] = some raw := fix_text (vs := []) rfl rfl (x25_1 _ n) rfl (by simp [LensOK, g25_1, PSh.ms]) h
theorem e33_0 (n : Nat) {v0 v1 : V} {raw : List (List V)} (h : F33_0 (Fix T) n v0 v1 = some (.ret raw)) : Fix T 33 0 [[v0], [v1]] = some raw := fix_text (vs := [v1, v0]) rfl rfl (x33_0 _ n v0 v1) rfl (by simp [LensOK, g33_0, PSh.ms]) h
theorem e26_0 (n : Nat) {v0 : V} {raw : List (List V)} (h : F26_0 (Fix T) n v0 = some (.ret raw)) : Fix T 26 0 [[v0]] = some raw := fix_text (vs := [v0]) rfl rfl (x26_0 _ n v0) rfl (by simp [LensOK, g26_0, PSh.ms]) h
theorem e27_0 (n : Nat) {v0 v1 : V} {raw : List (List V)} (h : F27_0 (Fix T) n v0 v1 = some (.ret raw)) : Fix T 27 0 [[v0, v1]] = some raw := fix_text (vs := [v1, v0]) rfl rfl (x27_0 _ n v0 v1) rfl (by simp [LensOK, g27_0, PSh.ms]) h
theorem e27_1 (n : Nat) {raw : List (List V)} (h : F27_1 (Fix T) n = some (.ret raw)) : Fix T 27 1 [[]] = some raw := fix_text (vs := []) rfl rfl (x27_1 _ n) rfl (by simp [LensOK, g27_1, PSh.ms]) h
theorem e9_0 (n : Nat) {v0 v1 v2 v3 : V} {raw : List (List V)} (h : F9_0 (Fix T) n v0 v1 v2 v3 = some (.ret raw)) : Fix T 9 0 [[v0, v1], [v2], [v3]] = some raw := fix_text (vs := [v3, v2, v1, v0]) rfl rfl (x9_0 _ n v0 v1 v2 v3) rfl (by simp [LensOK, g9_0, PSh.ms]) h
theorem e9_1 (n : Nat) {v0 v1 : V} {raw : List (List V)} (h : F9_1 (Fix T) n v0 v1 = some (.ret raw)) : Fix T 9 1 [[], [v0], [v1]] = some raw := fix_text (vs := [v1, v0]) rfl rfl (x9_1 _ n v0 v1) rfl (by simp [LensOK, g9_1, PSh.ms]) h
theorem e28_0 (n : Nat) {v0 v1 v2 : V} {raw : List (List V)} (h : F28_0 (Fix T) n v0 v1 v2 = some (.ret raw)) : Fix T 28 0 [[v0, v1], [v2]] = some raw := fix_text (vs := [v2, v1, v0]) rfl rfl (x28_0 _ n v0 v1 v2) rfl (by simp [LensOK, g28_0, PSh.ms]) h
theorem e28_1 (n : Nat) {v0 : V} {raw : List (List V)} (h : F28_1 (Fix T) n v0 = some (.ret raw)) : Fix T 28 1 [[], [v0]] = some raw := fix_text (vs := [v0]) rfl rfl (x28_1 _ n v0) rfl (by simp [LensOK, g28_1, PSh.ms]) h
theorem e10_0 (n : Nat) {v0 v1 v2 v3 v4 : V} {raw : List (List V)} (h : F10_0 (Fix T) n v0 v1 v2 v3 v4 = some (.ret raw)) : Fix T 10 0 [[v0, v1], [v2], [v3], [v4]] = some raw := fix_text (vs := [v4, v3, v2, v1, v0]) rfl rfl (x10_0 _ n v0 v1 v2 v3 v4) rfl (by simp [LensOK, g10_0, PSh.ms]) h
theorem e10_1 (n : Nat) {v0 v1 v2 : V} {raw : List (List V)} (h : F10_1 (Fix T) n v0 v1 v2 = some (.ret raw)) : Fix T 10 1 [[], [v0], [v1], [v2]] = some raw := fix_text (vs := [v2, v1, v0]) rfl rfl (x10_1 _ n v0 v1 v2) rfl (by simp [LensOK, g10_1, PSh.ms]) h
theorem e11_0 (n : Nat) {v0 v1 v2 : V} {raw : List (List V)} (h : F11_0 (Fix T) n v0 v1 v2 = some (.ret raw)) : Fix T 11 0 [[v0, v1], [v2]] = some raw := fix_text (vs := [v2, v1, v0]) rfl rfl (x11_0 _ n v0 v1 v2) rfl (by simp [LensOK, g11_0, PSh.ms]) h
theorem e11_1 (n : Nat) {v0 : V} {raw : List (List V)} (h : F11_1 (Fix T) n v0 = some (.ret raw)) : Fix T 11 1 [[], [v0]] = some raw := fix_text (vs := [v0]) rfl rfl (x11_1 _ n v0) rfl (by simp [LensOK, g11_1, PSh.ms]) h
theorem e13_0 (n : Nat) {v0 v1 : V} {raw : List (List V)} (h : F13_0 (Fix T) n v0 v1 = some (.ret raw)) : Fix T 13 0 [[v0, v1]] = some raw := fix_text (vs := [v1, v0]) rfl rfl (x13_0 _ n v0 v1) rfl (by simp [LensOK, g13_0, PSh.ms]) h
theorem e13_1 (n : Nat) {raw : List (List V)} (h : F13_1 (Fix T) n = some (.ret raw)) : Fix T 13 1 [[]] = some raw := fix_text (vs := []) rfl rfl (x13_1 _ n) rfl (by simp [LensOK, g13_1, PSh.ms]) h
theorem e14_0 (n : Nat) {v0 : V} {raw : List (List V)} (h : F14_0 (Fix T) n v0 = some (.ret raw)) : Fix T 14 0 [[v0]] = some raw := fix_text (vs := [v0]) rfl rfl (x14_0 _ n v0) rfl (by simp [LensOK, g14_0, PSh.ms]) h
theorem e16_0 (n : Nat) {v0 : V} {raw : List (List V)} (h : F16_0 (Fix T) n v0 = some (.ret raw)) : Fix T 16 0 [[v0]] = some raw := fix_text (vs := [v0]) rfl rfl (x16_0 _ n v0) rfl (by simp [LensOK, g16_0, PSh.ms]) h
theorem e21_0 (n : Nat) {v0 v1 : V} {raw : List (List V)} (h : F21_0 (Fix T) n v0 v1 = some (.ret raw)) : Fix T 21 0 [[v0], [v1]] = some raw := fix_text (vs := [v1, v0]) rfl rfl (x21_0 _ n v0 v1) rfl (by simp [LensOK, g21_0, PSh.ms]) h
theorem e15_0 (n : Nat) {raw : List (List V)} (h : F15_0 (Fix T) n = some (.ret raw)) : Fix T 15 0 [] = some raw := fix_text (vs := []) rfl rfl (x15_0 _ n) rfl (by simp [LensOK, g15_0, PSh.ms]) h
theorem e30_0 (n : Nat) {v0 v1 : V} {raw : List (List V)} (h : F30_0 (Fix T) n v0 v1 = some (.ret raw)) : Fix T 30 0 [[v0], [v1]] = some raw := fix_text (vs := [v1, v0]) rfl rfl (x30_0 _ n v0 v1) rfl (by simp [LensOK, g30_0, PSh.ms]) h
theorem e17_0 (n : Nat) {v0 v1 v2 v3 v4 v5 v6 v7 : V} {raw : List (List V)} (h : F17_0 (Fix T) n v0 v1 v2 v3 v4 v5 v6 v7 = some (.ret raw)) : Fix T 17 0 [[v0], [v1, v2, v3, v4, v5, v6, v7]] = some raw := fix_text (vs := [v7, v6, v5, v4, v3, v2, v1, v0]) rfl rfl (x17_0 _ n v0 v1 v2 v3 v4 v5 v6 v7) rfl (by simp [LensOK, g17_0, PSh.ms]) h
theorem e38_0 (n : Nat) {v0 : V} {raw : List (List V)} (h : F38_0 (Fix T) n v0 = some (.ret raw)) : Fix T 38 0 [[v0]] = some raw := fix_text (vs := [v0]) rfl rfl (x38_0 _ n v0) rfl (by simp [LensOK, g38_0, PSh.ms]) h
theorem e31_0 (n : Nat) {v0 v1 v2 v3 : V} {raw : List (List V)} (h : F31_0 (Fix T) n v0 v1 v2 v3 = some (.ret raw)) : Fix T 31 0 [[v0], [v1], [v2], [v3]] = some raw := fix_text (vs := [v3, v2, v1, v0]) rfl rfl (x31_0 _ n v0 v1 v2 v3) rfl (by simp [LensOK, g31_0, PSh.ms]) h
theorem e18_0 (n : Nat) {v0 v1 v2 v3 v4 v5 v6 v7 v8 : V} {raw : List (List V)} (h : F18_0 (Fix T) n v0 v1 v2 v3 v4 v5 v6 v7 v8 = some (.ret raw)) : Fix T 18 0 [[v0], [v1], [v2, v3, v4, v5, v6, v7, v8]] = some raw := fix_text (vs := [v8, v7, v6, v5, v4, v3, v2, v1, v0]) rfl rfl (x18_0 _ n v0 v1 v2 v3 v4 v5 v6 v7 v8) rfl (by simp [LensOK, g18_0, PSh.ms]) h
theorem e20_0 (n : Nat) {v0 v1 v2 v3 v4 v5 v6 v7 v8 : V} {raw : List (List V)} (h : F20_0 (Fix T) n v0 v1 v2 v3 v4 v5 v6 v7 v8 = some (.ret raw)) : Fix T 20 0 [[v0, v1], [v2, v3, v4, v5, v6, v7, v8]] = some raw := fix_text (vs := [v8, v7, v6, v5, v4, v3, v2, v1, v0]) rfl rfl (x20_0 _ n v0 v1 v2 v3 v4 v5 v6 v7 v8) rfl (by simp [LensOK, g20_0, PSh.ms]) h
theorem e19_0 (n : Nat) {v0 v1 v2 v3 v4 v5 v6 v7 v8 v9 v10 v11 v12 v13 : V} {raw : List (List V)} (h : F19_0 (Fix T) n v0 v1 v2 v3 v4 v5 v6 v7 v8 v9 v10 v11 v12 v13 = some (.ret raw)) : Fix T 19 0 [[v0, v1, v2, v3, v4, v5, v6], [v7, v8, v9, v10, v11, v12, v13]] = some raw := fix_text (vs := [v13, v12, v11, v10, v9, v8, v7, v6, v5, v4, v3, v2, v1, v0]) rfl rfl (x19_0 _ n v0 v1 v2 v3 v4 v5 v6 v7 v8 v9 v10 v11 v12 v13) rfl (by simp [LensOK, g19_0, PSh.ms]) h
theorem e3_0 (n : Nat) {v0 v1 : V} {raw : List (List V)} (h : F3_0 (Fix T) n v0 v1 = some (.ret raw)) : Fix T 3 0 [[v0], [v1]] = some raw := fix_text (vs := [v1, v0]) rfl rfl (x3_0 _ n v0 v1) rfl (by simp [LensOK, g3_0, PSh.ms]) h
theorem e4_0 (n : Nat) {v0 v1 : V} {raw : List (List V)} (h : F4_0 (Fix T) n v0 v1 = some (.ret raw)) : Fix T 4 0 [[v0], [v1]] = some raw := fix_text (vs := [v1, v0]) rfl rfl (x4_0 _ n v0 v1) rfl (by simp [LensOK, g4_0, PSh.ms]) h
theorem e5_0 (n : Nat) {v0 v1 v2 v3 : V} {raw : List (List V)} (h : F5_0 (Fix T) n v0 v1 v2 v3 = some (.ret raw)) : Fix T 5 0 [[v0], [v1], [v2], [v3]] = some raw := fix_text (vs := [v3, v2, v1, v0]) rfl rfl (x5_0 _ n v0 v1 v2 v3) rfl (by simp [LensOK, g5_0, PSh.ms]) h
noncomputable def ft : FT := [
  (32, 0, (fun (Φ : Funs) (n : Nat) (xss : List (List V)) => (match xss with | [[v0], [v1]] => F32_0 Φ n v0 v1 | _ => none : TR))),
  (22, 0, (fun (Φ : Funs) (n : Nat) (xss : List (List V)) => (match xss with | [[v0], [v1]] => F22_0 Φ n v0 v1 | _ => none : TR))),
  (22, 1, (fun (Φ : Funs) (n : Nat) (xss : List (List V)) => (match xss with | [[], [v0]] => F22_1 Φ n v0 | _ => none : TR))),
  (23, 0, (fun (Φ : Funs) (n : Nat) (xss : List (List V)) => (match xss with | [[v0], [v1]] => F23_0 Φ n v0 v1 | _ => none : TR))),
  (23, 1, (fun (Φ : Funs) (n : Nat) (xss : List (List V)) => (match xss with | [[], [v0]] => F23_1 Φ n v0 | _ => none : TR))),
  (7, 0, (fun (Φ : Funs) (n : Nat) (xss : List (List V)) => (match xss with | [[v0], [v1]] => F7_0 Φ n v0 v1 | _ => none : TR))),
  (7, 1, (fun (Φ : Funs) (n : Nat) (xss : List (List V)) => (match xss with | [[], [v0]] => F7_1 Φ n v0 | _ => none : TR))),
  (6, 0, (fun (Φ : Funs) (n : Nat) (xss : List (List V)) => (match xss with | [[v0], [v1, v2, v3, v4, v5, v6, v7]] => F6_0 Φ n v0 v1 v2 v3 v4 v5 v6 v7 | _ => none : TR))),
  (6, 1, (fun (Φ : Funs) (n : Nat) (xss : List (List V)) => (match xss with | [[], [v0, v1, v2, v3, v4, v5, v6]] => F6_1 Φ n v0 v1 v2 v3 v4 v5 v6 | _ => none : TR))),
  (8, 0, (fun (Φ : Funs) (n : Nat) (xss : List (List V)) => (match xss with | [[v0]] => F8_0 Φ n v0 | _ => none : TR))),
  (8, 1, (fun (Φ : Funs) (n : Nat) (xss : List (List V)) => (match xss with | [[]] => F8_1 Φ n  | _ => none : TR))),
  (25, 0, (fun (Φ : Funs) (n : Nat) (xss : List (List V)) => (match xss with | [[v0, v1]] => F25_0 Φ n v0 v1 | _ => none : TR))),
  (25, 1, (fun (Φ : Funs) (n : Nat) (xss : List (List V)) => (match xss with | [[]] => F25_1 Φ n  | _ => none : TR))),
  (33, 0, (fun (Φ : Funs) (n : Nat) (xss : List (List V)) => (match xss with | [[v0], [v1]] => F33_0 Φ n v0 v1 | _ => none : TR))),
  (26, 0, (fun (Φ : Funs) (n : Nat) (xss : List (List V)) => (match xss with | [[v0]] => F26_0 Φ n v0 | _ => none : TR))),
  (27, 0, (fun (Φ : Funs) (n : Nat) (xss : List (List V)) => (match xss with | [[v0, v1]] => F27_0 Φ n v0 v1 | _ => none : TR))),
  (27, 1, (fun (Φ : Funs) (n : Nat) (xss : List (List V)) => (match xss with | [[]] => F27_1 Φ n  | _ => none : TR))),
  (9, 0, (fun (Φ : Funs) (n : Nat) (xss : List (List V)) => (match xss with | [[v0, v1], [v2], [v3]] => F9_0 Φ n v0 v1 v2 v3 | _ => none : TR))),
  (9, 1, (fun (Φ : Funs) (n : Nat) (xss : List (List V)) => (match xss with | [[], [v0], [v1]] => F9_1 Φ n v0 v1 | _ => none : TR))),
  (28, 0, (fun (Φ : Funs) (n : Nat) (xss : List (List V)) => (match xss with | [[v0, v1], [v2]] => F28_0 Φ n v0 v1 v2 | _ => none : TR))),
  (28, 1, (fun (Φ : Funs) (n : Nat) (xss : List (List V)) => (match xss with | [[], [v0]] => F28_1 Φ n v0 | _ => none : TR))),
  (10, 0, (fun (Φ : Funs) (n : Nat) (xss : List (List V)) => (match xss with | [[v0, v1], [v2], [v3], [v4]] => F10_0 Φ n v0 v1 v2 v3 v4 | _ => none : TR))),
  (10, 1, (fun (Φ : Funs) (n : Nat) (xss : List (List V)) => (match xss with | [[], [v0], [v1], [v2]] => F10_1 Φ n v0 v1 v2 | _ => none : TR))),
  (11, 0, (fun (Φ : Funs) (n : Nat) (xss : List (List V)) => (match xss with | [[v0, v1], [v2]] => F11_0 Φ n v0 v1 v2 | _ => none : TR))),
  (11, 1, (fun (Φ : Funs) (n : Nat) (xss : List (List V)) => (match xss with | [[], [v0]] => F11_1 Φ n v0 | _ => none : TR))),
  (13, 0, (fun (Φ : Funs) (n : Nat) (xss : List (List V)) => (match xss with | [[v0, v1]] => F13_0 Φ n v0 v1 | _ => none : TR))),
  (13, 1, (fun (Φ : Funs) (n : Nat) (xss : List (List V)) => (match xss with | [[]] => F13_1 Φ n  | _ => none : TR))),
  (14, 0, (fun (Φ : Funs) (n : Nat) (xss : List (List V)) => (match xss with | [[v0]] => F14_0 Φ n v0 | _ => none : TR))),
  (16, 0, (fun (Φ : Funs) (n : Nat) (xss : List (List V)) => (match xss with | [[v0]] => F16_0 Φ n v0 | _ => none : TR))),
  (21, 0, (fun (Φ : Funs) (n : Nat) (xss : List (List V)) => (match xss with | [[v0], [v1]] => F21_0 Φ n v0 v1 | _ => none : TR))),
  (15, 0, (fun (Φ : Funs) (n : Nat) (xss : List (List V)) => (match xss with | [] => F15_0 Φ n  | _ => none : TR))),
  (30, 0, (fun (Φ : Funs) (n : Nat) (xss : List (List V)) => (match xss with | [[v0], [v1]] => F30_0 Φ n v0 v1 | _ => none : TR))),
  (17, 0, (fun (Φ : Funs) (n : Nat) (xss : List (List V)) => (match xss with | [[v0], [v1, v2, v3, v4, v5, v6, v7]] => F17_0 Φ n v0 v1 v2 v3 v4 v5 v6 v7 | _ => none : TR))),
  (38, 0, (fun (Φ : Funs) (n : Nat) (xss : List (List V)) => (match xss with | [[v0]] => F38_0 Φ n v0 | _ => none : TR))),
  (31, 0, (fun (Φ : Funs) (n : Nat) (xss : List (List V)) => (match xss with | [[v0], [v1], [v2], [v3]] => F31_0 Φ n v0 v1 v2 v3 | _ => none : TR))),
  (18, 0, (fun (Φ : Funs) (n : Nat) (xss : List (List V)) => (match xss with | [[v0], [v1], [v2, v3, v4, v5, v6, v7, v8]] => F18_0 Φ n v0 v1 v2 v3 v4 v5 v6 v7 v8 | _ => none : TR))),
  (20, 0, (fun (Φ : Funs) (n : Nat) (xss : List (List V)) => (match xss with | [[v0, v1], [v2, v3, v4, v5, v6, v7, v8]] => F20_0 Φ n v0 v1 v2 v3 v4 v5 v6 v7 v8 | _ => none : TR))),
  (19, 0, (fun (Φ : Funs) (n : Nat) (xss : List (List V)) => (match xss with | [[v0, v1, v2, v3, v4, v5, v6], [v7, v8, v9, v10, v11, v12, v13]] => F19_0 Φ n v0 v1 v2 v3 v4 v5 v6 v7 v8 v9 v10 v11 v12 v13 | _ => none : TR))),
  (3, 0, (fun (Φ : Funs) (n : Nat) (xss : List (List V)) => (match xss with | [[v0], [v1]] => F3_0 Φ n v0 v1 | _ => none : TR))),
  (4, 0, (fun (Φ : Funs) (n : Nat) (xss : List (List V)) => (match xss with | [[v0], [v1]] => F4_0 Φ n v0 v1 | _ => none : TR))),
  (5, 0, (fun (Φ : Funs) (n : Nat) (xss : List (List V)) => (match xss with | [[v0], [v1], [v2], [v3]] => F5_0 Φ n v0 v1 v2 v3 | _ => none : TR)))]
theorem closed {f k : Nat} {xss raw : List (List V)} (n : Nat) (h : evT T.gv ft n f k xss = some raw) : Fix T f k xss = some raw := by
  refine evT_ok (ft := ft) (fun f k F hF Φ n xss raw hl hr hg => ?_) n f k xss raw h
  have hF := lkF_mem hF
  simp only [ft, List.mem_cons, List.not_mem_nil, or_false, Prod.mk.injEq] at hF
  rcases hF with ⟨rfl, rfl, rfl⟩ | ⟨rfl, rfl, rfl⟩ | ⟨rfl, rfl, rfl⟩ | ⟨rfl, rfl, rfl⟩ | ⟨rfl, rfl, rfl⟩ | ⟨rfl, rfl, rfl⟩ | ⟨rfl, rfl, rfl⟩ | ⟨rfl, rfl, rfl⟩ | ⟨rfl, rfl, rfl⟩ | ⟨rfl, rfl, rfl⟩ | ⟨rfl, rfl, rfl⟩ | ⟨rfl, rfl, rfl⟩ | ⟨rfl, rfl, rfl⟩ | ⟨rfl, rfl, rfl⟩ | ⟨rfl, rfl, rfl⟩ | ⟨rfl, rfl, rfl⟩ | ⟨rfl, rfl, rfl⟩ | ⟨rfl, rfl, rfl⟩ | ⟨rfl, rfl, rfl⟩ | ⟨rfl, rfl, rfl⟩ | ⟨rfl, rfl, rfl⟩ | ⟨rfl, rfl, rfl⟩ | ⟨rfl, rfl, rfl⟩ | ⟨rfl, rfl, rfl⟩ | ⟨rfl, rfl, rfl⟩ | ⟨rfl, rfl, rfl⟩ | ⟨rfl, rfl, rfl⟩ | ⟨rfl, rfl, rfl⟩ | ⟨rfl, rfl, rfl⟩ | ⟨rfl, rfl, rfl⟩ | ⟨rfl, rfl, rfl⟩ | ⟨rfl, rfl, rfl⟩ | ⟨rfl, rfl, rfl⟩ | ⟨rfl, rfl, rfl⟩ | ⟨rfl, rfl, rfl⟩ | ⟨rfl, rfl, rfl⟩ | ⟨rfl, rfl, rfl⟩ | ⟨rfl, rfl, rfl⟩ | ⟨rfl, rfl, rfl⟩ | ⟨rfl, rfl, rfl⟩ | ⟨rfl, rfl, rfl⟩
  · simp only at hr; split at hr
    · exact e32_0 n (text_mono hl (x32_0 Φ n _ _) (x32_0 _ n _ _) _ hr)
    · cases hr
  · simp only at hr; split at hr
    · exact e22_0 n (text_mono hl (x22_0 Φ n _ _) (x22_0 _ n _ _) _ hr)
    · cases hr
  · simp only at hr; split at hr
    · exact e22_1 n (text_mono hl (x22_1 Φ n _) (x22_1 _ n _) _ hr)
    · cases hr
  · simp only at hr; split at hr
    · exact e23_0 n (text_mono hl (x23_0 Φ n _ _) (x23_0 _ n _ _) _ hr)
    · cases hr
  · simp only at hr; split at hr
    · exact e23_1 n (text_mono hl (x23_1 Φ n _) (x23_1 _ n _) _ hr)
    · cases hr
  · simp only at hr; split at hr
    · exact e7_0 n (text_mono hl (x7_0 Φ n _ _) (x7_0 _ n _ _) _ hr)
    · cases hr
  · simp only at hr; split at hr
    · exact e7_1 n (text_mono hl (x7_1 Φ n _) (x7_1 _ n _) _ hr)
    · cases hr
  · simp only at hr; split at hr
    · exact e6_0 n (text_mono hl (x6_0 Φ n _ _ _ _ _ _ _ _) (x6_0 _ n _ _ _ _ _ _ _ _) _ hr)
    · cases hr
  · simp only at hr; split at hr
    · exact e6_1 n (text_mono hl (x6_1 Φ n _ _ _ _ _ _ _) (x6_1 _ n _ _ _ _ _ _ _) _ hr)
    · cases hr
  · simp only at hr; split at hr
    · exact e8_0 n (text_mono hl (x8_0 Φ n _) (x8_0 _ n _) _ hr)
    · cases hr
  · simp only at hr; split at hr
    · exact e8_1 n (text_mono hl (x8_1 Φ n) (x8_1 _ n) _ hr)
    · cases hr
  · simp only at hr; split at hr
    · exact e25_0 n (text_mono hl (x25_0 Φ n _ _) (x25_0 _ n _ _) _ hr)
    · cases hr
  · simp only at hr; split at hr
    · exact e25_1 n (text_mono hl (x25_1 Φ n) (x25_1 _ n) _ hr)
    · cases hr
  · simp only at hr; split at hr
    · exact e33_0 n (text_mono hl (x33_0 Φ n _ _) (x33_0 _ n _ _) _ hr)
    · cases hr
  · simp only at hr; split at hr
    · exact e26_0 n (text_mono hl (x26_0 Φ n _) (x26_0 _ n _) _ hr)
    · cases hr
  · simp only at hr; split at hr
    · exact e27_0 n (text_mono hl (x27_0 Φ n _ _) (x27_0 _ n _ _) _ hr)
    · cases hr
  · simp only at hr; split at hr
    · exact e27_1 n (text_mono hl (x27_1 Φ n) (x27_1 _ n) _ hr)
    · cases hr
  · simp only at hr; split at hr
    · exact e9_0 n (text_mono hl (x9_0 Φ n _ _ _ _) (x9_0 _ n _ _ _ _) _ hr)
    · cases hr
  · simp only at hr; split at hr
    · exact e9_1 n (text_mono hl (x9_1 Φ n _ _) (x9_1 _ n _ _) _ hr)
    · cases hr
  · simp only at hr; split at hr
    · exact e28_0 n (text_mono hl (x28_0 Φ n _ _ _) (x28_0 _ n _ _ _) _ hr)
    · cases hr
  · simp only at hr; split at hr
    · exact e28_1 n (text_mono hl (x28_1 Φ n _) (x28_1 _ n _) _ hr)
    · cases hr
  · simp only at hr; split at hr
    · exact e10_0 n (text_mono hl (x10_0 Φ n _ _ _ _ _) (x10_0 _ n _ _ _ _ _) _ hr)
    · cases hr
  · simp only at hr; split at hr
    · exact e10_1 n (text_mono hl (x10_1 Φ n _ _ _) (x10_1 _ n _ _ _) _ hr)
    · cases hr
  · simp only at hr; split at hr
    · exact e11_0 n (text_mono hl (x11_0 Φ n _ _ _) (x11_0 _ n _ _ _) _ hr)
    · cases hr
  · simp only at hr; split at hr
    · exact e11_1 n (text_mono hl (x11_1 Φ n _) (x11_1 _ n _) _ hr)
    · cases hr
  · simp only at hr; split at hr
    · exact e13_0 n (text_mono hl (x13_0 Φ n _ _) (x13_0 _ n _ _) _ hr)
    · cases hr
  · simp only at hr; split at hr
    · exact e13_1 n (text_mono hl (x13_1 Φ n) (x13_1 _ n) _ hr)
    · cases hr
  · simp only at hr; split at hr
    · exact e14_0 n (text_mono hl (x14_0 Φ n _) (x14_0 _ n _) _ hr)
    · cases hr
  · simp only at hr; split at hr
    · exact e16_0 n (text_mono hl (x16_0 Φ n _) (x16_0 _ n _) _ hr)
    · cases hr
  · simp only at hr; split at hr
    · exact e21_0 n (text_mono hl (x21_0 Φ n _ _) (x21_0 _ n _ _) _ hr)
    · cases hr
  · simp only at hr; split at hr
    · exact e15_0 n (text_mono hl (x15_0 Φ n) (x15_0 _ n) _ hr)
    · cases hr
  · simp only at hr; split at hr
    · exact e30_0 n (text_mono hl (x30_0 Φ n _ _) (x30_0 _ n _ _) _ hr)
    · cases hr
  · simp only at hr; split at hr
    · exact e17_0 n (text_mono hl (x17_0 Φ n _ _ _ _ _ _ _ _) (x17_0 _ n _ _ _ _ _ _ _ _) _ hr)
    · cases hr
  · simp only at hr; split at hr
    · exact e38_0 n (text_mono hl (x38_0 Φ n _) (x38_0 _ n _) _ hr)
    · cases hr
  · simp only at hr; split at hr
    · exact e31_0 n (text_mono hl (x31_0 Φ n _ _ _ _) (x31_0 _ n _ _ _ _) _ hr)
    · cases hr
  · simp only at hr; split at hr
    · exact e18_0 n (text_mono hl (x18_0 Φ n _ _ _ _ _ _ _ _ _) (x18_0 _ n _ _ _ _ _ _ _ _ _) _ hr)
    · cases hr
  · simp only at hr; split at hr
    · exact e20_0 n (text_mono hl (x20_0 Φ n _ _ _ _ _ _ _ _ _) (x20_0 _ n _ _ _ _ _ _ _ _ _) _ hr)
    · cases hr
  · simp only at hr; split at hr
    · exact e19_0 n (text_mono hl (x19_0 Φ n _ _ _ _ _ _ _ _ _ _ _ _ _ _) (x19_0 _ n _ _ _ _ _ _ _ _ _ _ _ _ _ _) _ hr)
    · cases hr
  · simp only at hr; split at hr
    · exact e3_0 n (text_mono hl (x3_0 Φ n _ _) (x3_0 _ n _ _) _ hr)
    · cases hr
  · simp only at hr; split at hr
    · exact e4_0 n (text_mono hl (x4_0 Φ n _ _) (x4_0 _ n _ _) _ hr)
    · cases hr
  · simp only at hr; split at hr
    · exact e5_0 n (text_mono hl (x5_0 Φ n _ _ _ _) (x5_0 _ n _ _ _ _) _ hr)
    · cases hr
end Go.Proofs.YtogfkdpgkloljaaDoorVs
namespace Go.Proofs.YtogfkdpgkloljaaDoorVs
theorem sure_holds : Fix T 15 0 [] = some [[.bool true]] := closed 60 (by kernel_rfl)
end Go.Proofs.YtogfkdpgkloljaaDoorVs
