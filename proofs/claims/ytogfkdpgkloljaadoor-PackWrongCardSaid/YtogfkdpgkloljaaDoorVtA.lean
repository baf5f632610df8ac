/-
  Instructions behind guards: what they touch, which of them may change places. Conditions: each lemma's own premises.
-/
import Derived.Test.YtogfkdpgkloljaaDoorVsZ
set_option linter.unusedVariables false
set_option linter.unusedSimpArgs false
namespace Go.Proofs.YtogfkdpgkloljaaDoorVs
def VArg.pl : VArg → List Nat
  | .c i => [i]
  | .lit _ => []
def VI.rds (i : VI) : List Nat := (i.rd.map VArg.pl).flatten ++ (i.chk.map (·.1) ++ (i.asr.map (·.1) ++ i.dfn.map (·.1)))
def VG.wrs (g : VG) : List Nat := (match g.d with | some d => [sC d] | none => []) ++ (g.is.map (·.wr)).flatten
def VG.tch (g : VG) : List Nat := (match g.gd with | some (c, _) => [c] | none => []) ++ ((g.is.map VI.rds).flatten ++ g.wrs)
section
variable {Φ : Funs}
def agree (l : List Nat) (ν μ : Env) : Prop := ∀ c ∈ l, μ c = ν c
theorem VI.run_frame {i : VI} {ν ν' : Env} (h : i.run Φ ν = some ν') : ∀ c, c ∉ i.wr → ν' c = ν c := by
  obtain ⟨_, _, outs, _, _, rfl⟩ := VI.inv h
  intro c hc
  exact upds_else _ _ _ _ hc
theorem upds_agree : ∀ (cs : List Nat) (xss : List (List V)) (ν μ : Env), cs.length = xss.length → ∀ c, (c ∈ cs ∨ μ c = ν c) → μ.upds cs xss c = ν.upds cs xss c
  | [], [], ν, μ, _, c, h => by
    rcases h with h | h
    · simp at h
    · exact h
  | [], _ :: _, ν, μ, h, _, _ => by simp at h
  | _ :: _, [], ν, μ, h, _, _ => by simp at h
  | d :: cs, x :: xss, ν, μ, hl, c, h => by
    simp only [Env.upds]
    refine upds_agree cs xss _ _ (by simpa using hl) c ?_
    by_cases hd : c = d
    · subst hd; right; rw [upd_same, upd_same]
    · rcases h with h | h
      · rcases List.mem_cons.1 h with h | h
        · exact absurd h hd
        · exact .inl h
      · right; rw [upd_ne hd, upd_ne hd]; exact h
theorem VI.run_agree {i : VI} {ν ν' μ : Env} (h : i.run Φ ν = some ν') (ha : agree i.rds ν μ) : ∃ μ', i.run Φ μ = some μ' ∧ ∀ c, (c ∈ i.wr ∨ μ c = ν c) → μ' c = ν' c := by
  have e1 : i.rd.map (VArg.get μ) = i.rd.map (VArg.get ν) := by
    refine List.map_congr_left fun x hx => ?_
    cases x with
    | lit vs => rfl
    | c k => exact ha k (by simp only [VI.rds, List.mem_append]; exact .inl (List.mem_flatten.2 ⟨_, List.mem_map.2 ⟨_, hx, rfl⟩, by simp [VArg.pl]⟩))
  have e2 : i.chk.all (unitAt μ) = i.chk.all (unitAt ν) := by
    rw [Bool.eq_iff_iff, List.all_eq_true, List.all_eq_true]
    have : ∀ p ∈ i.chk, unitAt μ p = unitAt ν p := fun p hp => by
      simp only [unitAt]
      rw [ha p.1 (by simp only [VI.rds, List.mem_append]; exact .inr (.inl (List.mem_map.2 ⟨p, hp, rfl⟩)))]
    exact ⟨fun h p hp => by rw [← this p hp]; exact h p hp, fun h p hp => by rw [this p hp]; exact h p hp⟩
  have e3 : i.asr.all (trueAt μ) = i.asr.all (trueAt ν) := by
    rw [Bool.eq_iff_iff, List.all_eq_true, List.all_eq_true]
    have : ∀ p ∈ i.asr, trueAt μ p = trueAt ν p := fun p hp => by
      simp only [trueAt]
      rw [ha p.1 (by simp only [VI.rds, List.mem_append]; exact .inr (.inr (.inl (List.mem_map.2 ⟨p, hp, rfl⟩))))]
    exact ⟨fun h p hp => by rw [← this p hp]; exact h p hp, fun h p hp => by rw [this p hp]; exact h p hp⟩
  have e4 : i.dfn.all (defAt μ) = i.dfn.all (defAt ν) := by
    rw [Bool.eq_iff_iff, List.all_eq_true, List.all_eq_true]
    have : ∀ p ∈ i.dfn, defAt μ p = defAt ν p := fun p hp => by
      simp only [defAt]
      rw [ha p.1 (by simp only [VI.rds, List.mem_append]; exact .inr (.inr (.inr (List.mem_map.2 ⟨p, hp, rfl⟩))))]
    exact ⟨fun h p hp => by rw [← this p hp]; exact h p hp, fun h p hp => by rw [this p hp]; exact h p hp⟩
  unfold VI.run at h ⊢
  rw [e1, e2, e3, e4]
  split at h
  · rename_i hc
    rw [if_pos hc]
    simp only [Option.bind_eq_some_iff] at h ⊢
    obtain ⟨outs, h1, h2⟩ := h
    split at h2
    · rename_i hl
      cases h2
      refine ⟨_, ⟨outs, h1, by rw [if_pos hl]⟩, fun c hcc => ?_⟩
      exact upds_agree _ _ _ _ hl.symm c hcc
    · cases h2
  · cases h
theorem runIs_frame : ∀ {is : List VI} {ν ν' : Env}, runIs Φ is ν = some ν' → ∀ c, c ∉ (is.map (·.wr)).flatten → ν' c = ν c
  | [], ν, ν', h, c, _ => by cases h; rfl
  | i :: is, ν, ν', h, c, hc => by
    simp only [runIs, Option.bind_eq_some_iff] at h
    obtain ⟨ν1, h1, h2⟩ := h
    simp only [List.map_cons, List.flatten_cons, List.mem_append, not_or] at hc
    rw [runIs_frame h2 c hc.2, VI.run_frame h1 c hc.1]
theorem runIs_agree : ∀ {is : List VI} {ν ν' μ : Env}, runIs Φ is ν = some ν' → agree (is.map VI.rds).flatten ν μ → ∃ μ', runIs Φ is μ = some μ' ∧ ∀ c, (c ∈ (is.map (·.wr)).flatten ∨ μ c = ν c) → μ' c = ν' c
  | [], ν, ν', μ, h, ha => by
    cases h
    exact ⟨μ, rfl, fun c hc => hc.elim (by simp) id⟩
  | i :: is, ν, ν', μ, h, ha => by
    simp only [runIs, Option.bind_eq_some_iff] at h
    obtain ⟨ν1, h1, h2⟩ := h
    simp only [List.map_cons, List.flatten_cons] at ha
    obtain ⟨μ1, h3, h4⟩ := VI.run_agree h1 (fun c hc => ha c (List.mem_append_left _ hc))
    obtain ⟨μ2, h5, h6⟩ := runIs_agree h2 (μ := μ1) (fun c hc => h4 c (.inr (ha c (List.mem_append_right _ hc))))
    refine ⟨μ2, by simp only [runIs, h3, Option.bind_some, h5], fun c hc => h6 c ?_⟩
    simp only [List.map_cons, List.flatten_cons, List.mem_append] at hc
    rcases hc with (hc | hc) | hc
    · exact .inr (h4 c (.inl hc))
    · exact .inl hc
    · exact .inr (h4 c (.inr hc))
theorem undef_frame {ν : Env} {d : Option Nat} {c : Nat} (h : c ∉ (match d with | some d => [sC d] | none => [])) : ν.undef d c = ν c := by
  cases d with
  | none => rfl
  | some d => simp only [List.mem_singleton] at h; exact upd_ne h
theorem undef_agree {ν μ : Env} {d : Option Nat} {c : Nat} (h : c ∈ (match d with | some d => [sC d] | none => []) ∨ μ c = ν c) : μ.undef d c = ν.undef d c := by
  cases d with
  | none => exact h.elim (by simp) id
  | some d =>
    simp only [Env.undef]
    by_cases hd : c = sC d
    · subst hd; rw [upd_same, upd_same]
    · rw [upd_ne hd, upd_ne hd]
      exact h.elim (fun h => absurd (List.mem_singleton.1 h) hd) id
theorem VG.run_frame {g : VG} {ν ν' : Env} (h : g.run Φ ν = some ν') : ∀ c, c ∉ g.wrs → ν' c = ν c := by
  intro c hc
  simp only [VG.wrs, List.mem_append, not_or] at hc
  unfold VG.run at h
  split at h
  · exact runIs_frame h c hc.2
  · split at h
    · split at h
      · simp only [Option.bind_eq_some_iff] at h
        obtain ⟨ν1, h1, h2⟩ := h
        split at h2
        · cases h2; exact runIs_frame h1 c hc.2
        · cases h2
      · cases h; exact undef_frame hc.1
    · split at h
      · cases h; exact undef_frame hc.1
      · cases h
    · cases h
theorem VG.run_agree {g : VG} {ν ν' μ : Env} (h : g.run Φ ν = some ν') (ha : agree g.tch ν μ) : ∃ μ', g.run Φ μ = some μ' ∧ ∀ c, (c ∈ g.wrs ∨ μ c = ν c) → μ' c = ν' c := by
  have ha1 : agree (g.is.map VI.rds).flatten ν μ := fun c hc => ha c (by simp only [VG.tch, List.mem_append]; exact .inr (.inl hc))
  have ha2 : agree g.wrs ν μ := fun c hc => ha c (by simp only [VG.tch, List.mem_append]; exact .inr (.inr hc))
  unfold VG.run at h ⊢
  cases hg : g.gd with
  | none =>
    simp only [hg] at h ⊢
    obtain ⟨μ', h1, h2⟩ := runIs_agree h ha1
    refine ⟨μ', h1, fun c hc => h2 c ?_⟩
    rcases hc with hc | hc
    · exact .inr (ha2 c hc)
    · exact .inr hc
  | some p =>
    obtain ⟨k, want⟩ := p
    have hk : μ k = ν k := ha k (by simp [VG.tch, hg])
    simp only [hg, hk] at h ⊢
    split at h
    · rename_i b hb
      split at h
      · rename_i hbw
        simp only [if_pos hbw, Option.bind_eq_some_iff] at h ⊢
        obtain ⟨ν1, h1, h2⟩ := h
        obtain ⟨μ1, h3, h4⟩ := runIs_agree h1 ha1
        split at h2
        · rename_i hd
          cases h2
          refine ⟨μ1, ⟨μ1, h3, ?_⟩, fun c hc => h4 c ?_⟩
          · have : μ1.defd g.d = ν'.defd g.d := by
              cases hdd : g.d with
              | none => rfl
              | some d =>
                simp only [Env.defd]
                rw [h4 (sC d) (.inr (ha2 _ (by simp [VG.wrs, hdd])))]
            rw [this, if_pos hd]
          · rcases hc with hc | hc
            · exact .inr (ha2 c hc)
            · exact .inr hc
        · cases h2
      · rename_i hbw
        cases h
        simp only [if_neg hbw]
        refine ⟨_, rfl, fun c hc => undef_agree ?_⟩
        rcases hc with hc | hc
        · exact .inr (ha2 c hc)
        · exact .inr hc
    · split at h
      · rename_i hu
        cases h
        refine ⟨_, by rw [if_pos hu], fun c hc => undef_agree ?_⟩
        rcases hc with hc | hc
        · exact .inr (ha2 c hc)
        · exact .inr hc
      · cases h
    · cases h
def disj (l m : List Nat) : Bool := l.all fun c => !m.contains c
theorem disj_ok {l m : List Nat} (h : disj l m = true) {c : Nat} (hc : c ∈ l) : c ∉ m := by
  have := List.all_eq_true.1 h c hc
  simp only [Bool.not_eq_true'] at this
  exact not_mem_of this
def VG.comm (x y : VG) : Bool := disj x.wrs y.tch && disj y.wrs x.tch
theorem VG.swap {x y : VG} (hc : x.comm y = true) {ν ν1 ν2 : Env} (h1 : x.run Φ ν = some ν1) (h2 : y.run Φ ν1 = some ν2) : ∃ ν1', y.run Φ ν = some ν1' ∧ x.run Φ ν1' = some ν2 := by
  simp only [VG.comm, Bool.and_eq_true] at hc
  obtain ⟨c1, c2⟩ := hc
  obtain ⟨μ, h3, h4⟩ := VG.run_agree h2 (μ := ν) (fun c hcc => (VG.run_frame h1 c (fun hm => disj_ok c1 hm hcc)).symm)
  have h5 := VG.run_frame h3
  obtain ⟨μ2, h6, h7⟩ := VG.run_agree h1 (μ := μ) (fun c hcc => h5 c (fun hm => disj_ok c2 hm hcc))
  refine ⟨μ, h3, ?_⟩
  have : μ2 = ν2 := by
    funext c
    by_cases hx : c ∈ x.wrs
    · have hy : c ∉ y.wrs := fun hm => disj_ok c1 hx (by simp only [VG.tch, List.mem_append]; exact .inr (.inr hm))
      rw [h7 c (.inl hx), VG.run_frame h2 c hy]
    · by_cases hy : c ∈ y.wrs
      · rw [VG.run_frame h6 c hx, h4 c (.inl hy)]
      · rw [VG.run_frame h6 c hx, VG.run_frame h3 c hy, VG.run_frame h2 c hy, VG.run_frame h1 c hx]
  rw [← this]; exact h6
theorem runGs_take {x : VG} : ∀ {pre : List VG} {post : List VG} {ν νe : Env}, pre.all (fun y => y.comm x) = true → runGs Φ (pre ++ x :: post) ν = some νe → ∃ ν1, x.run Φ ν = some ν1 ∧ runGs Φ (pre ++ post) ν1 = some νe
  | [], post, ν, νe, _, h => by
    simp only [List.nil_append, runGs, Option.bind_eq_some_iff] at h
    exact h
  | y :: pre, post, ν, νe, hc, h => by
    simp only [List.all_cons, Bool.and_eq_true] at hc
    simp only [List.cons_append, runGs, Option.bind_eq_some_iff] at h
    obtain ⟨ν1, h1, h2⟩ := h
    obtain ⟨ν2, h3, h4⟩ := runGs_take hc.2 h2
    obtain ⟨ν3, h5, h6⟩ := VG.swap hc.1 h1 h3
    exact ⟨ν3, h5, by simp only [List.cons_append, runGs, h6, Option.bind_some, h4]⟩
end
end Go.Proofs.YtogfkdpgkloljaaDoorVs
