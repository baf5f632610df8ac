/-
  What a function's text answers, the function answers: guards, regions, code. Conditions: each lemma's own premises.
-/
import Derived.Test.YtogfkdpgkloljaaDoorVtM
set_option linter.unusedVariables false
set_option linter.unusedSimpArgs false
namespace Go.Proofs.YtogfkdpgkloljaaDoorVs
section
variable {Φ : Funs} {n : Nat} {ν ν' : Env} {s s' : St} {vs : List V} {t : Tm} {o : TO}
def GrpOK (c : Nat) : List VG → Prop
  | [] => True
  | [_] => True
  | g :: g' :: r => c ∉ wrG g ∧ GrpOK c (g' :: r)
theorem GrpOK.cons {c : Nat} {g : VG} {r : List VG} (h : c ∉ wrG g) (hr : GrpOK c r) : GrpOK c (g :: r) := by
  cases r with
  | nil => trivial
  | cons g' r => exact ⟨h, hr⟩
theorem spanG_ok (c : Nat) (want ud : Bool) : ∀ (l : List VG), l = (spanG c want ud l).1 ++ (spanG c want ud l).2 ∧ (∀ g ∈ (spanG c want ud l).1, g.gd = some (c, want) ∧ g.ud = ud) ∧ GrpOK c (spanG c want ud l).1
  | [] => ⟨rfl, by simp [spanG], trivial⟩
  | g :: r => by
    have hsame : sameGd c want ud g = true → g.gd = some (c, want) ∧ g.ud = ud := fun h => by
      simp only [sameGd, Bool.and_eq_true, beq_iff_eq] at h
      obtain ⟨h1, h2⟩ := h
      split at h2
      · rename_i c' w' hg
        simp only [Bool.and_eq_true, beq_iff_eq] at h2
        obtain ⟨rfl, rfl⟩ := h2
        exact ⟨hg, h1⟩
      · cases h2
    simp only [spanG]
    split
    · rename_i h1
      split
      · rename_i h2
        exact ⟨rfl, fun g' hg' => by rw [List.mem_singleton.1 hg']; exact hsame h1, trivial⟩
      · rename_i h2
        obtain ⟨h3, h4, h5⟩ := spanG_ok c want ud r
        refine ⟨by simp only [List.cons_append, ← h3], fun g' hg' => ?_, GrpOK.cons (fun hm => h2 (List.contains_iff_mem.2 hm)) h5⟩
        rcases List.mem_cons.1 hg' with rfl | hg'
        · exact hsame h1
        · exact h4 g' hg'
    · exact ⟨rfl, by simp, trivial⟩
theorem wrG_sub {g : VG} {p : Nat} (h : p ∉ wrG g) : p ∉ wrIs g.is := fun hm => h (List.mem_append_left _ hm)
theorem frame_is {is : List VI} (h : runIs Φ is ν = some ν') : ∀ p, p ∉ wrIs is → ν' p = ν p := fun p hp => runIs_frame h p hp
theorem syGrp_ok {c : Nat} {want : Bool} : ∀ {gs : List VG} {s s' : St} {ν : Env} {vs : List V} {es : List Em}, syGrp gs s = some (es, s') → (∀ g ∈ gs, g.gd = some (c, want)) → GrpOK c gs → ν c = [.bool want] → RelS ν s vs → (emT es s.d t).eval Φ n vs = some o →
    ∃ (ν' : Env) (zs : List V), runGs Φ gs ν = some ν' ∧ RelS ν' s' (zs.reverse ++ vs) ∧ t.eval Φ n (zs.reverse ++ vs) = some o ∧ emD es s.d = s'.d ∧ ∀ p, p ∉ (gs.map wrG).flatten → ν' p = ν p
  | [], s, s', ν, vs, es, h, _, _, _, R, he => by
    simp only [syGrp, Option.some.injEq, Prod.mk.injEq] at h
    obtain ⟨rfl, rfl⟩ := h
    exact ⟨ν, [], rfl, R, he, rfl, fun _ _ => rfl⟩
  | g :: gs, s, s', ν, vs, es, h, hgd, hok, hc, R, he => by
    simp only [syGrp, Option.bind_eq_some_iff] at h
    obtain ⟨⟨e1, s1⟩, h1, h⟩ := h
    have key : ∀ {q' : List Em × St}, syGrp gs s1 = some q' → (es = e1 ++ (defE s1 g.d ++ q'.1) ∧ s' = q'.2) → (∀ d, g.d = some d → (lkS s1.σ (sC d)).isSome) →
        ∃ (ν' : Env) (zs : List V), runGs Φ (g :: gs) ν = some ν' ∧ RelS ν' s' (zs.reverse ++ vs) ∧ t.eval Φ n (zs.reverse ++ vs) = some o ∧ emD es s.d = s'.d ∧ ∀ p, p ∉ ((g :: gs).map wrG).flatten → ν' p = ν p := by
      rintro ⟨e2, s2⟩ h2 ⟨rfl, rfl⟩ hlk
      simp only at he ⊢
      rw [emT_append] at he
      obtain ⟨ν1, z1, h3, R1, he1, hd1⟩ := syIs_ok h1 R he
      rw [hd1, emT_append] at he1
      -- the value is told
      have hdef : ν1.defd g.d = true ∧ (emT e2 s1.d t).eval Φ n (z1.reverse ++ vs) = some o ∧ emD (defE s1 g.d) s1.d = s1.d := by
        cases hgd' : g.d with
        | none => rw [hgd'] at he1; exact ⟨rfl, he1, rfl⟩
        | some d =>
          rw [hgd'] at he1
          simp only [defE] at he1 ⊢
          have hs := hlk d hgd'
          cases hl : lkS s1.σ (sC d) with
          | none => rw [hl] at hs; cases hs
          | some as =>
            rw [hl] at he1
            obtain ⟨h4, h5⟩ := R1.pl _ _ hl
            match as, h4, h5, he1 with
            | [], h4, h5, he1 => exact ⟨by simp [Env.defd, h5], he1, rfl⟩
            | [a], h4, h5, he1 =>
              by_cases hda : isDefA s1.df a = true
              · simp only [if_pos hda] at he1 ⊢
                have h6 := isDef_ok R1 hda
                refine ⟨?_, he1, rfl⟩
                have h5' : ν1 (sC d) = [SA.lv (z1.reverse ++ vs) a] := h5
                simp only [Env.defd, h5']
                generalize SA.lv (z1.reverse ++ vs) a = z at h6
                cases z <;> first | rfl | exact absurd rfl h6
              · simp only [if_neg hda] at he1 ⊢
                simp only [emD] at he1 ⊢
                simp only [emT, Tm.eval] at he1
                obtain ⟨h6, h7⟩ := chk2 _ _ he1
                rw [at_get (h4 a (by simp)) R1.len] at h7
                refine ⟨?_, h6, trivial⟩
                have h5' : ν1 (sC d) = [SA.lv (z1.reverse ++ vs) a] := h5
                simp only [Env.defd, h5']
                generalize SA.lv (z1.reverse ++ vs) a = z at h7
                cases z <;> first | rfl | exact absurd rfl h7
            | a :: b :: r, h4, h5, he1 => exact ⟨by simp [Env.defd, h5], he1, rfl⟩
      obtain ⟨hdf, he2, hdd⟩ := hdef
      have hg := hgd g (by simp)
      have hrun : g.run Φ ν = some ν1 := by
        unfold VG.run
        rw [hg]
        simp only [hc, if_true, h3, Option.bind_some, hdf]
      have hfr1 := frame_is h3
      have hc1 : gs ≠ [] → ν1 c = [.bool want] := fun hne => by
        cases gs with
        | nil => exact absurd rfl hne
        | cons g' r =>
          rw [hfr1 c (wrG_sub hok.1)]; exact hc
      by_cases hne : gs = []
      · subst hne
        simp only [syGrp, Option.some.injEq, Prod.mk.injEq] at h2
        obtain ⟨rfl, rfl⟩ := h2
        refine ⟨ν1, z1, by simp only [runGs, hrun, Option.bind_some], R1, he2, ?_, fun p hp => hfr1 p (wrG_sub (fun hm => hp (by simp [hm])))⟩
        rw [emD_append, hd1, emD_append, hdd]; rfl
      · have hok' : GrpOK c gs := by
          cases gs with
          | nil => trivial
          | cons g' r => exact hok.2
        obtain ⟨ν2, z2, h7, R2, he3, hd2, hfr2⟩ := syGrp_ok h2 (fun g hg => hgd g (by simp [hg])) hok' (hc1 hne) R1 he2
        refine ⟨ν2, z1 ++ z2, by simp only [runGs, hrun, Option.bind_some, h7], ?_, ?_, ?_, fun p hp => ?_⟩
        · simpa [List.reverse_append, List.append_assoc] using R2
        · simpa [List.reverse_append, List.append_assoc] using he3
        · rw [emD_append, hd1, emD_append, hdd, hd2]
        · simp only [List.map_cons, List.flatten_cons, List.mem_append, not_or] at hp
          rw [hfr2 p hp.2, hfr1 p (wrG_sub hp.1)]
    split at h
    · cases h
    · rename_i hno
      simp only [Option.map_eq_some_iff, Prod.mk.injEq] at h
      obtain ⟨q', h2, h3, h4⟩ := h
      refine key h2 ⟨h3.symm, h4.symm⟩ (fun d hd => ?_)
      rw [hd] at hno
      simp only [Option.elim_some] at hno
      cases hl : lkS s1.σ (sC d) with
      | none => exact (hno _ hl rfl).elim
      | some as => rfl
theorem undG_ok {c : Nat} {want ud : Bool} {x : V} (hx : (∃ b, x = .bool b ∧ b ≠ want) ∨ (x = .undef ∧ ud = true)) : ∀ {gs : List VG} {σ : List (Nat × List SA)} {d : Nat} {df : List Nat} {ν : Env}, (∀ g ∈ gs, g.gd = some (c, want) ∧ g.ud = ud) → GrpOK c gs → ν c = [x] → RelS ν ⟨σ, d, df⟩ vs →
    ∃ ν', runGs Φ gs ν = some ν' ∧ RelS ν' ⟨undG gs σ, d, df⟩ vs ∧ ∀ p, p ∉ (gs.map wrG).flatten → ν' p = ν p
  | [], σ, d, df, ν, _, _, _, R => ⟨ν, rfl, R, fun _ _ => rfl⟩
  | g :: gs, σ, d, df, ν, hgd, hok, hc, R => by
    obtain ⟨hg, hu⟩ := hgd g (by simp)
    have hrun : g.run Φ ν = some (ν.undef g.d) := by
      unfold VG.run
      rw [hg]
      rcases hx with ⟨b, rfl, hb⟩ | ⟨rfl, hb⟩
      · simp only [hc, if_neg hb]
      · simp only [hc, hu, hb, if_true]
    have hfr1 : ∀ p, p ∉ wrG g → (ν.undef g.d) p = ν p := fun p hp => by
      cases hd : g.d with
      | none => rfl
      | some e =>
        simp only [Env.undef]
        refine upd_ne (fun e' => hp ?_)
        simp [wrG, hg, hd, e']
    have R1 : RelS (ν.undef g.d) ⟨undS σ g.d, d, df⟩ vs := by
      cases hd : g.d with
      | none => exact R
      | some e =>
        refine ⟨R.len, fun p as hp => ?_, R.df⟩
        simp only [undS] at hp
        rw [lk_st] at hp
        simp only [Env.undef]
        split at hp
        · rename_i e'
          subst e'
          cases hp
          exact ⟨fun a ha => by rw [List.mem_singleton.1 ha]; trivial, by rw [upd_same]; rfl⟩
        · rename_i e'
          rw [upd_ne e']; exact R.pl p as hp
    by_cases hne : gs = []
    · subst hne
      exact ⟨_, by simp only [runGs, hrun, Option.bind_some], R1, fun p hp => hfr1 p (by simpa using hp)⟩
    · have hok' : c ∉ wrG g ∧ GrpOK c gs := by
        cases gs with
        | nil => exact absurd rfl hne
        | cons g' r => exact hok
      obtain ⟨ν2, h7, R2, hfr2⟩ := undG_ok hx (gs := gs) (fun g hg => hgd g (by simp [hg])) hok'.2 (by rw [hfr1 c hok'.1]; exact hc) R1
      refine ⟨ν2, by simp only [runGs, hrun, Option.bind_some, h7], R2, fun p hp => ?_⟩
      simp only [List.map_cons, List.flatten_cons, List.mem_append, not_or] at hp
      rw [hfr2 p hp.2, hfr1 p hp.1]
theorem runGs_append : ∀ {a b : List VG} {ν ν1 ν2 : Env}, runGs Φ a ν = some ν1 → runGs Φ b ν1 = some ν2 → runGs Φ (a ++ b) ν = some ν2
  | [], b, ν, ν1, ν2, h, h' => by cases h; exact h'
  | g :: a, b, ν, ν1, ν2, h, h' => by
    simp only [runGs, Option.bind_eq_some_iff] at h
    obtain ⟨ν3, h1, h2⟩ := h
    simp only [List.cons_append, runGs, h1, Option.bind_some]
    exact runGs_append h2 h'
theorem blk_inv {id : Option Nat} {lens : List Nat} {r : TR} {k : List V → TR} (h : blkV id lens r k = some o) : ∃ o1, r = some o1 ∧ ((∃ l zs, o1 = .norm l zs ∧ l = lens ∧ k zs = some o) ∨ (∃ j l zs, o1 = .exit j l zs ∧ ((id = some j ∧ l = lens ∧ k zs = some o) ∨ (id ≠ some j ∧ o = o1))) ∨ ∃ rs, o1 = .ret rs ∧ o = o1) := by
  simp only [blkV, Option.bind_eq_some_iff] at h
  obtain ⟨o1, h1, h2⟩ := h
  refine ⟨o1, h1, ?_⟩
  cases o1 with
  | norm l zs =>
    simp only at h2
    split at h2
    · rename_i hl; exact .inl ⟨l, zs, rfl, hl, h2⟩
    · cases h2
  | exit j l zs =>
    simp only at h2
    split at h2
    · rename_i hj
      split at h2
      · rename_i hl; exact .inr (.inl ⟨j, l, zs, rfl, .inl ⟨hj, hl, h2⟩⟩)
      · cases h2
    · rename_i hj
      exact .inr (.inl ⟨j, l, zs, rfl, .inr ⟨hj, (Option.some.inj h2).symm⟩⟩)
  | ret rs =>
    simp only [Option.some.injEq] at h2
    exact .inr (.inr ⟨rs, rfl, h2.symm⟩)
theorem syGs_ok {gl : List Nat} {K : St → Option Tm} : ∀ {m : Nat} {gs : List VG} {s : St} {t : Tm} {ν : Env} {vs : List V}, syGs gl m gs s K = some t → RelS ν s vs → t.eval Φ n vs = some o →
    ∃ ν', runGs Φ gs ν = some ν' ∧ (∀ p, p ∉ (gs.map wrG).flatten → ν' p = ν p) ∧ ∃ s' t' vs', K s' = some t' ∧ RelS ν' s' vs' ∧ t'.eval Φ n vs' = some o
  | m, [], s, t, ν, vs, h, R, he => by
    have : K s = some t := by cases m <;> exact h
    exact ⟨ν, rfl, fun _ _ => rfl, s, t, vs, this, R, he⟩
  | 0, g :: r, s, t, ν, vs, h, R, he => by cases h
  | m + 1, g :: r, s, t, ν, vs, h, R, he => by
    simp only [syGs] at h
    split at h
    · rename_i hgd
      simp only [Option.bind_eq_some_iff, Option.map_eq_some_iff] at h
      obtain ⟨⟨e1, s1⟩, h1, t1, h2, rfl⟩ := h
      obtain ⟨ν1, z1, h3, R1, he1, hd1⟩ := syIs_ok h1 R he
      obtain ⟨ν2, h4, hfr, rest⟩ := syGs_ok h2 R1 he1
      refine ⟨ν2, ?_, fun p hp => ?_, rest⟩
      · have : g.run Φ ν = some ν1 := by unfold VG.run; rw [hgd]; exact h3
        simp only [runGs, this, Option.bind_some, h4]
      · simp only [List.map_cons, List.flatten_cons, List.mem_append, not_or] at hp
        rw [hfr p hp.2, frame_is h3 p (wrG_sub hp.1)]
    · rename_i c want hgd
      obtain ⟨hsp, hsame, hgrp⟩ := spanG_ok c want g.ud (g :: r)
      generalize spanG c want g.ud (g :: r) = sp at h hsp hsame hgrp
      split at h
      · rename_i a hla
        simp only [Option.bind_eq_some_iff, Option.map_eq_some_iff] at h
        obtain ⟨⟨e1, s1⟩, h1, ⟨lt, lta⟩, h2, ⟨lf, lfa⟩, h3, k, h4, rfl⟩ := h
        simp only at h2 h3 h4 he
        obtain ⟨hca, hcv⟩ := R.pl c _ hla
        have hcv' : ν c = [a.lv vs] := hcv
        simp only [Tm.eval] at he
        obtain ⟨o1, ho1, hcase⟩ := blk_inv he
        rw [at_get (hca a (by simp)) R.len] at ho1
        -- both ways end in a state where the places J hold what they hold
        have key : ∃ ν1, runGs Φ sp.1 ν = some ν1 ∧ (∀ p, p ∉ (sp.1.map wrG).flatten → ν1 p = ν p) ∧ ∃ J : List Nat, o1 = .norm (lensOf ν1 J) (valsOf ν1 J) ∧ syGs gl m sp.2 (s.join (sp.1.map wrG).flatten J lt) K = some k := by
          unfold gdV at ho1
          split at ho1
          · rename_i b hb
            split at ho1
            · rename_i hbw
              subst hbw
              obtain ⟨ν1, z1, h5, R1, he1, hd1, hfr⟩ := syGrp_ok h1 (fun g hg => (hsame g hg).1) hgrp (by rw [hcv', hb]) R ho1
              obtain ⟨h6, h7⟩ := leaf_ok h2 R1
              simp only [Tm.eval, h7, h6, Option.some.injEq] at he1
              exact ⟨ν1, h5, hfr, _, he1.symm, h4⟩
            · rename_i hbw
              obtain ⟨ν1, h5, R1, hfr⟩ := undG_ok (Φ := Φ) (gs := sp.1) (x := a.lv vs) (.inl ⟨b, hb, hbw⟩) hsame hgrp hcv' R
              obtain ⟨h6, h7⟩ := leaf_ok h3 R1
              simp only [Tm.eval, h7, h6, Option.some.injEq] at ho1
              exact ⟨ν1, h5, hfr, _, ho1.symm, h4⟩
          · rename_i hb
            split at ho1
            · rename_i hud
              obtain ⟨ν1, h5, R1, hfr⟩ := undG_ok (Φ := Φ) (gs := sp.1) (x := a.lv vs) (.inr ⟨hb, hud⟩) hsame hgrp hcv' R
              obtain ⟨h6, h7⟩ := leaf_ok h3 R1
              simp only [Tm.eval, h7, h6, Option.some.injEq] at ho1
              exact ⟨ν1, h5, hfr, _, ho1.symm, h4⟩
            · cases ho1
          · cases ho1
        obtain ⟨ν1, h5, hfr, J, rfl, h4⟩ := key
        rcases hcase with ⟨l, zs, hn, hl, hk⟩ | ⟨j, l, zs, hn, _⟩ | ⟨rs, hn, _⟩
        · cases hn
          obtain ⟨_, h8⟩ := app_cur hk
          have R2 := join_ok R hfr hl.symm
          obtain ⟨ν2, h9, hfr2, rest⟩ := syGs_ok h4 R2 h8
          refine ⟨ν2, ?_, fun p hp => ?_, rest⟩
          · rw [hsp]; exact runGs_append h5 h9
          · rw [hsp] at hp
            simp only [List.map_append, List.flatten_append, List.mem_append, not_or] at hp
            rw [hfr2 p hp.2, hfr p hp.1]
        · cases hn
        · cases hn
      · cases h

/-! ### code -/
def EndOK (K : St → Option Tm) (ex : List (Nat × List Nat)) (wr : List Nat) (Φ : Funs) (n : Nat) (ν : Env) (o : TO) : Out → Prop
  | .norm ν' => (∀ p, p ∉ wr → ν' p = ν p) ∧ ∃ s' t' vs', K s' = some t' ∧ RelS ν' s' vs' ∧ t'.eval Φ n vs' = some o
  | .exit id ν' => (∀ p, p ∉ wr → ν' p = ν p) ∧ ∃ J, lkJ ex id = some J ∧ o = .exit id (lensOf ν' J) (valsOf ν' J)
  | .ret raw => o = .ret raw
theorem EndOK.wr {K : St → Option Tm} {ex : List (Nat × List Nat)} {w w' : List Nat} {out : Out} (h : EndOK K ex w Φ n ν o out) (hs : ∀ p ∈ w, p ∈ w') : EndOK K ex w' Φ n ν o out := by
  cases out with
  | norm ν' => exact ⟨fun p hp => h.1 p (fun hm => hp (hs p hm)), h.2⟩
  | exit id ν' => exact ⟨fun p hp => h.1 p (fun hm => hp (hs p hm)), h.2⟩
  | ret raw => exact h
theorem goes_no {id m : Nat} : ∀ {c : VC} {ν ν' : Env}, c.goes id = false → c.run Φ m ν = some (.exit id ν') → False
  | .ins gs, ν, ν', _, h => by simp [VC.run] at h
  | .seq a b, ν, ν', hg, h => by
    simp only [VC.goes, Bool.or_eq_false_iff] at hg
    simp only [VC.run, Option.bind_eq_some_iff] at h
    obtain ⟨o1, h1, h2⟩ := h
    cases o1 with
    | norm ν1 => exact goes_no hg.2 h2
    | exit j ν1 => cases h2; exact goes_no hg.1 h1
    | ret raw => cases h2
  | .cond c J x y, ν, ν', hg, h => by
    simp only [VC.goes, Bool.or_eq_false_iff] at hg
    simp only [VC.run] at h
    split at h
    · split at h
      · exact goes_no hg.1 h
      · exact goes_no hg.2 h
    · cases h
  | .block j J b, ν, ν', hg, h => by
    simp only [VC.run, Option.map_eq_some_iff] at h
    obtain ⟨o1, h1, h2⟩ := h
    cases o1 with
    | norm ν1 => cases h2
    | exit i ν1 =>
      simp only at h2
      split at h2
      · cases h2
      · cases h2; exact goes_no (c := b) hg h1
    | ret raw => cases h2
  | .loop b, ν, ν', hg, h => by
    simp only [VC.run] at h
    have key : ∀ (k : Nat) (ν : Env), loopN (b.run Φ m) k ν = some (.exit id ν') → False := by
      intro k
      induction k with
      | zero => intro ν h; cases h
      | succ k ih =>
        intro ν h
        simp only [loopN, Option.bind_eq_some_iff] at h
        obtain ⟨o1, h1, h2⟩ := h
        cases o1 with
        | norm ν1 => exact ih ν1 h2
        | exit i ν1 => cases h2; exact goes_no (c := b) hg h1
        | ret raw => cases h2
    exact key m ν h
  | .exit j, ν, ν', hg, h => by
    simp only [VC.run, Option.some.injEq, Out.exit.injEq] at h
    simp [VC.goes, h.1] at hg
  | .ret i, ν, ν', _, h => by
    simp only [VC.run] at h
    split at h
    · simp at h
    · cases h
  | .ren t u, ν, ν', _, h => by simp [VC.run] at h
  | .stuck, ν, ν', _, h => by cases h
theorem sy_ok {gl : List Nat} : ∀ (c : VC) {ex : List (Nat × List Nat)} {s : St} {K : St → Option Tm} {t : Tm} {ν : Env} {vs : List V} {o : TO}, sy gl c ex s K = some t → RelS ν s vs → t.eval Φ n vs = some o →
    ∃ out, c.run Φ n ν = some out ∧ EndOK K ex c.wr Φ n ν o out
  | .ins gs, ex, s, K, t, ν, vs, o, h, R, he => by
    obtain ⟨ν', h1, h2, h3⟩ := syGs_ok h R he
    exact ⟨.norm ν', by simp only [VC.run, h1, Option.map_some], h2, h3⟩
  | .seq a b, ex, s, K, t, ν, vs, o, h, R, he => by
    obtain ⟨out1, h1, h2⟩ := sy_ok a (K := fun s' => sy gl b ex s' K) h R he
    cases out1 with
    | norm ν1 =>
      obtain ⟨hfr, s', t', vs', h3, R1, he1⟩ := h2
      obtain ⟨out2, h4, h5⟩ := sy_ok b h3 R1 he1
      refine ⟨out2, by simp only [VC.run, h1, Option.bind_some, h4], ?_⟩
      have fr : ∀ {ν2 : Env}, (∀ p, p ∉ b.wr → ν2 p = ν1 p) → ∀ p, p ∉ (VC.seq a b).wr → ν2 p = ν p := fun h p hp => by
        simp only [VC.wr, List.mem_append, not_or] at hp
        rw [h p hp.2, hfr p hp.1]
      cases out2 with
      | norm ν2 => exact ⟨fr h5.1, h5.2⟩
      | exit id ν2 => exact ⟨fr h5.1, h5.2⟩
      | ret raw => exact h5
    | exit id ν1 => exact ⟨.exit id ν1, by simp only [VC.run, h1, Option.bind_some], EndOK.wr (K := K) (out := .exit id ν1) (w := a.wr) h2 (fun p hp => List.mem_append_left _ hp)⟩
    | ret raw => exact ⟨.ret raw, by simp only [VC.run, h1, Option.bind_some], h2⟩
  | .ren u v, ex, s, K, t, ν, vs, o, h, R, he => by
    simp only [sy] at h
    have fr : ∀ p, p ∉ (VC.ren u v).wr → (ν.sw u v) p = ν p := fun p hp => by
      simp only [VC.wr, List.mem_cons, List.not_mem_nil, or_false, not_or] at hp
      simp only [Env.sw, if_neg hp.1, if_neg hp.2]
    split at h
    · rename_i a b ha hb
      refine ⟨.norm (ν.sw u v), rfl, fr, _, t, vs, h, ⟨R.len, fun p as hp => ?_, R.df⟩, he⟩
      simp only at hp
      rw [lk_st, lk_st] at hp
      simp only [Env.sw]
      split at hp
      · rename_i e; cases hp; rw [if_pos e]; exact R.pl _ _ hb
      · rename_i e
        rw [if_neg e]
        split at hp
        · rename_i e2; cases hp; rw [if_pos e2]; exact R.pl _ _ ha
        · rename_i e2; rw [if_neg e2]; exact R.pl p as hp
    · rename_i a ha hb
      refine ⟨.norm (ν.sw u v), rfl, fr, _, t, vs, h, ⟨R.len, fun p as hp => ?_, R.df⟩, he⟩
      simp only at hp
      rw [lk_st] at hp
      simp only [Env.sw]
      split at hp
      · rename_i e
        cases hp
        by_cases e2 : p = tC u
        · rw [← e2, e, hb] at ha; cases ha
        · rw [if_neg e2, if_pos e]; exact R.pl _ _ ha
      · rename_i e
        obtain ⟨h1, h2⟩ := lk_filter (f := fun p : Nat × List SA => p.1 != tC u) (fun _ _ => rfl) hp
        rw [if_neg (by simpa using h2), if_neg e]; exact R.pl p as h1
    · cases h
  | .cond c J x y, ex, s, K, t, ν, vs, o, h, R, he => by
    simp only [sy] at h
    split at h
    · rename_i b hb
      obtain ⟨_, hv⟩ := R.pl _ _ hb
      have hv' : ν c = [.bool b] := hv
      cases b with
      | true =>
        simp only [if_true] at h
        obtain ⟨out, h1, h2⟩ := sy_ok x h R he
        exact ⟨out, by simp only [VC.run, hv', if_true, h1], h2.wr (fun p hp => List.mem_append_left _ hp)⟩
      | false =>
        simp only [Bool.false_eq_true, if_false] at h
        obtain ⟨out, h1, h2⟩ := sy_ok y h R he
        exact ⟨out, by simp only [VC.run, hv', Bool.false_eq_true, if_false, h1], h2.wr (fun p hp => List.mem_append_right _ hp)⟩
    · rename_i a _ ha
      obtain ⟨hoa, hv⟩ := R.pl _ _ ha
      have hv' : ν c = [a.lv vs] := hv
      -- a test parts the ways
      have part : ∀ {tx ty : Tm} {o1 : TO} {K' : St → Option Tm}, sy gl x ex s K' = some tx → sy gl y ex s K' = some ty → iteV ((a.at s.d).get vs) (tx.eval Φ n vs) (ty.eval Φ n vs) = some o1 →
          ∃ out, (VC.cond c J x y).run Φ n ν = some out ∧ EndOK K' ex (VC.cond c J x y).wr Φ n ν o1 out := by
        intro tx ty o1 K' hx hy hi
        rw [at_get (hoa a (by simp)) R.len] at hi
        unfold iteV at hi
        split at hi
        · rename_i hb
          obtain ⟨out, h1, h2⟩ := sy_ok x hx R hi
          exact ⟨out, by simp only [VC.run, hv', hb, if_true, h1], h2.wr (fun p hp => List.mem_append_left _ hp)⟩
        · rename_i hb
          obtain ⟨out, h1, h2⟩ := sy_ok y hy R hi
          exact ⟨out, by simp only [VC.run, hv', hb, Bool.false_eq_true, if_false, h1], h2.wr (fun p hp => List.mem_append_right _ hp)⟩
        · cases hi
      split at h
      · simp only [Option.bind_eq_some_iff] at h
        obtain ⟨tx, hx, ty, hy, lens, _, h⟩ := h
        split at h
        · simp only [Option.map_eq_some_iff] at h
          obtain ⟨k, hk, rfl⟩ := h
          simp only [Tm.eval] at he
          obtain ⟨o1, ho1, hcase⟩ := blk_inv he
          obtain ⟨out, h1, h2⟩ := part hx hy ho1
          refine ⟨out, h1, ?_⟩
          cases out with
          | norm ν' =>
            obtain ⟨hfr, s', t', vs', h3, R1, he1⟩ := h2
            simp only [leafN, Option.map_eq_some_iff] at h3
            obtain ⟨⟨l, as⟩, h4, rfl⟩ := h3
            obtain ⟨h5, h6⟩ := leaf_ok h4 R1
            simp only [Tm.eval, h5, h6, Option.some.injEq] at he1
            subst he1
            rcases hcase with ⟨l, zs, hn, hl, hk2⟩ | ⟨j, l, zs, hn, _⟩ | ⟨rs, hn, _⟩
            · cases hn
              obtain ⟨_, h8⟩ := app_cur hk2
              exact ⟨hfr, _, k, _, hk, join_ok R hfr hl.symm, h8⟩
            · cases hn
            · cases hn
          | exit id ν' =>
            obtain ⟨hfr, J', h3, rfl⟩ := h2
            rcases hcase with ⟨l, zs, hn, _⟩ | ⟨j, l, zs, hn, h9 | ⟨_, rfl⟩⟩ | ⟨rs, hn, _⟩
            · cases hn
            · cases h9.1
            · exact ⟨hfr, J', h3, rfl⟩
            · cases hn
          | ret raw =>
            have h2' : o1 = .ret raw := h2
            subst h2'
            rcases hcase with ⟨l, zs, hn, _⟩ | ⟨j, l, zs, hn, _⟩ | ⟨rs, hn, rfl⟩
            · cases hn
            · cases hn
            · rfl
        · cases h
      · simp only [Option.bind_eq_some_iff, Option.map_eq_some_iff] at h
        obtain ⟨tx, hx, ty, hy, rfl⟩ := h
        exact part hx hy he
    · cases h
  | .block id J b, ex, s, K, t, ν, vs, o, h, R, he => by
    simp only [sy] at h
    split at h
    · simp only [Option.bind_eq_some_iff] at h
      obtain ⟨tb, hb, h⟩ := h
      split at h
      · rename_i lens _
        split at h
        · simp only [Option.map_eq_some_iff] at h
          obtain ⟨k, hk, rfl⟩ := h
          simp only [Tm.eval] at he
          obtain ⟨o1, ho1, hcase⟩ := blk_inv he
          obtain ⟨out, h1, h2⟩ := sy_ok b hb R ho1
          cases out with
          | norm ν' =>
            refine ⟨.norm ν', by simp only [VC.run, h1, Option.map_some], ?_⟩
            obtain ⟨hfr, s', t', vs', h3, R1, he1⟩ := h2
            simp only [leafN, Option.map_eq_some_iff] at h3
            obtain ⟨⟨l, as⟩, h4, rfl⟩ := h3
            obtain ⟨h5, h6⟩ := leaf_ok h4 R1
            simp only [Tm.eval, h5, h6, Option.some.injEq] at he1
            subst he1
            rcases hcase with ⟨l, zs, hn, hl, hk2⟩ | ⟨j, l, zs, hn, _⟩ | ⟨rs, hn, _⟩
            · cases hn
              obtain ⟨_, h8⟩ := app_cur hk2
              exact ⟨hfr, _, k, _, hk, join_ok R hfr hl.symm, h8⟩
            · cases hn
            · cases hn
          | exit j ν' =>
            obtain ⟨hfr, J', h3, rfl⟩ := h2
            by_cases hj : j = id
            · subst hj
              refine ⟨.norm ν', by simp only [VC.run, h1, Option.map_some, if_true], ?_⟩
              have hJ : J' = dedup (J.filter fun p => b.wr.contains p && gl.contains p) := by
                simp only [lkJ, List.find?_cons, beq_self_eq_true, Option.map_some, Option.some.injEq] at h3
                exact h3.symm
              rcases hcase with ⟨l, zs, hn, _⟩ | ⟨i, l, zs, hn, ⟨_, hl, hk2⟩ | ⟨hne, _⟩⟩ | ⟨rs, hn, _⟩
              · cases hn
              · cases hn
                obtain ⟨_, h8⟩ := app_cur hk2
                rw [← hJ] at hk
                exact ⟨hfr, _, k, _, hk, join_ok R hfr hl.symm, h8⟩
              · cases hn
                exact absurd rfl hne
              · cases hn
            · refine ⟨.exit j ν', by simp only [VC.run, h1, Option.map_some, if_neg hj], hfr, J', ?_, ?_⟩
              · have : (id == j) = false := by simpa using fun e => hj e.symm
                simpa only [lkJ, List.find?_cons, this] using h3
              · rcases hcase with ⟨l, zs, hn, _⟩ | ⟨i, l, zs, hn, ⟨hi, _⟩ | ⟨_, rfl⟩⟩ | ⟨rs, hn, _⟩
                · cases hn
                · cases hn
                  cases hi
                  exact absurd rfl hj
                · rfl
                · cases hn
          | ret raw =>
            refine ⟨.ret raw, by simp only [VC.run, h1, Option.map_some], ?_⟩
            have h2' : o1 = .ret raw := h2
            subst h2'
            rcases hcase with ⟨l, zs, hn, _⟩ | ⟨j, l, zs, hn, _⟩ | ⟨rs, hn, rfl⟩
            · cases hn
            · cases hn
            · rfl
        · cases h
      · cases h
    · rename_i hgo
      obtain ⟨out, h1, h2⟩ := sy_ok b h R he
      cases out with
      | norm ν' => exact ⟨.norm ν', by simp only [VC.run, h1, Option.map_some], h2⟩
      | exit j ν' =>
        by_cases hj : j = id
        · subst hj
          exact (goes_no (by simpa using hgo) h1).elim
        · exact ⟨.exit j ν', by simp only [VC.run, h1, Option.map_some, if_neg hj], h2⟩
      | ret raw => exact ⟨.ret raw, by simp only [VC.run, h1, Option.map_some], h2⟩
  | .loop b, ex, s, K, t, ν, vs, o, h, R, he => by
    simp only [sy, Option.bind_eq_some_iff, Option.map_eq_some_iff] at h
    obtain ⟨⟨lens, init⟩, hl, tb, hb, rfl⟩ := h
    generalize ((dedup b.wr).filter fun p => gl.contains p && (lkS s.σ p).isSome) = J at hl hb
    simp only at hb he
    obtain ⟨h5, h6⟩ := leaf_ok hl R
    simp only [Tm.eval, h6] at he
    have key : ∀ (k : Nat) (ν1 : Env), (∀ p, p ∉ b.wr → ν1 p = ν p) → lens = lensOf ν1 J → lpV lens (app (total lens) (cur (total lens) fun zs => tb.eval Φ n (zs.reverse ++ vs))) k (valsOf ν1 J) = some o →
        ∃ out, loopN (b.run Φ n) k ν1 = some out ∧ EndOK K ex b.wr Φ n ν o out := by
      intro k
      induction k with
      | zero => intro ν1 _ _ h; cases h
      | succ k ih =>
        intro ν1 hfr hlen h
        simp only [lpV, Option.bind_eq_some_iff] at h
        obtain ⟨o1, h1, h2⟩ := h
        obtain ⟨_, h3⟩ := app_cur h1
        obtain ⟨out1, h7, h8⟩ := sy_ok b hb (join_ok R hfr hlen) h3
        cases out1 with
        | norm ν2 =>
          obtain ⟨hfr2, s', t', vs', h9, R1, he1⟩ := h8
          simp only [leafN, Option.map_eq_some_iff] at h9
          obtain ⟨⟨l, as⟩, h10, rfl⟩ := h9
          obtain ⟨h11, h12⟩ := leaf_ok h10 R1
          simp only [Tm.eval, h11, h12, Option.some.injEq] at he1
          subst he1
          simp only at h2
          split at h2
          · rename_i hl2
            obtain ⟨out, h13, h14⟩ := ih ν2 (fun p hp => by rw [hfr2 p hp, hfr p hp]) hl2.symm h2
            exact ⟨out, by simp only [loopN, h7, Option.bind_some, h13], h14⟩
          · cases h2
        | exit j ν2 =>
          obtain ⟨hfr2, J', h9, rfl⟩ := h8
          simp only [Option.some.injEq] at h2
          subst h2
          exact ⟨.exit j ν2, by simp only [loopN, h7, Option.bind_some], fun p hp => by rw [hfr2 p hp, hfr p hp], J', h9, rfl⟩
        | ret raw =>
          have h8' : o1 = .ret raw := h8
          subst h8'
          simp only [Option.some.injEq] at h2
          subst h2
          exact ⟨.ret raw, by simp only [loopN, h7, Option.bind_some], rfl⟩
    exact key n ν (fun _ _ => rfl) h5 he
  | .exit id, ex, s, K, t, ν, vs, o, h, R, he => by
    simp only [sy, Option.bind_eq_some_iff, Option.map_eq_some_iff] at h
    obtain ⟨J, hJ, ⟨l, as⟩, hl, rfl⟩ := h
    obtain ⟨h5, h6⟩ := leaf_ok hl R
    simp only [Tm.eval, h6, h5, Option.some.injEq] at he
    exact ⟨.exit id ν, rfl, fun _ _ => rfl, J, hJ, he.symm⟩
  | .ret i, ex, s, K, t, ν, vs, o, h, R, he => by
    simp only [sy, syRet] at h
    split at h
    · rename_i pss hf
      simp only [Option.bind_eq_some_iff, Option.map_eq_some_iff] at h
      obtain ⟨cu, hcu, ct, hct, args, hargs, outs, houts, rfl⟩ := h
      obtain ⟨hao, hav⟩ := args_ok R hargs
      have hoo := pkss_okA houts hao
      have e0 : (ndE s.df ([] : List SA)).1 = [] := rfl
      have he' : (emT ((chkE 0 isUnitA cu ++ chkE 1 isTrueA ct) ++ ((ndE s.df []).1 ++ (ndE s.df outs.flatten).1)) s.d (.ret (outs.map (ats s.d)))).eval Φ n vs = some o := by
        rw [e0, List.append_assoc]; exact he
      obtain ⟨h1, ⟨⟨hc1, hc2⟩, _⟩, hd⟩ := pre_ok (i := { i with dfn := [] }) hcu hct (by rfl) R he'
      obtain ⟨h2, h3, _⟩ := ndE_ok R.len R.df hoo h1
      refine ⟨.ret (outs.map (List.map (SA.lv vs))), ?_, ?_⟩
      · simp only [VC.run]
        rw [if_pos ⟨hc1, hc2⟩, hf, hav]
        simp only [VF.sem, pkss_ok houts h3, Option.map_some]
      · simp only [Tm.eval, Option.some.injEq] at h2
        rw [argsV R.len (flat_okA hoo)] at h2
        exact h2.symm
    · cases h
  | .stuck, ex, s, K, t, ν, vs, o, h, R, he => by
    simp only [sy, Option.some.injEq] at h
    subst h
    cases he

/-! ### a function -/
theorem lkS_mem : ∀ {σ : List (Nat × List SA)} {p : Nat} {as : List SA}, lkS σ p = some as → (p, as) ∈ σ
  | (q, bs) :: r, p, as, h => by
    simp only [lkS] at h
    split at h
    · rename_i e; cases h; subst e; exact List.mem_cons_self
    · exact List.mem_cons_of_mem _ (lkS_mem h)
def LensOK : List PSh → List (List V) → Prop
  | [], [] => True
  | p :: ps, xs :: xss => xs.length = p.ms.length ∧ LensOK ps xss
  | _, _ => False
theorem inS_ok {ps0 : List PSh} {xss0 : List (List V)} {W : List V} {D : Nat} : ∀ (ps : List PSh) (xss : List (List V)) (s d : Nat), LensOK ps xss → (∀ j, ps0[s + j]? = ps[j]?) → (∀ j, xss0[s + j]? = xss[j]?) → ps0.all (fun p => ms64 0 p.ms) = true →
    d + xss.flatten.length ≤ D → (∀ i, i < xss.flatten.length → (SA.x (d + i)).lv W = xss.flatten.getD i .undef) →
    ∀ q ∈ (inS s d ps).1, (∀ a ∈ q.2, okA D a) ∧ env0 ps0 xss0 q.1 = q.2.map (SA.lv W)
  | [], xss, s, d, _, _, _, _, _, _ => by simp [inS]
  | p :: ps, [], s, d, h, _, _, _, _, _ => h.elim
  | p :: ps, xs :: xss, s, d, ⟨hl, hL⟩, hp, hx, h64, hD, hv => by
    have hp0 : ps0[s]? = some p := by have := hp 0; simpa using this
    have hx0 : xss0[s]? = some xs := by have := hx 0; simpa using this
    have hfl : (xs :: xss).flatten.length = xs.length + xss.flatten.length := by simp
    rw [hfl] at hD hv
    have hv1 : ∀ i, i < xs.length → (SA.x (d + i)).lv W = xs.getD i .undef := fun i hi => by
      rw [hv i (by omega)]
      simp only [List.flatten_cons, List.getD_eq_getElem?_getD]
      rw [List.getElem?_append_left hi]
    have rest := inS_ok (ps0 := ps0) (xss0 := xss0) (W := W) (D := D) ps xss (s + 1) (d + p.ms.length) hL (fun j => by have := hp (j + 1); rw [show s + 1 + j = s + (j + 1) by omega]; simpa using this) (fun j => by have := hx (j + 1); rw [show s + 1 + j = s + (j + 1) by omega]; simpa using this) h64 (by omega) (fun i hi => by
      have := hv (xs.length + i) (by omega)
      rw [show d + p.ms.length + i = d + (xs.length + i) by omega, this]
      simp only [List.flatten_cons, List.getD_eq_getElem?_getD]
      rw [List.getElem?_append_right (by omega)]
      simp)
    -- a place of this parameter and its rows
    have hpc : ∀ (pl base : Nat) (ms : List PM), p.ms = ms → env0 ps0 xss0 pl = List.zipWith inV ms xs → (∀ j, ms[j]? = some .own → env0 ps0 xss0 (tC (base + j)) = (xs[j]?).toList) →
        ∀ q ∈ inP.inPc pl base d ms, (∀ a ∈ q.2, okA D a) ∧ env0 ps0 xss0 q.1 = q.2.map (SA.lv W) := by
      intro pl base ms hms hpl htk q hq
      rw [hms] at hl
      simp only [inP.inPc, List.mem_cons, List.mem_filterMap] at hq
      rcases hq with rfl | ⟨⟨m, j⟩, hmj, hq⟩
      · refine ⟨fun a ha => ?_, ?_⟩
        · obtain ⟨⟨m, i⟩, hmi, rfl⟩ := List.mem_map.1 ha
          have h1 := List.mem_zipIdx hmi
          simp only
          split
          · trivial
          · show i < D
            omega
        · rw [hpl]
          apply List.ext_getElem
          · simp [hl]
          · intro i h1 h2
            have hi : i < ms.length := by simpa using h2
            have hi2 : i < xs.length := by omega
            simp only [List.getElem_zipWith, List.getElem_map, List.getElem_zipIdx]
            cases hm : ms[i] with
            | own => simp [inV, SA.lv]
            | _ =>
              simp only [inV]
              rw [if_neg (by simp)]
              rw [hv1 i hi2]
              simp [List.getD_eq_getElem?_getD, List.getElem?_eq_getElem hi2]
      · have h1 := List.mem_zipIdx hmj
        simp only at hq
        split at hq
        · rename_i hm
          cases hq
          subst hm
          have hj : j < xs.length := by omega
          refine ⟨fun a ha => by rw [List.mem_singleton.1 ha]; show d + j < D; omega, ?_⟩
          have hmo : ms[j]? = some .own := by
            rw [List.getElem?_eq_getElem (by omega)]
            simpa using h1.2.2.symm
          rw [htk j hmo, List.map_singleton, hv1 j hj, List.getElem?_eq_getElem hj]
          simp [List.getD_eq_getElem?_getD, List.getElem?_eq_getElem hj]
        · cases hq
    have h64p : ∀ j, p.ms[j]? = some .own → j < 64 := fun j hj => by
      have := ms64_ok (List.all_eq_true.1 h64 p (List.mem_of_getElem? hp0)) j hj
      omega
    have esC : env0 ps0 xss0 (sC s) = slV xs p := by
      have e1 : sC s % 3 = 0 := by simp only [sC]; omega
      have e2 : sC s / 3 = s := by simp only [sC]; omega
      simp only [env0, e1, e2, if_true, at2, hp0, hx0]
    have etS : ∀ j, j < 64 → env0 ps0 xss0 (tC (tokS s 0 + j)) = tkV false j xs p := fun j hj => by
      have e0 : tC (tokS s 0 + j) % 3 = 2 := by simp only [tC]; omega
      have e3 : tC (tokS s 0 + j) / 3 = tokS s 0 + j := by simp only [tC]; omega
      have h1 : ((tokS s 0 + j) / 64) % 2 = 0 := by simp only [tokS]; omega
      have h2 : (tokS s 0 + j) % 64 = j := by simp only [tokS]; omega
      have h3 : (tokS s 0 + j) / 64 / 2 = s := by simp only [tokS]; omega
      simp only [env0, e0, e3, h1, h2, h3, at2, hp0, hx0]
      simp
    intro q hq
    simp only [inS, List.mem_append] at hq
    rcases hq with hq | hq
    · cases p with
      | one m =>
        refine hpc (sC s) (tokS s 0) [m] rfl esC (fun j hj => ?_) q hq
        rw [etS j (h64p j hj)]; rfl
      | agg ms =>
        refine hpc (sC s) (tokS s 0) ms rfl esC (fun j hj => ?_) q hq
        rw [etS j (h64p j hj)]; rfl
      | ptr ro ms =>
        simp only [inP, List.mem_cons] at hq
        rcases hq with rfl | hq
        · exact ⟨fun a ha => by rw [List.mem_singleton.1 ha]; trivial, by rw [esC]; rfl⟩
        · refine hpc (bC (pinB + s)) (tokB (pinB + s) 0) ms rfl ?_ (fun j hj => ?_) q hq
          · have e1 : ¬ bC (pinB + s) % 3 = 0 := by simp only [bC]; omega
            have e2 : bC (pinB + s) % 3 = 1 := by simp only [bC]; omega
            have e3 : bC (pinB + s) / 3 = pinB + s := by simp only [bC]; omega
            have e4 : ¬ pinB + s < pinB := by omega
            have e5 : pinB + s - pinB = s := by omega
            simp only [env0, e2, e3, e4, e5, at2, hp0, hx0, bxV]
            simp
          · have hj64 := h64p j hj
            have e0 : tC (tokB (pinB + s) 0 + j) % 3 = 2 := by simp only [tC]; omega
            have e3 : tC (tokB (pinB + s) 0 + j) / 3 = tokB (pinB + s) 0 + j := by simp only [tC]; omega
            have h1 : ((tokB (pinB + s) 0 + j) / 64) % 2 = 1 := by simp only [tokB]; omega
            have h2 : (tokB (pinB + s) 0 + j) % 64 = j := by simp only [tokB]; omega
            have h3 : (tokB (pinB + s) 0 + j) / 64 / 2 = pinB + s := by simp only [tokB]; omega
            have e4 : ¬ pinB + s < pinB := by omega
            have e5 : pinB + s - pinB = s := by omega
            simp only [env0, e0, e3, h1, h2, h3, e4, e5, at2, hp0, hx0, tkV]
            simp
      | nilp =>
        simp only [inP, List.mem_singleton] at hq
        subst hq
        exact ⟨fun a ha => by rw [List.mem_singleton.1 ha]; trivial, by rw [esC]; rfl⟩
    · exact rest q hq
theorem tm_ok {c : VC} {ps : List PSh} {xss raw : List (List V)} (ht : tmOf c ps = some t) (hL : LensOK ps xss) (h64 : ps.all (fun p => ms64 0 p.ms) = true) (he : t.eval Φ n xss.flatten.reverse = some (.ret raw)) : c.run Φ n (env0 ps xss) = some (.ret raw) := by
  simp only [tmOf] at ht
  have hd : ∀ (ps : List PSh) (xss : List (List V)) (s d : Nat), LensOK ps xss → (inS s d ps).2 = d + xss.flatten.length := by
    intro ps
    induction ps with
    | nil => intro xss s d h; cases xss with
      | nil => rfl
      | cons => exact h.elim
    | cons p ps ih => intro xss s d h; cases xss with
      | nil => exact h.elim
      | cons xs xss =>
        simp only [inS, ih xss _ _ h.2, List.flatten_cons, List.length_append, h.1]
        omega
  have hd0 := hd ps xss 0 0 hL
  rw [Nat.zero_add] at hd0
  have R : RelS (env0 ps xss) ⟨(inS 0 0 ps).1, (inS 0 0 ps).2, []⟩ xss.flatten.reverse := by
    refine ⟨by simp [hd0], fun p as hp => ?_, fun i hi => by simp at hi⟩
    have := inS_ok (ps0 := ps) (xss0 := xss) (W := xss.flatten.reverse) (D := (inS 0 0 ps).2) ps xss 0 0 hL (fun j => by simp) (fun j => by simp) h64 (by omega) (fun i hi => by
      simp only [SA.lv, List.reverse_reverse, Nat.zero_add]) (p, as) (lkS_mem hp)
    exact this
  obtain ⟨out, h1, h2⟩ := sy_ok c ht R he
  cases out with
  | norm ν' => obtain ⟨_, s', t', vs', h3, _⟩ := h2; cases h3
  | exit id ν' => obtain ⟨_, J, h3, _⟩ := h2; cases h3
  | ret raw' =>
    have : TO.ret raw = .ret raw' := h2
    cases this
    exact h1
end
end Go.Proofs.YtogfkdpgkloljaaDoorVs
