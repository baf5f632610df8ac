/-
  What a function's text answers, the function answers: instructions and regions. Conditions: each lemma's own premises.
-/
import Derived.Test.YtogfkdpgkloljaaDoorVtL
set_option linter.unusedVariables false
set_option linter.unusedSimpArgs false
namespace Go.Proofs.YtogfkdpgkloljaaDoorVs
section
variable {Φ : Funs} {n : Nat} {ν ν' : Env} {s s' : St} {vs : List V} {t : Tm} {o : TO}
theorem pk_nd {args : List (List V)} {p : Nat × Nat} {z : V} (h : pk args p = some z) : z ≠ .undef := by
  unfold pk at h
  split at h
  · cases h
  · rename_i hn
    rintro rfl
    exact hn h
theorem mapM_append' {β γ : Type} {f : β → Option γ} : ∀ {l m : List β} {r : List γ}, (l ++ m).mapM f = some r → ∃ r1 r2, r = r1 ++ r2 ∧ l.mapM f = some r1 ∧ m.mapM f = some r2
  | [], m, r, h => ⟨[], r, rfl, rfl, h⟩
  | x :: l, m, r, h => by
    simp only [List.cons_append, List.mapM_cons, Option.bind_eq_bind, Option.bind_eq_some_iff, Option.pure_def, Option.some.injEq] at h
    obtain ⟨y, hy, r', hr, rfl⟩ := h
    obtain ⟨r1, r2, rfl, h1, h2⟩ := mapM_append' hr
    exact ⟨y :: r1, r2, rfl, by simp [List.mapM_cons, hy, h1], h2⟩
theorem outAs_ok {raw : List (List V)} {d : Nat} {W : List V} : ∀ (l : List (Option (Nat × Nat))) (j : Nat) (zs : List V), (l.filterMap id).mapM (pk raw) = some zs → (∀ i (h : i < zs.length), (SA.x (d + (j + i))).lv W = zs[i]) →
    outV raw l = some ((outAs d j l).1.map (SA.lv W)) ∧ (outAs d j l).2 = j + zs.length
  | [], j, zs, h, _ => by simp only [List.filterMap_nil, List.mapM_nil] at h; cases h; exact ⟨rfl, rfl⟩
  | none :: l, j, zs, h, H => by
    obtain ⟨h1, h2⟩ := outAs_ok l j zs (by simpa using h) H
    refine ⟨?_, h2⟩
    simp only [outV] at h1 ⊢
    simp [List.mapM_cons, outV1, h1, outAs, SA.lv]
  | some q :: l, j, zs, h, H => by
    simp only [List.filterMap_cons, id, List.mapM_cons, Option.bind_eq_bind, Option.bind_eq_some_iff, Option.pure_def, Option.some.injEq] at h
    obtain ⟨y, hy, r', hr, rfl⟩ := h
    obtain ⟨h1, h2⟩ := outAs_ok l (j + 1) r' hr (fun i hi => by
      have := H (i + 1) (by simpa using hi)
      rw [show j + 1 + i = j + (i + 1) by omega]
      simpa using this)
    have h0 := H 0 (by simp)
    simp only [Nat.add_zero, List.getElem_cons_zero] at h0
    refine ⟨?_, by simp only [outAs, h2, List.length_cons]; omega⟩
    simp only [outV] at h1 ⊢
    simp [List.mapM_cons, outV1, hy, h1, outAs, h0]
theorem outAss_ok {raw : List (List V)} {d : Nat} {W : List V} : ∀ (outs : List (List (Option (Nat × Nat)))) (j : Nat) (zs : List V), (outs.flatten.filterMap id).mapM (pk raw) = some zs → (∀ i (h : i < zs.length), (SA.x (d + (j + i))).lv W = zs[i]) →
    outs.mapM (outV raw) = some ((outAss d j outs).map (List.map (SA.lv W)))
  | [], j, zs, h, _ => rfl
  | l :: r, j, zs, h, H => by
    rw [List.flatten_cons, List.filterMap_append] at h
    obtain ⟨z1, z2, rfl, h1, h2⟩ := mapM_append' h
    obtain ⟨h3, h4⟩ := outAs_ok l j z1 h1 (fun i hi => by
      have := H i (by simp; omega)
      rw [this, List.getElem_append_left hi])
    have h5 := outAss_ok r (j + z1.length) z2 h2 (fun i hi => by
      have := H (z1.length + i) (by simp; omega)
      rw [show j + z1.length + i = j + (z1.length + i) by omega, this, List.getElem_append_right (by omega)]
      simp)
    simp only [outAss, List.mapM_cons, h3, h4, h5, List.map_cons]
    rfl
theorem outAss_len (d : Nat) : ∀ (outs : List (List (Option (Nat × Nat)))) (j : Nat), (outAss d j outs).length = outs.length
  | [], j => rfl
  | l :: r, j => by simp [outAss, outAss_len d r]
theorem outAs_okA (d : Nat) : ∀ (l : List (Option (Nat × Nat))) (j m : Nat), j + (l.filterMap id).length ≤ m → (∀ a ∈ (outAs d j l).1, okA (d + m) a) ∧ (outAs d j l).2 = j + (l.filterMap id).length
  | [], j, m, h => ⟨fun a ha => by simp [outAs] at ha, by simp [outAs]⟩
  | none :: l, j, m, h => by
    obtain ⟨h1, h2⟩ := outAs_okA d l j m (by simpa using h)
    refine ⟨fun a ha => ?_, by simpa [outAs] using h2⟩
    simp only [outAs, List.mem_cons] at ha
    rcases ha with rfl | ha
    · trivial
    · exact h1 a ha
  | some q :: l, j, m, h => by
    have h' : j + (l.filterMap id).length + 1 ≤ m := by simpa [Nat.add_assoc] using h
    obtain ⟨h1, h2⟩ := outAs_okA d l (j + 1) m (by omega)
    refine ⟨fun a ha => ?_, by simp only [outAs, h2, List.filterMap_cons, id, List.length_cons]; omega⟩
    simp only [outAs, List.mem_cons] at ha
    rcases ha with rfl | ha
    · show d + j < d + m
      omega
    · exact h1 a ha
theorem outAss_okA (d : Nat) : ∀ (outs : List (List (Option (Nat × Nat)))) (j m : Nat), j + (outs.flatten.filterMap id).length ≤ m → ∀ as ∈ outAss d j outs, ∀ a ∈ as, okA (d + m) a
  | [], j, m, h => by simp [outAss]
  | l :: r, j, m, h => by
    rw [List.flatten_cons, List.filterMap_append, List.length_append] at h
    obtain ⟨h1, h2⟩ := outAs_okA d l j m (by omega)
    intro as ha
    simp only [outAss, List.mem_cons] at ha
    rcases ha with rfl | ha
    · exact h1
    · exact outAss_okA d r _ m (by rw [h2]; omega) as ha
theorem argsV {d : Nat} (hl : vs.length = d) {args : List (List SA)} (h : ∀ as ∈ args, ∀ a ∈ as, okA d a) : (args.map (ats d)).map (gets vs) = args.map (List.map (SA.lv vs)) := by
  rw [List.map_map]
  exact List.map_congr_left fun as ha => ats_gets hl (h as ha)
theorem flat_okA {d : Nat} {xss : List (List SA)} (h : ∀ a ∈ xss.flatten, okA d a) : ∀ as ∈ xss, ∀ a ∈ as, okA d a := fun as h1 a h2 => h a (List.mem_flatten.2 ⟨as, h1, h2⟩)
theorem pre_ok {i : VI} {cu ct cd : List SA} (hcu : i.chk.mapM (cell s.σ) = some cu) (hct : i.asr.mapM (cell s.σ) = some ct) (hcd : i.dfn.mapM (cell s.σ) = some cd) (R : RelS ν s vs) {rest : List Em}
    (h : (emT ((chkE 0 isUnitA cu ++ chkE 1 isTrueA ct) ++ ((ndE s.df cd).1 ++ rest)) s.d t).eval Φ n vs = some o) :
    (emT rest s.d t).eval Φ n vs = some o ∧ ((i.chk.all (unitAt ν) = true ∧ i.asr.all (trueAt ν) = true) ∧ i.dfn.all (defAt ν) = true) ∧ DfOK s.d vs (ndE s.df cd).2 := by
  have hok : ∀ {l : List (Nat × Nat)} {as : List SA}, l.mapM (cell s.σ) = some as → ∀ a ∈ as, okA s.d a := fun hl a ha => by
    obtain ⟨p, _, hp⟩ := mapM_mem hl a ha
    exact (cell_ok R hp).1
  rw [List.append_assoc, emT_append, chkE_d] at h
  obtain ⟨h1, h2⟩ := chkE_ok (G := fun v => v = .unit) (fun a ha => by cases a <;> (try cases ‹V›) <;> simp_all [isUnitA, SA.lv]) chk0 R.len (hok hcu) h
  rw [emT_append, chkE_d] at h1
  obtain ⟨h3, h4⟩ := chkE_ok (G := fun v => v = .bool true) (fun a ha => by
    unfold isTrueA at ha
    split at ha
    · rfl
    · cases ha) chk1 R.len (hok hct) h1
  rw [emT_append, ndE_d] at h3
  obtain ⟨h5, h6, h7⟩ := ndE_ok R.len R.df (hok hcd) h3
  refine ⟨h5, ⟨⟨List.all_eq_true.2 fun p hp => ?_, List.all_eq_true.2 fun p hp => ?_⟩, List.all_eq_true.2 fun p hp => ?_⟩, h7⟩
  · obtain ⟨a, ha, hc⟩ := mapM_all hcu p hp
    unfold unitAt
    rw [(cell_ok R hc).2, h2 a ha]
  · obtain ⟨a, ha, hc⟩ := mapM_all hct p hp
    unfold trueAt
    rw [(cell_ok R hc).2, h4 a ha]
  · obtain ⟨a, ha, hc⟩ := mapM_all hcd p hp
    have h8 := h6 a ha
    unfold defAt
    rw [(cell_ok R hc).2]
    split <;> simp_all
theorem syVI_ok {i : VI} {es : List Em} (h : syVI i s = some (es, s')) (R : RelS ν s vs) (he : (emT es s.d t).eval Φ n vs = some o) :
    ∃ (ν' : Env) (zs : List V), i.run Φ ν = some ν' ∧ RelS ν' s' (zs.reverse ++ vs) ∧ t.eval Φ n (zs.reverse ++ vs) = some o ∧ emD es s.d = s'.d := by
  simp only [syVI, Option.bind_eq_some_iff] at h
  obtain ⟨cu, hcu, ct, hct, cd, hcd, args, hargs, h⟩ := h
  obtain ⟨hao, hav⟩ := args_ok R hargs
  have hemD : ∀ r : List Em, emD ((chkE 0 isUnitA cu ++ chkE 1 isTrueA ct) ++ ((ndE s.df cd).1 ++ r)) s.d = emD r s.d := by
    have app : ∀ (a b : List Em) (d : Nat), emD (a ++ b) d = emD b (emD a d) := by
      intro a
      induction a with
      | nil => intro b d; rfl
      | cons e a ih => intro b d; cases e <;> simp [emD, ih]
    intro r
    rw [app, app, app, chkE_d, chkE_d, ndE_d]
  have hemA : ∀ (a b : List Em) (d : Nat), emD (a ++ b) d = emD b (emD a d) := by
    intro a
    induction a with
    | nil => intro b d; rfl
    | cons e a ih => intro b d; cases e <;> simp [emD, ih]
  split at h
  · -- gather
    rename_i pss hf
    simp only [Option.bind_eq_some_iff] at h
    obtain ⟨outs, houts, h⟩ := h
    split at h
    · rename_i hlen
      cases h
      obtain ⟨h1, hc, hd⟩ := pre_ok hcu hct hcd R (rest := (ndE (ndE s.df cd).2 outs.flatten).1) he
      have hoo := pkss_okA houts hao
      obtain ⟨h2, h3, h4⟩ := ndE_ok R.len hd hoo h1
      refine ⟨ν.upds i.wr (outs.map (List.map (SA.lv vs))), [], ?_, ⟨R.len, RelS.sts R (by simpa using hlen.symm) (flat_okA hoo) R.pl, h4⟩, h2, by rw [hemD, ndE_d]⟩
      unfold VI.run
      rw [if_pos hc, hf, hav]
      simp only [VF.sem, pkss_ok houts h3, Option.bind_some, List.length_map, if_pos hlen]
    · cases h
  · -- call
    rename_i f w ins outs hf
    simp only [Option.bind_eq_some_iff] at h
    obtain ⟨xss, hxss, h⟩ := h
    split at h
    · rename_i hlen
      cases h
      obtain ⟨h1, hc, hd⟩ := pre_ok hcu hct hcd R (rest := (ndE (ndE s.df cd).2 xss.flatten).1 ++ [.call f w xss (outs.flatten.filterMap id)]) he
      have hoo := pkss_okA hxss hao
      rw [emT_append, ndE_d] at h1
      obtain ⟨h2, h3, h4⟩ := ndE_ok R.len hd hoo h1
      simp only [emT, Tm.eval, argsV R.len (flat_okA hoo), callV, Option.bind_eq_some_iff] at h2
      obtain ⟨raw, hraw, zs, hzs, h5⟩ := h2
      obtain ⟨hzl, h6⟩ := app_cur h5
      have hzg : ∀ i (hi : i < zs.length), (SA.x (s.d + (0 + i))).lv (zs.reverse ++ vs) = zs[i] := fun i hi => by
        have := (fresh_ok R zs (j := 0) (m := zs.length) (by omega)).2
        have h7 := congrArg (fun l => l[i]?) this
        simp only [fresh, List.map_map, List.getElem?_map, List.getElem?_range hi, List.drop_zero, List.take_length, Option.map_some, List.getElem?_eq_getElem hi, Option.some.injEq, Function.comp] at h7
        rw [Nat.zero_add]
        exact h7
      have hvals := outAss_ok outs 0 zs hzs hzg
      have Rg := R.grow zs
      refine ⟨ν.upds i.wr ((outAss s.d 0 outs).map (List.map (SA.lv (zs.reverse ++ vs)))), zs, ?_, ⟨?_, ?_, ?_⟩, h6, ?_⟩
      · unfold VI.run
        rw [if_pos hc, hf, hav]
        simp only [VF.sem, pkss_ok hxss h3, Option.bind_some, hraw, hvals, List.length_map, outAss_len, if_pos hlen]
      · have := Rg.len; simp only [hzl] at this; exact this
      · have := RelS.sts Rg (ps := i.wr) (ass := outAss s.d 0 outs) (by rw [outAss_len]; exact hlen.symm) (fun as h a ha => by
          have := outAss_okA s.d outs 0 zs.length (by rw [hzl]; omega) as h a ha
          exact this) Rg.pl
        simp only [hzl] at this
        exact this
      · intro k hk
        rcases List.mem_append.1 hk with hk | hk
        · obtain ⟨j, hj, rfl⟩ := List.mem_map.1 hk
          have hj' := List.mem_range.1 hj
          refine ⟨by simp only; omega, ?_⟩
          have := hzg j (by omega)
          rw [Nat.zero_add] at this
          rw [this]
          obtain ⟨p, _, hp⟩ := mapM_mem hzs zs[j] (List.getElem_mem _)
          exact pk_nd hp
        · obtain ⟨h8, h9⟩ := h4 k hk
          exact ⟨by simp only; omega, by rw [lv_mono (a := .x k) h8 R.len]; exact h9⟩
      · rw [hemD, hemA, ndE_d]; rfl
    · cases h
  · -- all others
    simp only [Option.bind_eq_some_iff] at h
    obtain ⟨m, hm, h⟩ := h
    split at h
    · rename_i w hw
      split at h
      · cases h
        obtain ⟨h1, hc, hd⟩ := pre_ok hcu hct hcd R (rest := [.op1 i.f args]) he
        simp only [emT, Tm.eval, argsV R.len hao, op1V, Option.bind_eq_some_iff] at h1
        obtain ⟨r, hr, h2⟩ := h1
        unfold k1 at h2
        split at h2
        · rename_i z
          have Rg := R.grow [z]
          have hz : (SA.x s.d).lv ([z].reverse ++ vs) = z := by
            have := (fresh_ok R [z] (j := 0) (m := 1) (by simp)).2
            simpa [fresh] using this
          refine ⟨ν.upd w [z], [z], ?_, ⟨Rg.len, fun p as hp => ?_, fun k hk => ?_⟩, h2, by rw [hemD]; rfl⟩
          · unfold VI.run
            rw [if_pos hc, hav, hr, hw]
            rfl
          · rw [lk_st] at hp
            split at hp
            · rename_i e
              subst e
              cases hp
              refine ⟨fun a ha => ?_, ?_⟩
              · rw [List.mem_singleton.1 ha]; exact Nat.lt_succ_self _
              · rw [upd_same, List.map_singleton, hz]
            · rename_i e
              rw [upd_ne e]; exact Rg.pl p as hp
          · have old : k ∈ (ndE s.df cd).2 → k < s.d + 1 ∧ (SA.x k).lv ([z].reverse ++ vs) ≠ .undef := fun hk => by
              obtain ⟨h8, h9⟩ := hd k hk
              exact ⟨by omega, by rw [lv_mono (a := .x k) h8 R.len]; exact h9⟩
            simp only at hk
            split at hk
            · rename_i hnu
              rcases List.mem_cons.1 hk with rfl | hk
              · exact ⟨by simp, by rw [hz]; exact never_ok hnu hr⟩
              · exact old hk
            · exact old hk
        · cases h2
      · cases h
        obtain ⟨h1, hc, hd⟩ := pre_ok hcu hct hcd R (rest := [.opn i.f args m]) he
        simp only [emT, Tm.eval, argsV R.len hao, opnV, Option.bind_eq_some_iff] at h1
        obtain ⟨r, hr, h2⟩ := h1
        unfold kn at h2
        split at h2
        · rename_i zs
          obtain ⟨hzl, h3⟩ := app_cur h2
          have Rg := R.grow zs
          obtain ⟨hf1, hf2⟩ := fresh_ok R zs (j := 0) (m := m) (by omega)
          simp only [Nat.add_zero, List.drop_zero] at hf1 hf2
          rw [List.take_of_length_le (by omega)] at hf2
          simp only [hzl] at Rg hf1
          refine ⟨ν.upd w zs, zs, ?_, ⟨Rg.len, fun p as hp => ?_, fun k hk => ?_⟩, h3, by rw [hemD]; rfl⟩
          · unfold VI.run
            rw [if_pos hc, hav, hr, hw]
            rfl
          · rw [lk_st] at hp
            split at hp
            · rename_i e
              subst e
              cases hp
              exact ⟨hf1, by rw [upd_same, hf2]⟩
            · rename_i e
              rw [upd_ne e]; exact Rg.pl p as hp
          · obtain ⟨h8, h9⟩ := hd k hk
            exact ⟨by simp only; omega, by rw [lv_mono (a := .x k) h8 R.len]; exact h9⟩
        · cases h2
    · cases h
theorem emD_append (a b : List Em) (d : Nat) : emD (a ++ b) d = emD b (emD a d) := by
  induction a generalizing d with
  | nil => rfl
  | cons e a ih => cases e <;> simp [emD, ih]
theorem syIs_ok : ∀ {is : List VI} {s s' : St} {ν : Env} {vs : List V} {es : List Em}, syIs is s = some (es, s') → RelS ν s vs → (emT es s.d t).eval Φ n vs = some o →
    ∃ (ν' : Env) (zs : List V), runIs Φ is ν = some ν' ∧ RelS ν' s' (zs.reverse ++ vs) ∧ t.eval Φ n (zs.reverse ++ vs) = some o ∧ emD es s.d = s'.d
  | [], s, s', ν, vs, es, h, R, he => by
    simp only [syIs, Option.some.injEq, Prod.mk.injEq] at h
    obtain ⟨rfl, rfl⟩ := h
    exact ⟨ν, [], rfl, R, he, rfl⟩
  | i :: is, s, s', ν, vs, es, h, R, he => by
    simp only [syIs, Option.bind_eq_some_iff, Option.map_eq_some_iff, Prod.mk.injEq] at h
    obtain ⟨⟨e1, s1⟩, h1, ⟨e2, s2⟩, h2, rfl, rfl⟩ := h
    simp only at h2 he ⊢
    rw [emT_append] at he
    obtain ⟨ν1, z1, h3, R1, he1, hd1⟩ := syVI_ok h1 R he
    rw [hd1] at he1
    obtain ⟨ν2, z2, h4, R2, he2, hd2⟩ := syIs_ok h2 R1 he1
    refine ⟨ν2, z1 ++ z2, by simp only [runIs, h3, Option.bind_some, h4], ?_, ?_, by rw [emD_append, hd1, hd2]⟩
    · simpa [List.reverse_append, List.append_assoc] using R2
    · simpa [List.reverse_append, List.append_assoc] using he2

/-! ### ends of ways -/
def lensOf (ν : Env) (J : List Nat) : List Nat := J.map fun p => (ν p).length
def valsOf (ν : Env) (J : List Nat) : List V := (J.map ν).flatten
theorem leaf_ok {J : List Nat} {lens : List Nat} {as : List SA} (h : leaf s J = some (lens, as)) (R : RelS ν s vs) : lens = lensOf ν J ∧ gets vs as = valsOf ν J := by
  simp only [leaf, Option.map_eq_some_iff, Prod.mk.injEq] at h
  obtain ⟨ass, h1, rfl, rfl⟩ := h
  have h2 : J.mapM (fun p => some (ν p)) = some (ass.map (List.map (SA.lv vs))) := mapM_map2 h1 fun p _ as hp _ => by rw [(R.pl p as hp).2]
  have e : ∀ l : List Nat, l.mapM (fun p => some (ν p)) = some (l.map ν) := fun l => by
    induction l with
    | nil => rfl
    | cons x l ih => simp [List.mapM_cons, ih]
  rw [e] at h2
  have h3 := Option.some.inj h2
  have hok : ∀ a ∈ ass.flatten, okA s.d a := fun a ha => by
    obtain ⟨as, h4, h5⟩ := List.mem_flatten.1 ha
    obtain ⟨p, _, hp⟩ := mapM_mem h1 as h4
    exact (R.pl p as hp).1 a h5
  refine ⟨?_, ?_⟩
  · have := congrArg (List.map List.length) h3
    simp only [List.map_map] at this
    unfold lensOf
    have e2 : (ass.map (List.length ∘ List.map (SA.lv vs))) = ass.map (·.length) := List.map_congr_left fun as _ => by simp
    rw [e2] at this
    exact this.symm
  · rw [ats_gets R.len hok, valsOf, h3, List.map_flatten]
theorem joinS_ok {W : List V} {D : Nat} : ∀ (J : List Nat) (lens : List Nat) (σ : List (Nat × List SA)) (d : Nat), lens = lensOf ν' J → (∀ p as, lkS σ p = some as → (∀ a ∈ as, okA D a) ∧ ν' p = as.map (SA.lv W)) →
    (∀ j m, j + m ≤ (valsOf ν' J).length → (∀ a ∈ fresh (d + j) m, okA D a) ∧ (fresh (d + j) m).map (SA.lv W) = ((valsOf ν' J).drop j).take m) → ∀ p as, lkS (joinS σ d J lens) p = some as → (∀ a ∈ as, okA D a) ∧ ν' p = as.map (SA.lv W)
  | [], lens, σ, d, hl, H, _ => by
    have : lens = [] := hl
    subst this
    exact H
  | p :: J, lens, σ, d, hl, H, hF => by
    have hl' : lens = (ν' p).length :: lensOf ν' J := hl
    subst hl'
    have hv : valsOf ν' (p :: J) = ν' p ++ valsOf ν' J := by simp [valsOf]
    rw [hv] at hF
    simp only [joinS]
    obtain ⟨h1, h2⟩ := hF 0 (ν' p).length (by simp)
    simp only [Nat.add_zero, List.drop_zero, List.take_left] at h1 h2
    refine joinS_ok J _ (stS σ p (fresh d (ν' p).length)) (d + (ν' p).length) rfl (fun q as hq => ?_) (fun j m hjm => ?_)
    · rw [lk_st] at hq
      split at hq
      · rename_i e
        subst e
        cases hq
        exact ⟨h1, h2.symm⟩
      · exact H q as hq
    · have := hF ((ν' p).length + j) m (by simp; omega)
      rw [Nat.add_assoc]
      refine ⟨this.1, ?_⟩
      rw [this.2, List.drop_append, List.drop_eq_nil_of_le (by omega)]
      simp
theorem total_eq : ∀ (J : List Nat), total (lensOf ν' J) = (valsOf ν' J).length
  | [] => rfl
  | p :: J => by
    have := total_eq J
    simp only [lensOf, valsOf, total, List.map_cons, List.foldr_cons, List.flatten_cons, List.length_append] at this ⊢
    rw [this]
theorem join_ok (R : RelS ν s vs) {wr J lens : List Nat} (hfr : ∀ p, p ∉ wr → ν' p = ν p) (hl : lens = lensOf ν' J) : RelS ν' (s.join wr J lens) ((valsOf ν' J).reverse ++ vs) := by
  have Rg := R.grow (valsOf ν' J)
  have ht : total lens = (valsOf ν' J).length := by rw [hl]; exact total_eq J
  refine ⟨by simp only [St.join, ht]; exact Rg.len, ?_, fun i hi => by simp only [St.join, ht]; exact Rg.df i hi⟩
  intro p as hp
  simp only [St.join, ht] at hp ⊢
  refine joinS_ok (W := (valsOf ν' J).reverse ++ vs) (D := s.d + (valsOf ν' J).length) J lens _ s.d hl (fun q bs hq => ?_) (fun j m hjm => fresh_ok R _ hjm) p as hp
  obtain ⟨h1, h2⟩ := lk_filter (f := fun p : Nat × List SA => !wr.contains p.1) (fun _ _ => rfl) hq
  obtain ⟨h3, h4⟩ := Rg.pl q bs h1
  refine ⟨h3, ?_⟩
  rw [hfr q (fun hm => by
    simp only [List.contains_iff_mem.2 hm] at h2
    cases h2)]
  exact h4
end
end Go.Proofs.YtogfkdpgkloljaaDoorVs
