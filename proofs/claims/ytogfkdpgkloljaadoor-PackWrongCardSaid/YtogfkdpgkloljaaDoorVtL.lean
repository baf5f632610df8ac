/-
  What a function's text answers, the function answers. Conditions: each lemma's own premises.
-/
import Derived.Test.YtogfkdpgkloljaaDoorVtK
set_option linter.unusedVariables false
set_option linter.unusedSimpArgs false
namespace Go.Proofs.YtogfkdpgkloljaaDoorVs
section
variable {Φ : Funs} {n : Nat} {ν ν' : Env} {s s' : St} {vs : List V} {t : Tm} {o : TO}
def SA.lv (vs : List V) : SA → V
  | .x i => vs.reverse.getD i .undef
  | .k v => v
def okA (d : Nat) : SA → Prop
  | .x i => i < d
  | .k _ => True
theorem at_get {d : Nat} {a : SA} (h : okA d a) (hl : vs.length = d) : (a.at d).get vs = a.lv vs := by
  cases a with
  | k v => rfl
  | x i =>
    have hi : i < d := h
    simp only [SA.at, SA.get, SA.lv, List.getD_eq_getElem?_getD]
    rw [List.getElem?_reverse (by omega), hl]
theorem lv_mono {d : Nat} {a : SA} (h : okA d a) (hl : vs.length = d) (zs : List V) : a.lv (zs.reverse ++ vs) = a.lv vs := by
  cases a with
  | k v => rfl
  | x i =>
    have hi : i < d := h
    simp only [SA.lv, List.getD_eq_getElem?_getD, List.reverse_append, List.reverse_reverse]
    rw [List.getElem?_append_left (by simpa [hl] using hi)]
theorem okA.mono {d d' : Nat} {a : SA} (h : okA d a) (hd : d ≤ d') : okA d' a := by
  cases a with
  | k v => trivial
  | x i => exact Nat.lt_of_lt_of_le h hd
theorem ats_gets {d : Nat} (hl : vs.length = d) : ∀ {as : List SA}, (∀ a ∈ as, okA d a) → gets vs (ats d as) = as.map (SA.lv vs)
  | [], _ => rfl
  | a :: as, h => by
    have h1 := at_get (h a (by simp)) hl
    have h2 := ats_gets hl (as := as) (fun b hb => h b (by simp [hb]))
    simp only [gets, ats, List.map_cons, List.map_map, h1] at h2 ⊢
    rw [h2]
structure RelS (ν : Env) (s : St) (vs : List V) : Prop where
  len : vs.length = s.d
  pl : ∀ p as, lkS s.σ p = some as → (∀ a ∈ as, okA s.d a) ∧ ν p = as.map (SA.lv vs)
  df : ∀ i ∈ s.df, i < s.d ∧ (SA.x i).lv vs ≠ .undef
theorem isDef_ok (R : RelS ν s vs) {a : SA} (h : isDefA s.df a = true) : a.lv vs ≠ .undef := by
  cases a with
  | k v =>
    cases v <;> first | (simp [isDefA] at h; done) | (simp [SA.lv])
  | x i => exact (R.df i (by simpa [isDefA] using h)).2
theorem lk_st : ∀ (σ : List (Nat × List SA)) (q : Nat) (bs : List SA) (p : Nat), lkS (stS σ q bs) p = if p = q then some bs else lkS σ p
  | [], q, bs, p => by
    simp only [stS, lkS]
    by_cases h : q = p
    · subst h; simp
    · rw [if_neg h, if_neg (fun e => h e.symm)]
  | (k, as) :: r, q, bs, p => by
    simp only [stS]
    by_cases h : k = q
    · subst h
      simp only [if_true, lkS]
      by_cases h2 : k = p
      · subst h2; simp
      · rw [if_neg h2, if_neg (fun e => h2 e.symm), if_neg h2]
    · simp only [h, if_false, lkS]
      by_cases h2 : k = p
      · subst h2; simp [h]
      · simp only [h2, if_false]; exact lk_st r q bs p
theorem lk_filter {f : Nat × List SA → Bool} {p : Nat} {as : List SA} : ∀ {σ : List (Nat × List SA)}, (∀ q bs, f (q, bs) = f (q, [])) → lkS (σ.filter f) p = some as → lkS σ p = some as ∧ f (p, []) = true
  | [], hf, h => by cases h
  | (q, bs) :: r, hf, h => by
    simp only [List.filter_cons] at h
    split at h
    · rename_i hq
      simp only [lkS] at h ⊢
      split at h
      · rename_i he
        subst he
        rw [if_pos rfl]; exact ⟨h, by rw [← hf q bs]; exact hq⟩
      · rename_i he
        rw [if_neg he]; exact lk_filter hf h
    · rename_i hq
      obtain ⟨h1, h2⟩ := lk_filter hf h
      refine ⟨?_, h2⟩
      simp only [lkS]
      split
      · rename_i he
        subst he
        rw [hf q bs] at hq
        exact absurd h2 (by simpa using hq)
      · exact h1

/-! ### what is emitted -/
def emD : List Em → Nat → Nat
  | [], d => d
  | .op1 _ _ :: r, d => emD r (d + 1)
  | .opn _ _ n :: r, d => emD r (d + n)
  | .call _ _ _ ps :: r, d => emD r (d + ps.length)
  | .chk _ _ :: r, d => emD r d
theorem emT_append : ∀ (es fs : List Em) (d : Nat) (t : Tm), emT (es ++ fs) d t = emT es d (emT fs (emD es d) t)
  | [], fs, d, t => rfl
  | .op1 f args :: r, fs, d, t => by simp [emT, emD, emT_append r]
  | .opn f args n :: r, fs, d, t => by simp [emT, emD, emT_append r]
  | .call f w ins ps :: r, fs, d, t => by simp [emT, emD, emT_append r]
  | .chk kd a :: r, fs, d, t => by simp [emT, emD, emT_append r]
theorem chkE_d (kd : Nat) (ok : SA → Bool) : ∀ (as : List SA) (d : Nat), emD (chkE kd ok as) d = d
  | [], d => rfl
  | a :: as, d => by
    simp only [chkE]
    split
    · exact chkE_d kd ok as d
    · simp only [emD]; exact chkE_d kd ok as d
theorem ndE_d : ∀ (as : List SA) (df : List Nat) (d : Nat), emD (ndE df as).1 d = d
  | [], df, d => rfl
  | a :: as, df, d => by
    simp only [ndE]
    split
    · exact ndE_d as df d
    · cases a <;> (simp only [emD]; exact ndE_d as _ d)
theorem chkE_ok {kd : Nat} {ok : SA → Bool} {G : V → Prop} (h1 : ∀ a, ok a = true → G (a.lv vs)) (h2 : ∀ v (r : TR), chkV kd v r = some o → r = some o ∧ G v) {d : Nat} (hl : vs.length = d) :
    ∀ {as : List SA} {t : Tm}, (∀ a ∈ as, okA d a) → (emT (chkE kd ok as) d t).eval Φ n vs = some o → t.eval Φ n vs = some o ∧ ∀ a ∈ as, G (a.lv vs)
  | [], t, _, h => ⟨h, by simp⟩
  | a :: as, t, ha, h => by
    simp only [chkE] at h
    split at h
    · rename_i hok
      obtain ⟨h3, h4⟩ := chkE_ok h1 h2 hl (fun b hb => ha b (by simp [hb])) h
      refine ⟨h3, fun b hb => ?_⟩
      rcases List.mem_cons.1 hb with rfl | hb
      · exact h1 _ hok
      · exact h4 b hb
    · simp only [emT, Tm.eval] at h
      obtain ⟨h5, h6⟩ := h2 _ _ h
      rw [at_get (ha a (by simp)) hl] at h6
      obtain ⟨h3, h4⟩ := chkE_ok h1 h2 hl (fun b hb => ha b (by simp [hb])) h5
      refine ⟨h3, fun b hb => ?_⟩
      rcases List.mem_cons.1 hb with rfl | hb
      · exact h6
      · exact h4 b hb
theorem chk0 (v : V) (r : TR) (h : chkV 0 v r = some o) : r = some o ∧ v = .unit := by
  unfold chkV at h
  split at h <;> simp_all
theorem chk1 (v : V) (r : TR) (h : chkV 1 v r = some o) : r = some o ∧ v = .bool true := by
  unfold chkV at h
  split at h <;> simp_all
theorem chk2 (v : V) (r : TR) (h : chkV 2 v r = some o) : r = some o ∧ v ≠ .undef := by
  unfold chkV at h
  split at h <;> simp_all
def DfOK (d : Nat) (vs : List V) (df : List Nat) : Prop := ∀ i ∈ df, i < d ∧ (SA.x i).lv vs ≠ .undef
theorem isDef_ok' {d : Nat} {df : List Nat} (R : DfOK d vs df) {a : SA} (h : isDefA df a = true) : a.lv vs ≠ .undef := by
  cases a with
  | k v => cases v <;> first | (simp [isDefA] at h; done) | (simp [SA.lv])
  | x i => exact (R i (by simpa [isDefA] using h)).2
theorem ndE_ok {d : Nat} (hl : vs.length = d) : ∀ {as : List SA} {df : List Nat} {t : Tm}, DfOK d vs df → (∀ a ∈ as, okA d a) → (emT (ndE df as).1 d t).eval Φ n vs = some o →
    t.eval Φ n vs = some o ∧ (∀ a ∈ as, a.lv vs ≠ .undef) ∧ DfOK d vs (ndE df as).2
  | [], df, t, hd, _, h => ⟨h, by simp, hd⟩
  | a :: as, df, t, hd, ha, h => by
    have hb : ∀ b ∈ as, okA d b := fun b hb => ha b (by simp [hb])
    simp only [ndE] at h ⊢
    by_cases hdef : isDefA df a = true
    · rw [if_pos hdef] at h ⊢
      obtain ⟨h1, h2, h3⟩ := ndE_ok hl hd hb h
      refine ⟨h1, fun b hb => ?_, h3⟩
      rcases List.mem_cons.1 hb with rfl | hb
      · exact isDef_ok' hd hdef
      · exact h2 b hb
    · rw [if_neg hdef] at h ⊢
      cases a with
      | x i =>
        simp only [emT, Tm.eval] at h
        obtain ⟨h5, h6⟩ := chk2 _ _ h
        rw [at_get (ha (.x i) (by simp)) hl] at h6
        have hd' : DfOK d vs (i :: df) := fun j hj => by
          rcases List.mem_cons.1 hj with rfl | hj
          · exact ⟨ha (.x j) (by simp), h6⟩
          · exact hd j hj
        obtain ⟨h1, h2, h3⟩ := ndE_ok hl hd' hb h5
        refine ⟨h1, fun b hb => ?_, h3⟩
        rcases List.mem_cons.1 hb with rfl | hb
        · exact h6
        · exact h2 b hb
      | k v =>
        simp only [emT, Tm.eval] at h
        obtain ⟨h5, h6⟩ := chk2 _ _ h
        obtain ⟨h1, h2, h3⟩ := ndE_ok hl hd hb h5
        refine ⟨h1, fun b hb => ?_, h3⟩
        rcases List.mem_cons.1 hb with rfl | hb
        · exact h6
        · exact h2 b hb

/-! ### an instruction -/
theorem mapM_mem {β γ : Type} {f : β → Option γ} : ∀ {l : List β} {r : List γ}, l.mapM f = some r → ∀ y ∈ r, ∃ x ∈ l, f x = some y
  | [], r, h => by simp only [List.mapM_nil] at h; cases h; simp
  | x :: l, r, h => by
    simp only [List.mapM_cons, Option.bind_eq_bind, Option.bind_eq_some_iff, Option.pure_def, Option.some.injEq] at h
    obtain ⟨y, hy, r', hr, rfl⟩ := h
    intro z hz
    rcases List.mem_cons.1 hz with rfl | hz
    · exact ⟨x, by simp, hy⟩
    · obtain ⟨u, hu, he⟩ := mapM_mem hr z hz
      exact ⟨u, by simp [hu], he⟩
theorem mapM_all {β γ : Type} {f : β → Option γ} : ∀ {l : List β} {r : List γ}, l.mapM f = some r → ∀ x ∈ l, ∃ y ∈ r, f x = some y
  | [], r, h => by simp
  | x :: l, r, h => by
    simp only [List.mapM_cons, Option.bind_eq_bind, Option.bind_eq_some_iff, Option.pure_def, Option.some.injEq] at h
    obtain ⟨y, hy, r', hr, rfl⟩ := h
    intro z hz
    rcases List.mem_cons.1 hz with rfl | hz
    · exact ⟨y, by simp, hy⟩
    · obtain ⟨u, hu, he⟩ := mapM_all hr z hz
      exact ⟨u, by simp [hu], he⟩
theorem mapM_map2 {β γ δ : Type} {f : β → Option γ} {g : β → Option δ} {h : γ → δ} : ∀ {l : List β} {r : List γ}, l.mapM f = some r → (∀ x ∈ l, ∀ y, f x = some y → y ∈ r → g x = some (h y)) → l.mapM g = some (r.map h)
  | [], r, e, _ => by simp only [List.mapM_nil] at e; cases e; rfl
  | x :: l, r, e, hg => by
    simp only [List.mapM_cons, Option.bind_eq_bind, Option.bind_eq_some_iff, Option.pure_def, Option.some.injEq] at e
    obtain ⟨y, hy, r', hr, rfl⟩ := e
    have h1 := hg x (by simp) y hy (by simp)
    have h2 := mapM_map2 (g := g) (h := h) hr (fun z hz u hu hm => hg z (by simp [hz]) u hu (by simp [hm]))
    simp only [List.mapM_cons, Option.bind_eq_bind, Option.bind_eq_some_iff, Option.pure_def, Option.some.injEq]
    exact ⟨_, h1, _, h2, rfl⟩
theorem cell_ok (R : RelS ν s vs) {p : Nat × Nat} {a : SA} (h : cell s.σ p = some a) : okA s.d a ∧ (ν p.1)[p.2]? = some (a.lv vs) := by
  simp only [cell, Option.bind_eq_some_iff] at h
  obtain ⟨as, h1, h2⟩ := h
  obtain ⟨h3, h4⟩ := R.pl _ _ h1
  refine ⟨h3 a (List.mem_of_getElem? h2), ?_⟩
  rw [h4, List.getElem?_map, h2]; rfl
theorem argS_ok (R : RelS ν s vs) {g : VArg} {as : List SA} (h : argS s.σ g = some as) : (∀ a ∈ as, okA s.d a) ∧ g.get ν = as.map (SA.lv vs) := by
  cases g with
  | c i => exact R.pl _ _ h
  | lit xs =>
    cases h
    refine ⟨fun a ha => by obtain ⟨v, _, rfl⟩ := List.mem_map.1 ha; trivial, ?_⟩
    simp [VArg.get, List.map_map, Function.comp_def, SA.lv]
theorem args_ok (R : RelS ν s vs) {rd : List VArg} {args : List (List SA)} (h : rd.mapM (argS s.σ) = some args) : (∀ as ∈ args, ∀ a ∈ as, okA s.d a) ∧ rd.map (VArg.get ν) = args.map (List.map (SA.lv vs)) := by
  refine ⟨fun as ha => by obtain ⟨g, _, hg⟩ := mapM_mem h as ha; exact (argS_ok R hg).1, ?_⟩
  have := mapM_map2 (g := fun g => some (VArg.get ν g)) (h := List.map (SA.lv vs)) h (fun g _ as hg _ => by rw [(argS_ok R hg).2])
  have e : ∀ l : List VArg, l.mapM (fun g => some (VArg.get ν g)) = some (l.map (VArg.get ν)) := fun l => by
    induction l with
    | nil => rfl
    | cons x l ih => simp [List.mapM_cons, ih]
  rw [e] at this
  exact Option.some.inj this
theorem pk_ok {args : List (List SA)} {p : Nat × Nat} {a : SA} (h : pkS args p = some a) (hn : a.lv vs ≠ .undef) : pk (args.map (List.map (SA.lv vs))) p = some (a.lv vs) := by
  simp only [pkS, Option.bind_eq_some_iff] at h
  obtain ⟨as, h1, h2⟩ := h
  have : (((args.map (List.map (SA.lv vs)))[p.1]?).bind (·[p.2]?)) = some (a.lv vs) := by
    rw [List.getElem?_map, h1]
    simp [h2]
  unfold pk
  rw [this]
  split
  · rename_i e; exact absurd (Option.some.inj e) hn
  · rfl
theorem pkS_mem {args : List (List SA)} {p : Nat × Nat} {a : SA} (h : pkS args p = some a) : ∃ as ∈ args, a ∈ as := by
  simp only [pkS, Option.bind_eq_some_iff] at h
  obtain ⟨as, h1, h2⟩ := h
  exact ⟨as, List.mem_of_getElem? h1, List.mem_of_getElem? h2⟩
theorem pks_ok {args : List (List SA)} {ps : List (Nat × Nat)} {as : List SA} (h : ps.mapM (pkS args) = some as) (hn : ∀ a ∈ as, a.lv vs ≠ .undef) : pks (args.map (List.map (SA.lv vs))) ps = some (as.map (SA.lv vs)) :=
  mapM_map2 h fun x _ a hx hm => pk_ok hx (hn a hm)
theorem pkss_ok {args : List (List SA)} {pss : List (List (Nat × Nat))} {outs : List (List SA)} (h : (pss.mapM fun (ps : List (Nat × Nat)) => ps.mapM (pkS args)) = some outs) (hn : ∀ a ∈ outs.flatten, a.lv vs ≠ .undef) :
    pss.mapM (pks (args.map (List.map (SA.lv vs)))) = some (outs.map (List.map (SA.lv vs))) :=
  mapM_map2 h fun x _ as hx hm => pks_ok hx fun a ha => hn a (List.mem_flatten.2 ⟨as, hm, ha⟩)
theorem pkss_okA {d : Nat} {args : List (List SA)} {pss : List (List (Nat × Nat))} {outs : List (List SA)} (h : (pss.mapM fun (ps : List (Nat × Nat)) => ps.mapM (pkS args)) = some outs) (ha : ∀ as ∈ args, ∀ a ∈ as, okA d a) : ∀ a ∈ outs.flatten, okA d a := by
  intro a hm
  obtain ⟨as, h1, h2⟩ := List.mem_flatten.1 hm
  obtain ⟨ps, _, h3⟩ := mapM_mem h as h1
  obtain ⟨p, _, h4⟩ := mapM_mem h3 a h2
  obtain ⟨bs, h5, h6⟩ := pkS_mem h4
  exact ha bs h5 a h6
theorem app_cur {m : Nat} {F : List V → TR} {zs : List V} (h : app m (cur m F) zs = some o) : zs.length = m ∧ F zs = some o := by
  induction m generalizing F zs with
  | zero => cases zs with
    | nil => exact ⟨rfl, h⟩
    | cons z zs =>
      have e : app 0 (cur 0 F) (z :: zs) = none := rfl
      rw [e] at h; cases h
  | succ m ih => cases zs with
    | nil =>
      have e : app (m + 1) (cur (m + 1) F) [] = none := rfl
      rw [e] at h; cases h
    | cons z zs =>
      have h' : app m (cur m fun l => F (z :: l)) zs = some o := h
      obtain ⟨h1, h2⟩ := ih h'
      exact ⟨by simp [h1], h2⟩
/-- places that are written -/
theorem RelS.sts (R : RelS ν s vs) : ∀ {ps : List Nat} {ass : List (List SA)} {σ : List (Nat × List SA)} {μ : Env}, ps.length = ass.length → (∀ as ∈ ass, ∀ a ∈ as, okA s.d a) → (∀ p as, lkS σ p = some as → (∀ a ∈ as, okA s.d a) ∧ μ p = as.map (SA.lv vs)) →
    ∀ p as, lkS (stSs σ ps ass) p = some as → (∀ a ∈ as, okA s.d a) ∧ (μ.upds ps (ass.map (List.map (SA.lv vs)))) p = as.map (SA.lv vs)
  | [], [], σ, μ, _, _, H => fun p as h => H p as h
  | [], _ :: _, _, _, h, _, _ => by simp at h
  | _ :: _, [], _, _, h, _, _ => by simp at h
  | q :: ps, bs :: ass, σ, μ, hl, ho, H => by
    simp only [stSs, List.map_cons, Env.upds]
    refine RelS.sts R (by simpa using hl) (fun as h => ho as (by simp [h])) (fun p as h => ?_)
    rw [lk_st] at h
    split at h
    · rename_i e
      subst e
      cases h
      exact ⟨ho bs (by simp), by rw [upd_same]⟩
    · rename_i e
      rw [upd_ne e]; exact H p as h
theorem RelS.grow (R : RelS ν s vs) (zs : List V) : RelS ν ⟨s.σ, s.d + zs.length, s.df⟩ (zs.reverse ++ vs) where
  len := by simp [R.len]; omega
  pl p as h := by
    obtain ⟨h1, h2⟩ := R.pl p as h
    refine ⟨fun a ha => (h1 a ha).mono (by simp), ?_⟩
    rw [h2]
    exact List.map_congr_left fun a ha => (lv_mono (h1 a ha) R.len zs).symm
  df i hi := by
    obtain ⟨h1, h2⟩ := R.df i hi
    exact ⟨by simp; omega, by rw [lv_mono (a := .x i) h1 R.len]; exact h2⟩
theorem fresh_ok (R : RelS ν s vs) (zs : List V) {j m : Nat} (h : j + m ≤ zs.length) : (∀ a ∈ fresh (s.d + j) m, okA (s.d + zs.length) a) ∧ (fresh (s.d + j) m).map (SA.lv (zs.reverse ++ vs)) = (zs.drop j).take m := by
  refine ⟨fun a ha => ?_, ?_⟩
  · obtain ⟨i, hi, rfl⟩ := List.mem_map.1 ha
    have := List.mem_range.1 hi
    show s.d + j + i < _
    omega
  · apply List.ext_getElem
    · simp [fresh]; omega
    · intro i h1 h2
      have hi : i < m := by simpa [fresh] using h1
      simp only [fresh, List.map_map, List.getElem_map, List.getElem_range, Function.comp, SA.lv, List.getD_eq_getElem?_getD, List.reverse_append, List.reverse_reverse, List.getElem_take, List.getElem_drop]
      rw [List.getElem?_append_right (by simp [R.len]; omega)]
      simp only [List.length_reverse, R.len]
      rw [show s.d + j + i - s.d = j + i by omega, List.getElem?_eq_getElem (by omega)]
      rfl
theorem vun_ne {op : UnOp} {x z : V} (h : vun op x = some z) : z ≠ .undef := by
  unfold vun at h
  split at h <;> first | (cases h; simp) | cases h
theorem vcmp_ne {op : BinOp} {x y : Int} {z : V} (h : vcmp op x y = some z) : z ≠ .undef := by
  unfold vcmp at h
  split at h <;> first | (cases h; simp) | cases h
theorem vbin_ne {op : BinOp} {c : Nat} {x y z : V} (h : vbin op c x y = some z) : z ≠ .undef := by
  unfold vbin at h
  split at h
  · split at h
    · unfold vshift at h
      split at h
      · cases h
      · split at h <;> first | (cases h; simp) | cases h
    · split at h
      · unfold vint at h
        split at h <;> first | (cases h; simp; done) | exact vcmp_ne h | (split at h <;> first | (cases h; simp; done) | cases h)
      · cases h
  · unfold vstr at h
    split at h <;> first | (cases h; simp; done) | cases h | (split at h <;> first | (cases h; simp; done) | cases h)
  all_goals (first | (cases h; done) | (split at h <;> first | (cases h; simp; done) | cases h))
theorem never_ok {f : VF} {args : List (List V)} {z : V} (hf : neverU f = true) (h : f.sem Φ args = some [[z]]) : z ≠ .undef := by
  unfold VF.sem at h
  split at h <;> first
    | (simp [neverU] at hf; done)
    | (cases h; done)
    | (cases h; simp; done)
    | skip
  all_goals (repeat' (first
    | (cases h; done)
    | (cases h; simp; done)
    | (simp only [Option.map_eq_some_iff, List.cons.injEq, and_true] at h; obtain ⟨y, hy, rfl⟩ := h; first | exact vun_ne hy | exact vbin_ne hy | (simp; done))
    | (simp only [Option.bind_eq_some_iff, Option.map_eq_some_iff, Option.some.injEq, List.cons.injEq, and_true] at h; obtain ⟨y, hy, y2, hy2, y3, hy3, rfl⟩ := h; simp; done)
    | split at h))
end
end Go.Proofs.YtogfkdpgkloljaaDoorVs
