/-
  Several texts in one: What a function's text answers, the function answers. Conditions: each lemma's own premises. | What a function's text answers, the function answers: instructions and regions. Conditions: each lemma's own premises. | What a function's text answers, the function answers: guards, regions, code. Conditions: each lemma's own premises. | A seat's functions, told: what the texts of a seat use. Conditions: each lemma's own premises. | A function that asks whether its slice is nil, and else begins (slices.Clone). Conditions: each lemma's own premises. | From a law's answer to its call. Conditions: each lemma's own premises. | Closed answers are reckoned out by the texts; slices.Clone. Conditions: each lemma's own premises.
-/
import Derived.Test.YtlhcgiegganbpaaDoorVM6
import Derived.Lib.LazyBuf
import Derived.Below
set_option linter.unusedVariables false
set_option linter.unusedSimpArgs false
namespace Go.Proofs.YtlhcgiegganbpaaDoorVs
section
variable {Φ : Funs} {n : Nat} {ν ν' : Env} {s s' : St} {vs : List V} {t : Tm} {o : TO}
def SA.lv (vs : List V) : SA → V
  | .x i => vs.reverse.getD i .undef
  | .k v => v
def okA (d : Nat) : SA → Prop
  | .x i => i < d
  | .k _ => True
theorem at_get {d : Nat} {a : SA} (h : okA d a) (hl : vs.length = d) : (a.at d).get vs = a.lv vs := by
  cases a with
  | k v => rfl
  | x i =>
    have hi : i < d := h
    simp only [SA.at, SA.get, SA.lv, List.getD_eq_getElem?_getD]
    rw [List.getElem?_reverse (by omega), hl]
theorem lv_mono {d : Nat} {a : SA} (h : okA d a) (hl : vs.length = d) (zs : List V) : a.lv (zs.reverse ++ vs) = a.lv vs := by
  cases a with
  | k v => rfl
  | x i =>
    have hi : i < d := h
    simp only [SA.lv, List.getD_eq_getElem?_getD, List.reverse_append, List.reverse_reverse]
    rw [List.getElem?_append_left (by simpa [hl] using hi)]
theorem okA.mono {d d' : Nat} {a : SA} (h : okA d a) (hd : d ≤ d') : okA d' a := by
  cases a with
  | k v => trivial
  | x i => exact Nat.lt_of_lt_of_le h hd
theorem ats_gets {d : Nat} (hl : vs.length = d) : ∀ {as : List SA}, (∀ a ∈ as, okA d a) → gets vs (ats d as) = as.map (SA.lv vs)
  | [], _ => rfl
  | a :: as, h => by
    have h1 := at_get (h a (by simp)) hl
    have h2 := ats_gets hl (as := as) (fun b hb => h b (by simp [hb]))
    simp only [gets, ats, List.map_cons, List.map_map, h1] at h2 ⊢
    rw [h2]
structure RelS (ν : Env) (s : St) (vs : List V) : Prop where
  len : vs.length = s.d
  pl : ∀ p as, lkS s.σ p = some as → (∀ a ∈ as, okA s.d a) ∧ ν p = as.map (SA.lv vs)
  df : ∀ i ∈ s.df, i < s.d ∧ (SA.x i).lv vs ≠ .undef
theorem isDef_ok (R : RelS ν s vs) {a : SA} (h : isDefA s.df a = true) : a.lv vs ≠ .undef := by
  cases a with
  | k v =>
    cases v <;> first | (simp [isDefA] at h; done) | (simp [SA.lv])
  | x i => exact (R.df i (by simpa [isDefA] using h)).2
theorem lk_st : ∀ (σ : List (Nat × List SA)) (q : Nat) (bs : List SA) (p : Nat), lkS (stS σ q bs) p = if p = q then some bs else lkS σ p
  | [], q, bs, p => by
    simp only [stS, lkS]
    by_cases h : q = p
    · subst h; simp
    · rw [if_neg h, if_neg (fun e => h e.symm)]
  | (k, as) :: r, q, bs, p => by
    simp only [stS]
    by_cases h : k = q
    · subst h
      simp only [if_true, lkS]
      by_cases h2 : k = p
      · subst h2; simp
      · rw [if_neg h2, if_neg (fun e => h2 e.symm), if_neg h2]
    · simp only [h, if_false, lkS]
      by_cases h2 : k = p
      · subst h2; simp [h]
      · simp only [h2, if_false]; exact lk_st r q bs p
theorem lk_filter {f : Nat × List SA → Bool} {p : Nat} {as : List SA} : ∀ {σ : List (Nat × List SA)}, (∀ q bs, f (q, bs) = f (q, [])) → lkS (σ.filter f) p = some as → lkS σ p = some as ∧ f (p, []) = true
  | [], hf, h => by cases h
  | (q, bs) :: r, hf, h => by
    simp only [List.filter_cons] at h
    split at h
    · rename_i hq
      simp only [lkS] at h ⊢
      split at h
      · rename_i he
        subst he
        rw [if_pos rfl]; exact ⟨h, by rw [← hf q bs]; exact hq⟩
      · rename_i he
        rw [if_neg he]; exact lk_filter hf h
    · rename_i hq
      obtain ⟨h1, h2⟩ := lk_filter hf h
      refine ⟨?_, h2⟩
      simp only [lkS]
      split
      · rename_i he
        subst he
        rw [hf q bs] at hq
        exact absurd h2 (by simpa using hq)
      · exact h1

/-! ### what is emitted -/
def emD : List Em → Nat → Nat
  | [], d => d
  | .op1 _ _ :: r, d => emD r (d + 1)
  | .opn _ _ n :: r, d => emD r (d + n)
  | .call _ _ _ ps :: r, d => emD r (d + ps.length)
  | .chk _ _ :: r, d => emD r d
theorem emT_append : ∀ (es fs : List Em) (d : Nat) (t : Tm), emT (es ++ fs) d t = emT es d (emT fs (emD es d) t)
  | [], fs, d, t => rfl
  | .op1 f args :: r, fs, d, t => by simp [emT, emD, emT_append r]
  | .opn f args n :: r, fs, d, t => by simp [emT, emD, emT_append r]
  | .call f w ins ps :: r, fs, d, t => by simp [emT, emD, emT_append r]
  | .chk kd a :: r, fs, d, t => by simp [emT, emD, emT_append r]
theorem chkE_d (kd : Nat) (ok : SA → Bool) : ∀ (as : List SA) (d : Nat), emD (chkE kd ok as) d = d
  | [], d => rfl
  | a :: as, d => by
    simp only [chkE]
    split
    · exact chkE_d kd ok as d
    · simp only [emD]; exact chkE_d kd ok as d
theorem ndE_d : ∀ (as : List SA) (df : List Nat) (d : Nat), emD (ndE df as).1 d = d
  | [], df, d => rfl
  | a :: as, df, d => by
    simp only [ndE]
    split
    · exact ndE_d as df d
    · cases a <;> (simp only [emD]; exact ndE_d as _ d)
theorem chkE_ok {kd : Nat} {ok : SA → Bool} {G : V → Prop} (h1 : ∀ a, ok a = true → G (a.lv vs)) (h2 : ∀ v (r : TR), chkV kd v r = some o → r = some o ∧ G v) {d : Nat} (hl : vs.length = d) :
    ∀ {as : List SA} {t : Tm}, (∀ a ∈ as, okA d a) → (emT (chkE kd ok as) d t).eval Φ n vs = some o → t.eval Φ n vs = some o ∧ ∀ a ∈ as, G (a.lv vs)
  | [], t, _, h => ⟨h, by simp⟩
  | a :: as, t, ha, h => by
    simp only [chkE] at h
    split at h
    · rename_i hok
      obtain ⟨h3, h4⟩ := chkE_ok h1 h2 hl (fun b hb => ha b (by simp [hb])) h
      refine ⟨h3, fun b hb => ?_⟩
      rcases List.mem_cons.1 hb with rfl | hb
      · exact h1 _ hok
      · exact h4 b hb
    · simp only [emT, Tm.eval] at h
      obtain ⟨h5, h6⟩ := h2 _ _ h
      rw [at_get (ha a (by simp)) hl] at h6
      obtain ⟨h3, h4⟩ := chkE_ok h1 h2 hl (fun b hb => ha b (by simp [hb])) h5
      refine ⟨h3, fun b hb => ?_⟩
      rcases List.mem_cons.1 hb with rfl | hb
      · exact h6
      · exact h4 b hb
theorem chk0 (v : V) (r : TR) (h : chkV 0 v r = some o) : r = some o ∧ v = .unit := by
  unfold chkV at h
  split at h <;> simp_all
theorem chk1 (v : V) (r : TR) (h : chkV 1 v r = some o) : r = some o ∧ v = .bool true := by
  unfold chkV at h
  split at h <;> simp_all
theorem chk2 (v : V) (r : TR) (h : chkV 2 v r = some o) : r = some o ∧ v ≠ .undef := by
  unfold chkV at h
  split at h <;> simp_all
def DfOK (d : Nat) (vs : List V) (df : List Nat) : Prop := ∀ i ∈ df, i < d ∧ (SA.x i).lv vs ≠ .undef
theorem isDef_ok' {d : Nat} {df : List Nat} (R : DfOK d vs df) {a : SA} (h : isDefA df a = true) : a.lv vs ≠ .undef := by
  cases a with
  | k v => cases v <;> first | (simp [isDefA] at h; done) | (simp [SA.lv])
  | x i => exact (R i (by simpa [isDefA] using h)).2
theorem ndE_ok {d : Nat} (hl : vs.length = d) : ∀ {as : List SA} {df : List Nat} {t : Tm}, DfOK d vs df → (∀ a ∈ as, okA d a) → (emT (ndE df as).1 d t).eval Φ n vs = some o →
    t.eval Φ n vs = some o ∧ (∀ a ∈ as, a.lv vs ≠ .undef) ∧ DfOK d vs (ndE df as).2
  | [], df, t, hd, _, h => ⟨h, by simp, hd⟩
  | a :: as, df, t, hd, ha, h => by
    have hb : ∀ b ∈ as, okA d b := fun b hb => ha b (by simp [hb])
    simp only [ndE] at h ⊢
    by_cases hdef : isDefA df a = true
    · rw [if_pos hdef] at h ⊢
      obtain ⟨h1, h2, h3⟩ := ndE_ok hl hd hb h
      refine ⟨h1, fun b hb => ?_, h3⟩
      rcases List.mem_cons.1 hb with rfl | hb
      · exact isDef_ok' hd hdef
      · exact h2 b hb
    · rw [if_neg hdef] at h ⊢
      cases a with
      | x i =>
        simp only [emT, Tm.eval] at h
        obtain ⟨h5, h6⟩ := chk2 _ _ h
        rw [at_get (ha (.x i) (by simp)) hl] at h6
        have hd' : DfOK d vs (i :: df) := fun j hj => by
          rcases List.mem_cons.1 hj with rfl | hj
          · exact ⟨ha (.x j) (by simp), h6⟩
          · exact hd j hj
        obtain ⟨h1, h2, h3⟩ := ndE_ok hl hd' hb h5
        refine ⟨h1, fun b hb => ?_, h3⟩
        rcases List.mem_cons.1 hb with rfl | hb
        · exact h6
        · exact h2 b hb
      | k v =>
        simp only [emT, Tm.eval] at h
        obtain ⟨h5, h6⟩ := chk2 _ _ h
        obtain ⟨h1, h2, h3⟩ := ndE_ok hl hd hb h5
        refine ⟨h1, fun b hb => ?_, h3⟩
        rcases List.mem_cons.1 hb with rfl | hb
        · exact h6
        · exact h2 b hb

/-! ### an instruction -/
theorem mapM_mem {β γ : Type} {f : β → Option γ} : ∀ {l : List β} {r : List γ}, l.mapM f = some r → ∀ y ∈ r, ∃ x ∈ l, f x = some y
  | [], r, h => by simp only [List.mapM_nil] at h; cases h; simp
  | x :: l, r, h => by
    simp only [List.mapM_cons, Option.bind_eq_bind, Option.bind_eq_some_iff, Option.pure_def, Option.some.injEq] at h
    obtain ⟨y, hy, r', hr, rfl⟩ := h
    intro z hz
    rcases List.mem_cons.1 hz with rfl | hz
    · exact ⟨x, by simp, hy⟩
    · obtain ⟨u, hu, he⟩ := mapM_mem hr z hz
      exact ⟨u, by simp [hu], he⟩
theorem mapM_all {β γ : Type} {f : β → Option γ} : ∀ {l : List β} {r : List γ}, l.mapM f = some r → ∀ x ∈ l, ∃ y ∈ r, f x = some y
  | [], r, h => by simp
  | x :: l, r, h => by
    simp only [List.mapM_cons, Option.bind_eq_bind, Option.bind_eq_some_iff, Option.pure_def, Option.some.injEq] at h
    obtain ⟨y, hy, r', hr, rfl⟩ := h
    intro z hz
    rcases List.mem_cons.1 hz with rfl | hz
    · exact ⟨y, by simp, hy⟩
    · obtain ⟨u, hu, he⟩ := mapM_all hr z hz
      exact ⟨u, by simp [hu], he⟩
theorem mapM_map2 {β γ δ : Type} {f : β → Option γ} {g : β → Option δ} {h : γ → δ} : ∀ {l : List β} {r : List γ}, l.mapM f = some r → (∀ x ∈ l, ∀ y, f x = some y → y ∈ r → g x = some (h y)) → l.mapM g = some (r.map h)
  | [], r, e, _ => by simp only [List.mapM_nil] at e; cases e; rfl
  | x :: l, r, e, hg => by
    simp only [List.mapM_cons, Option.bind_eq_bind, Option.bind_eq_some_iff, Option.pure_def, Option.some.injEq] at e
    obtain ⟨y, hy, r', hr, rfl⟩ := e
    have h1 := hg x (by simp) y hy (by simp)
    have h2 := mapM_map2 (g := g) (h := h) hr (fun z hz u hu hm => hg z (by simp [hz]) u hu (by simp [hm]))
    simp only [List.mapM_cons, Option.bind_eq_bind, Option.bind_eq_some_iff, Option.pure_def, Option.some.injEq]
    exact ⟨_, h1, _, h2, rfl⟩
theorem cell_ok (R : RelS ν s vs) {p : Nat × Nat} {a : SA} (h : cell s.σ p = some a) : okA s.d a ∧ (ν p.1)[p.2]? = some (a.lv vs) := by
  simp only [cell, Option.bind_eq_some_iff] at h
  obtain ⟨as, h1, h2⟩ := h
  obtain ⟨h3, h4⟩ := R.pl _ _ h1
  refine ⟨h3 a (List.mem_of_getElem? h2), ?_⟩
  rw [h4, List.getElem?_map, h2]; rfl
theorem argS_ok (R : RelS ν s vs) {g : VArg} {as : List SA} (h : argS s.σ g = some as) : (∀ a ∈ as, okA s.d a) ∧ g.get ν = as.map (SA.lv vs) := by
  cases g with
  | c i => exact R.pl _ _ h
  | lit xs =>
    cases h
    refine ⟨fun a ha => by obtain ⟨v, _, rfl⟩ := List.mem_map.1 ha; trivial, ?_⟩
    simp [VArg.get, List.map_map, Function.comp_def, SA.lv]
theorem args_ok (R : RelS ν s vs) {rd : List VArg} {args : List (List SA)} (h : rd.mapM (argS s.σ) = some args) : (∀ as ∈ args, ∀ a ∈ as, okA s.d a) ∧ rd.map (VArg.get ν) = args.map (List.map (SA.lv vs)) := by
  refine ⟨fun as ha => by obtain ⟨g, _, hg⟩ := mapM_mem h as ha; exact (argS_ok R hg).1, ?_⟩
  have := mapM_map2 (g := fun g => some (VArg.get ν g)) (h := List.map (SA.lv vs)) h (fun g _ as hg _ => by rw [(argS_ok R hg).2])
  have e : ∀ l : List VArg, l.mapM (fun g => some (VArg.get ν g)) = some (l.map (VArg.get ν)) := fun l => by
    induction l with
    | nil => rfl
    | cons x l ih => simp [List.mapM_cons, ih]
  rw [e] at this
  exact Option.some.inj this
theorem pk_ok {args : List (List SA)} {p : Nat × Nat} {a : SA} (h : pkS args p = some a) (hn : a.lv vs ≠ .undef) : pk (args.map (List.map (SA.lv vs))) p = some (a.lv vs) := by
  simp only [pkS, Option.bind_eq_some_iff] at h
  obtain ⟨as, h1, h2⟩ := h
  have : (((args.map (List.map (SA.lv vs)))[p.1]?).bind (·[p.2]?)) = some (a.lv vs) := by
    rw [List.getElem?_map, h1]
    simp [h2]
  unfold pk
  rw [this]
  split
  · rename_i e; exact absurd (Option.some.inj e) hn
  · rfl
theorem pkS_mem {args : List (List SA)} {p : Nat × Nat} {a : SA} (h : pkS args p = some a) : ∃ as ∈ args, a ∈ as := by
  simp only [pkS, Option.bind_eq_some_iff] at h
  obtain ⟨as, h1, h2⟩ := h
  exact ⟨as, List.mem_of_getElem? h1, List.mem_of_getElem? h2⟩
theorem pks_ok {args : List (List SA)} {ps : List (Nat × Nat)} {as : List SA} (h : ps.mapM (pkS args) = some as) (hn : ∀ a ∈ as, a.lv vs ≠ .undef) : pks (args.map (List.map (SA.lv vs))) ps = some (as.map (SA.lv vs)) :=
  mapM_map2 h fun x _ a hx hm => pk_ok hx (hn a hm)
theorem pkss_ok {args : List (List SA)} {pss : List (List (Nat × Nat))} {outs : List (List SA)} (h : (pss.mapM fun (ps : List (Nat × Nat)) => ps.mapM (pkS args)) = some outs) (hn : ∀ a ∈ outs.flatten, a.lv vs ≠ .undef) :
    pss.mapM (pks (args.map (List.map (SA.lv vs)))) = some (outs.map (List.map (SA.lv vs))) :=
  mapM_map2 h fun x _ as hx hm => pks_ok hx fun a ha => hn a (List.mem_flatten.2 ⟨as, hm, ha⟩)
theorem pkss_okA {d : Nat} {args : List (List SA)} {pss : List (List (Nat × Nat))} {outs : List (List SA)} (h : (pss.mapM fun (ps : List (Nat × Nat)) => ps.mapM (pkS args)) = some outs) (ha : ∀ as ∈ args, ∀ a ∈ as, okA d a) : ∀ a ∈ outs.flatten, okA d a := by
  intro a hm
  obtain ⟨as, h1, h2⟩ := List.mem_flatten.1 hm
  obtain ⟨ps, _, h3⟩ := mapM_mem h as h1
  obtain ⟨p, _, h4⟩ := mapM_mem h3 a h2
  obtain ⟨bs, h5, h6⟩ := pkS_mem h4
  exact ha bs h5 a h6
theorem app_cur {m : Nat} {F : List V → TR} {zs : List V} (h : app m (cur m F) zs = some o) : zs.length = m ∧ F zs = some o := by
  induction m generalizing F zs with
  | zero => cases zs with
    | nil => exact ⟨rfl, h⟩
    | cons z zs =>
      have e : app 0 (cur 0 F) (z :: zs) = none := rfl
      rw [e] at h; cases h
  | succ m ih => cases zs with
    | nil =>
      have e : app (m + 1) (cur (m + 1) F) [] = none := rfl
      rw [e] at h; cases h
    | cons z zs =>
      have h' : app m (cur m fun l => F (z :: l)) zs = some o := h
      obtain ⟨h1, h2⟩ := ih h'
      exact ⟨by simp [h1], h2⟩
/-- places that are written -/
theorem RelS.sts (R : RelS ν s vs) : ∀ {ps : List Nat} {ass : List (List SA)} {σ : List (Nat × List SA)} {μ : Env}, ps.length = ass.length → (∀ as ∈ ass, ∀ a ∈ as, okA s.d a) → (∀ p as, lkS σ p = some as → (∀ a ∈ as, okA s.d a) ∧ μ p = as.map (SA.lv vs)) →
    ∀ p as, lkS (stSs σ ps ass) p = some as → (∀ a ∈ as, okA s.d a) ∧ (μ.upds ps (ass.map (List.map (SA.lv vs)))) p = as.map (SA.lv vs)
  | [], [], σ, μ, _, _, H => fun p as h => H p as h
  | [], _ :: _, _, _, h, _, _ => by simp at h
  | _ :: _, [], _, _, h, _, _ => by simp at h
  | q :: ps, bs :: ass, σ, μ, hl, ho, H => by
    simp only [stSs, List.map_cons, Env.upds]
    refine RelS.sts R (by simpa using hl) (fun as h => ho as (by simp [h])) (fun p as h => ?_)
    rw [lk_st] at h
    split at h
    · rename_i e
      subst e
      cases h
      exact ⟨ho bs (by simp), by rw [upd_same]⟩
    · rename_i e
      rw [upd_ne e]; exact H p as h
theorem RelS.grow (R : RelS ν s vs) (zs : List V) : RelS ν ⟨s.σ, s.d + zs.length, s.df⟩ (zs.reverse ++ vs) where
  len := by simp [R.len]; omega
  pl p as h := by
    obtain ⟨h1, h2⟩ := R.pl p as h
    refine ⟨fun a ha => (h1 a ha).mono (by simp), ?_⟩
    rw [h2]
    exact List.map_congr_left fun a ha => (lv_mono (h1 a ha) R.len zs).symm
  df i hi := by
    obtain ⟨h1, h2⟩ := R.df i hi
    exact ⟨by simp; omega, by rw [lv_mono (a := .x i) h1 R.len]; exact h2⟩
theorem fresh_ok (R : RelS ν s vs) (zs : List V) {j m : Nat} (h : j + m ≤ zs.length) : (∀ a ∈ fresh (s.d + j) m, okA (s.d + zs.length) a) ∧ (fresh (s.d + j) m).map (SA.lv (zs.reverse ++ vs)) = (zs.drop j).take m := by
  refine ⟨fun a ha => ?_, ?_⟩
  · obtain ⟨i, hi, rfl⟩ := List.mem_map.1 ha
    have := List.mem_range.1 hi
    show s.d + j + i < _
    omega
  · apply List.ext_getElem
    · simp [fresh]; omega
    · intro i h1 h2
      have hi : i < m := by simpa [fresh] using h1
      simp only [fresh, List.map_map, List.getElem_map, List.getElem_range, Function.comp, SA.lv, List.getD_eq_getElem?_getD, List.reverse_append, List.reverse_reverse, List.getElem_take, List.getElem_drop]
      rw [List.getElem?_append_right (by simp [R.len]; omega)]
      simp only [List.length_reverse, R.len]
      rw [show s.d + j + i - s.d = j + i by omega, List.getElem?_eq_getElem (by omega)]
      rfl
theorem vun_ne {op : UnOp} {x z : V} (h : vun op x = some z) : z ≠ .undef := by
  unfold vun at h
  split at h <;> first | (cases h; simp) | cases h
theorem vcmp_ne {op : BinOp} {x y : Int} {z : V} (h : vcmp op x y = some z) : z ≠ .undef := by
  unfold vcmp at h
  split at h <;> first | (cases h; simp) | cases h
theorem vbin_ne {op : BinOp} {c : Nat} {x y z : V} (h : vbin op c x y = some z) : z ≠ .undef := by
  unfold vbin at h
  split at h
  · split at h
    · unfold vshift at h
      split at h
      · cases h
      · split at h <;> first | (cases h; simp) | cases h
    · split at h
      · unfold vint at h
        split at h <;> first | (cases h; simp; done) | exact vcmp_ne h | (split at h <;> first | (cases h; simp; done) | cases h)
      · cases h
  · unfold vstr at h
    split at h <;> first | (cases h; simp; done) | cases h | (split at h <;> first | (cases h; simp; done) | cases h)
  all_goals (first | (cases h; done) | (split at h <;> first | (cases h; simp; done) | cases h))
theorem never_ok {f : VF} {args : List (List V)} {z : V} (hf : neverU f = true) (h : f.sem Φ args = some [[z]]) : z ≠ .undef := by
  unfold VF.sem at h
  split at h <;> first
    | (simp [neverU] at hf; done)
    | (cases h; done)
    | (cases h; simp; done)
    | skip
  all_goals (repeat' (first
    | (cases h; done)
    | (cases h; simp; done)
    | (simp only [Option.map_eq_some_iff, List.cons.injEq, and_true] at h; obtain ⟨y, hy, rfl⟩ := h; first | exact vun_ne hy | exact vbin_ne hy | (simp; done))
    | (simp only [Option.bind_eq_some_iff, Option.map_eq_some_iff, Option.some.injEq, List.cons.injEq, and_true] at h; obtain ⟨y, hy, y2, hy2, y3, hy3, rfl⟩ := h; simp; done)
    | split at h))
end
end Go.Proofs.YtlhcgiegganbpaaDoorVs
set_option linter.unusedVariables false
set_option linter.unusedSimpArgs false
namespace Go.Proofs.YtlhcgiegganbpaaDoorVs
section
variable {Φ : Funs} {n : Nat} {ν ν' : Env} {s s' : St} {vs : List V} {t : Tm} {o : TO}
theorem pk_nd {args : List (List V)} {p : Nat × Nat} {z : V} (h : pk args p = some z) : z ≠ .undef := by
  unfold pk at h
  split at h
  · cases h
  · rename_i hn
    rintro rfl
    exact hn h
theorem mapM_append' {β γ : Type} {f : β → Option γ} : ∀ {l m : List β} {r : List γ}, (l ++ m).mapM f = some r → ∃ r1 r2, r = r1 ++ r2 ∧ l.mapM f = some r1 ∧ m.mapM f = some r2
  | [], m, r, h => ⟨[], r, rfl, rfl, h⟩
  | x :: l, m, r, h => by
    simp only [List.cons_append, List.mapM_cons, Option.bind_eq_bind, Option.bind_eq_some_iff, Option.pure_def, Option.some.injEq] at h
    obtain ⟨y, hy, r', hr, rfl⟩ := h
    obtain ⟨r1, r2, rfl, h1, h2⟩ := mapM_append' hr
    exact ⟨y :: r1, r2, rfl, by simp [List.mapM_cons, hy, h1], h2⟩
theorem outAs_ok {raw : List (List V)} {d : Nat} {W : List V} : ∀ (l : List (Option (Nat × Nat))) (j : Nat) (zs : List V), (l.filterMap id).mapM (pk raw) = some zs → (∀ i (h : i < zs.length), (SA.x (d + (j + i))).lv W = zs[i]) →
    outV raw l = some ((outAs d j l).1.map (SA.lv W)) ∧ (outAs d j l).2 = j + zs.length
  | [], j, zs, h, _ => by simp only [List.filterMap_nil, List.mapM_nil] at h; cases h; exact ⟨rfl, rfl⟩
  | none :: l, j, zs, h, H => by
    obtain ⟨h1, h2⟩ := outAs_ok l j zs (by simpa using h) H
    refine ⟨?_, h2⟩
    simp only [outV] at h1 ⊢
    simp [List.mapM_cons, outV1, h1, outAs, SA.lv]
  | some q :: l, j, zs, h, H => by
    simp only [List.filterMap_cons, id, List.mapM_cons, Option.bind_eq_bind, Option.bind_eq_some_iff, Option.pure_def, Option.some.injEq] at h
    obtain ⟨y, hy, r', hr, rfl⟩ := h
    obtain ⟨h1, h2⟩ := outAs_ok l (j + 1) r' hr (fun i hi => by
      have := H (i + 1) (by simpa using hi)
      rw [show j + 1 + i = j + (i + 1) by omega]
      simpa using this)
    have h0 := H 0 (by simp)
    simp only [Nat.add_zero, List.getElem_cons_zero] at h0
    refine ⟨?_, by simp only [outAs, h2, List.length_cons]; omega⟩
    simp only [outV] at h1 ⊢
    simp [List.mapM_cons, outV1, hy, h1, outAs, h0]
theorem outAss_ok {raw : List (List V)} {d : Nat} {W : List V} : ∀ (outs : List (List (Option (Nat × Nat)))) (j : Nat) (zs : List V), (outs.flatten.filterMap id).mapM (pk raw) = some zs → (∀ i (h : i < zs.length), (SA.x (d + (j + i))).lv W = zs[i]) →
    outs.mapM (outV raw) = some ((outAss d j outs).map (List.map (SA.lv W)))
  | [], j, zs, h, _ => rfl
  | l :: r, j, zs, h, H => by
    rw [List.flatten_cons, List.filterMap_append] at h
    obtain ⟨z1, z2, rfl, h1, h2⟩ := mapM_append' h
    obtain ⟨h3, h4⟩ := outAs_ok l j z1 h1 (fun i hi => by
      have := H i (by simp; omega)
      rw [this, List.getElem_append_left hi])
    have h5 := outAss_ok r (j + z1.length) z2 h2 (fun i hi => by
      have := H (z1.length + i) (by simp; omega)
      rw [show j + z1.length + i = j + (z1.length + i) by omega, this, List.getElem_append_right (by omega)]
      simp)
    simp only [outAss, List.mapM_cons, h3, h4, h5, List.map_cons]
    rfl
theorem outAss_len (d : Nat) : ∀ (outs : List (List (Option (Nat × Nat)))) (j : Nat), (outAss d j outs).length = outs.length
  | [], j => rfl
  | l :: r, j => by simp [outAss, outAss_len d r]
theorem outAs_okA (d : Nat) : ∀ (l : List (Option (Nat × Nat))) (j m : Nat), j + (l.filterMap id).length ≤ m → (∀ a ∈ (outAs d j l).1, okA (d + m) a) ∧ (outAs d j l).2 = j + (l.filterMap id).length
  | [], j, m, h => ⟨fun a ha => by simp [outAs] at ha, by simp [outAs]⟩
  | none :: l, j, m, h => by
    obtain ⟨h1, h2⟩ := outAs_okA d l j m (by simpa using h)
    refine ⟨fun a ha => ?_, by simpa [outAs] using h2⟩
    simp only [outAs, List.mem_cons] at ha
    rcases ha with rfl | ha
    · trivial
    · exact h1 a ha
  | some q :: l, j, m, h => by
    have h' : j + (l.filterMap id).length + 1 ≤ m := by simpa [Nat.add_assoc] using h
    obtain ⟨h1, h2⟩ := outAs_okA d l (j + 1) m (by omega)
    refine ⟨fun a ha => ?_, by simp only [outAs, h2, List.filterMap_cons, id, List.length_cons]; omega⟩
    simp only [outAs, List.mem_cons] at ha
    rcases ha with rfl | ha
    · show d + j < d + m
      omega
    · exact h1 a ha
theorem outAss_okA (d : Nat) : ∀ (outs : List (List (Option (Nat × Nat)))) (j m : Nat), j + (outs.flatten.filterMap id).length ≤ m → ∀ as ∈ outAss d j outs, ∀ a ∈ as, okA (d + m) a
  | [], j, m, h => by simp [outAss]
  | l :: r, j, m, h => by
    rw [List.flatten_cons, List.filterMap_append, List.length_append] at h
    obtain ⟨h1, h2⟩ := outAs_okA d l j m (by omega)
    intro as ha
    simp only [outAss, List.mem_cons] at ha
    rcases ha with rfl | ha
    · exact h1
    · exact outAss_okA d r _ m (by rw [h2]; omega) as ha
theorem argsV {d : Nat} (hl : vs.length = d) {args : List (List SA)} (h : ∀ as ∈ args, ∀ a ∈ as, okA d a) : (args.map (ats d)).map (gets vs) = args.map (List.map (SA.lv vs)) := by
  rw [List.map_map]
  exact List.map_congr_left fun as ha => ats_gets hl (h as ha)
theorem flat_okA {d : Nat} {xss : List (List SA)} (h : ∀ a ∈ xss.flatten, okA d a) : ∀ as ∈ xss, ∀ a ∈ as, okA d a := fun as h1 a h2 => h a (List.mem_flatten.2 ⟨as, h1, h2⟩)
theorem pre_ok {i : VI} {cu ct cd : List SA} (hcu : i.chk.mapM (cell s.σ) = some cu) (hct : i.asr.mapM (cell s.σ) = some ct) (hcd : i.dfn.mapM (cell s.σ) = some cd) (R : RelS ν s vs) {rest : List Em}
    (h : (emT ((chkE 0 isUnitA cu ++ chkE 1 isTrueA ct) ++ ((ndE s.df cd).1 ++ rest)) s.d t).eval Φ n vs = some o) :
    (emT rest s.d t).eval Φ n vs = some o ∧ ((i.chk.all (unitAt ν) = true ∧ i.asr.all (trueAt ν) = true) ∧ i.dfn.all (defAt ν) = true) ∧ DfOK s.d vs (ndE s.df cd).2 := by
  have hok : ∀ {l : List (Nat × Nat)} {as : List SA}, l.mapM (cell s.σ) = some as → ∀ a ∈ as, okA s.d a := fun hl a ha => by
    obtain ⟨p, _, hp⟩ := mapM_mem hl a ha
    exact (cell_ok R hp).1
  rw [List.append_assoc, emT_append, chkE_d] at h
  obtain ⟨h1, h2⟩ := chkE_ok (G := fun v => v = .unit) (fun a ha => by cases a <;> (try cases ‹V›) <;> simp_all [isUnitA, SA.lv]) chk0 R.len (hok hcu) h
  rw [emT_append, chkE_d] at h1
  obtain ⟨h3, h4⟩ := chkE_ok (G := fun v => v = .bool true) (fun a ha => by
    unfold isTrueA at ha
    split at ha
    · rfl
    · cases ha) chk1 R.len (hok hct) h1
  rw [emT_append, ndE_d] at h3
  obtain ⟨h5, h6, h7⟩ := ndE_ok R.len R.df (hok hcd) h3
  refine ⟨h5, ⟨⟨List.all_eq_true.2 fun p hp => ?_, List.all_eq_true.2 fun p hp => ?_⟩, List.all_eq_true.2 fun p hp => ?_⟩, h7⟩
  · obtain ⟨a, ha, hc⟩ := mapM_all hcu p hp
    unfold unitAt
    rw [(cell_ok R hc).2, h2 a ha]
  · obtain ⟨a, ha, hc⟩ := mapM_all hct p hp
    unfold trueAt
    rw [(cell_ok R hc).2, h4 a ha]
  · obtain ⟨a, ha, hc⟩ := mapM_all hcd p hp
    have h8 := h6 a ha
    unfold defAt
    rw [(cell_ok R hc).2]
    split <;> simp_all
theorem syVI_ok {i : VI} {es : List Em} (h : syVI i s = some (es, s')) (R : RelS ν s vs) (he : (emT es s.d t).eval Φ n vs = some o) :
    ∃ (ν' : Env) (zs : List V), i.run Φ ν = some ν' ∧ RelS ν' s' (zs.reverse ++ vs) ∧ t.eval Φ n (zs.reverse ++ vs) = some o ∧ emD es s.d = s'.d := by
  simp only [syVI, Option.bind_eq_some_iff] at h
  obtain ⟨cu, hcu, ct, hct, cd, hcd, args, hargs, h⟩ := h
  obtain ⟨hao, hav⟩ := args_ok R hargs
  have hemD : ∀ r : List Em, emD ((chkE 0 isUnitA cu ++ chkE 1 isTrueA ct) ++ ((ndE s.df cd).1 ++ r)) s.d = emD r s.d := by
    have app : ∀ (a b : List Em) (d : Nat), emD (a ++ b) d = emD b (emD a d) := by
      intro a
      induction a with
      | nil => intro b d; rfl
      | cons e a ih => intro b d; cases e <;> simp [emD, ih]
    intro r
    rw [app, app, app, chkE_d, chkE_d, ndE_d]
  have hemA : ∀ (a b : List Em) (d : Nat), emD (a ++ b) d = emD b (emD a d) := by
    intro a
    induction a with
    | nil => intro b d; rfl
    | cons e a ih => intro b d; cases e <;> simp [emD, ih]
  split at h
  · -- gather
    rename_i pss hf
    simp only [Option.bind_eq_some_iff] at h
    obtain ⟨outs, houts, h⟩ := h
    split at h
    · rename_i hlen
      cases h
      obtain ⟨h1, hc, hd⟩ := pre_ok hcu hct hcd R (rest := (ndE (ndE s.df cd).2 outs.flatten).1) he
      have hoo := pkss_okA houts hao
      obtain ⟨h2, h3, h4⟩ := ndE_ok R.len hd hoo h1
      refine ⟨ν.upds i.wr (outs.map (List.map (SA.lv vs))), [], ?_, ⟨R.len, RelS.sts R (by simpa using hlen.symm) (flat_okA hoo) R.pl, h4⟩, h2, by rw [hemD, ndE_d]⟩
      unfold VI.run
      rw [if_pos hc, hf, hav]
      simp only [VF.sem, pkss_ok houts h3, Option.bind_some, List.length_map, if_pos hlen]
    · cases h
  · -- call
    rename_i f w ins outs hf
    simp only [Option.bind_eq_some_iff] at h
    obtain ⟨xss, hxss, h⟩ := h
    split at h
    · rename_i hlen
      cases h
      obtain ⟨h1, hc, hd⟩ := pre_ok hcu hct hcd R (rest := (ndE (ndE s.df cd).2 xss.flatten).1 ++ [.call f w xss (outs.flatten.filterMap id)]) he
      have hoo := pkss_okA hxss hao
      rw [emT_append, ndE_d] at h1
      obtain ⟨h2, h3, h4⟩ := ndE_ok R.len hd hoo h1
      simp only [emT, Tm.eval, argsV R.len (flat_okA hoo), callV, Option.bind_eq_some_iff] at h2
      obtain ⟨raw, hraw, zs, hzs, h5⟩ := h2
      obtain ⟨hzl, h6⟩ := app_cur h5
      have hzg : ∀ i (hi : i < zs.length), (SA.x (s.d + (0 + i))).lv (zs.reverse ++ vs) = zs[i] := fun i hi => by
        have := (fresh_ok R zs (j := 0) (m := zs.length) (by omega)).2
        have h7 := congrArg (fun l => l[i]?) this
        simp only [fresh, List.map_map, List.getElem?_map, List.getElem?_range hi, List.drop_zero, List.take_length, Option.map_some, List.getElem?_eq_getElem hi, Option.some.injEq, Function.comp] at h7
        rw [Nat.zero_add]
        exact h7
      have hvals := outAss_ok outs 0 zs hzs hzg
      have Rg := R.grow zs
      refine ⟨ν.upds i.wr ((outAss s.d 0 outs).map (List.map (SA.lv (zs.reverse ++ vs)))), zs, ?_, ⟨?_, ?_, ?_⟩, h6, ?_⟩
      · unfold VI.run
        rw [if_pos hc, hf, hav]
        simp only [VF.sem, pkss_ok hxss h3, Option.bind_some, hraw, hvals, List.length_map, outAss_len, if_pos hlen]
      · have := Rg.len; simp only [hzl] at this; exact this
      · have := RelS.sts Rg (ps := i.wr) (ass := outAss s.d 0 outs) (by rw [outAss_len]; exact hlen.symm) (fun as h a ha => by
          have := outAss_okA s.d outs 0 zs.length (by rw [hzl]; omega) as h a ha
          exact this) Rg.pl
        simp only [hzl] at this
        exact this
      · intro k hk
        rcases List.mem_append.1 hk with hk | hk
        · obtain ⟨j, hj, rfl⟩ := List.mem_map.1 hk
          have hj' := List.mem_range.1 hj
          refine ⟨by simp only; omega, ?_⟩
          have := hzg j (by omega)
          rw [Nat.zero_add] at this
          rw [this]
          obtain ⟨p, _, hp⟩ := mapM_mem hzs zs[j] (List.getElem_mem _)
          exact pk_nd hp
        · obtain ⟨h8, h9⟩ := h4 k hk
          exact ⟨by simp only; omega, by rw [lv_mono (a := .x k) h8 R.len]; exact h9⟩
      · rw [hemD, hemA, ndE_d]; rfl
    · cases h
  · -- all others
    simp only [Option.bind_eq_some_iff] at h
    obtain ⟨m, hm, h⟩ := h
    split at h
    · rename_i w hw
      split at h
      · cases h
        obtain ⟨h1, hc, hd⟩ := pre_ok hcu hct hcd R (rest := [.op1 i.f args]) he
        simp only [emT, Tm.eval, argsV R.len hao, op1V, Option.bind_eq_some_iff] at h1
        obtain ⟨r, hr, h2⟩ := h1
        unfold k1 at h2
        split at h2
        · rename_i z
          have Rg := R.grow [z]
          have hz : (SA.x s.d).lv ([z].reverse ++ vs) = z := by
            have := (fresh_ok R [z] (j := 0) (m := 1) (by simp)).2
            simpa [fresh] using this
          refine ⟨ν.upd w [z], [z], ?_, ⟨Rg.len, fun p as hp => ?_, fun k hk => ?_⟩, h2, by rw [hemD]; rfl⟩
          · unfold VI.run
            rw [if_pos hc, hav, hr, hw]
            rfl
          · rw [lk_st] at hp
            split at hp
            · rename_i e
              subst e
              cases hp
              refine ⟨fun a ha => ?_, ?_⟩
              · rw [List.mem_singleton.1 ha]; exact Nat.lt_succ_self _
              · rw [upd_same, List.map_singleton, hz]
            · rename_i e
              rw [upd_ne e]; exact Rg.pl p as hp
          · have old : k ∈ (ndE s.df cd).2 → k < s.d + 1 ∧ (SA.x k).lv ([z].reverse ++ vs) ≠ .undef := fun hk => by
              obtain ⟨h8, h9⟩ := hd k hk
              exact ⟨by omega, by rw [lv_mono (a := .x k) h8 R.len]; exact h9⟩
            simp only at hk
            split at hk
            · rename_i hnu
              rcases List.mem_cons.1 hk with rfl | hk
              · exact ⟨by simp, by rw [hz]; exact never_ok hnu hr⟩
              · exact old hk
            · exact old hk
        · cases h2
      · cases h
        obtain ⟨h1, hc, hd⟩ := pre_ok hcu hct hcd R (rest := [.opn i.f args m]) he
        simp only [emT, Tm.eval, argsV R.len hao, opnV, Option.bind_eq_some_iff] at h1
        obtain ⟨r, hr, h2⟩ := h1
        unfold kn at h2
        split at h2
        · rename_i zs
          obtain ⟨hzl, h3⟩ := app_cur h2
          have Rg := R.grow zs
          obtain ⟨hf1, hf2⟩ := fresh_ok R zs (j := 0) (m := m) (by omega)
          simp only [Nat.add_zero, List.drop_zero] at hf1 hf2
          rw [List.take_of_length_le (by omega)] at hf2
          simp only [hzl] at Rg hf1
          refine ⟨ν.upd w zs, zs, ?_, ⟨Rg.len, fun p as hp => ?_, fun k hk => ?_⟩, h3, by rw [hemD]; rfl⟩
          · unfold VI.run
            rw [if_pos hc, hav, hr, hw]
            rfl
          · rw [lk_st] at hp
            split at hp
            · rename_i e
              subst e
              cases hp
              exact ⟨hf1, by rw [upd_same, hf2]⟩
            · rename_i e
              rw [upd_ne e]; exact Rg.pl p as hp
          · obtain ⟨h8, h9⟩ := hd k hk
            exact ⟨by simp only; omega, by rw [lv_mono (a := .x k) h8 R.len]; exact h9⟩
        · cases h2
    · cases h
theorem emD_append (a b : List Em) (d : Nat) : emD (a ++ b) d = emD b (emD a d) := by
  induction a generalizing d with
  | nil => rfl
  | cons e a ih => cases e <;> simp [emD, ih]
theorem syIs_ok : ∀ {is : List VI} {s s' : St} {ν : Env} {vs : List V} {es : List Em}, syIs is s = some (es, s') → RelS ν s vs → (emT es s.d t).eval Φ n vs = some o →
    ∃ (ν' : Env) (zs : List V), runIs Φ is ν = some ν' ∧ RelS ν' s' (zs.reverse ++ vs) ∧ t.eval Φ n (zs.reverse ++ vs) = some o ∧ emD es s.d = s'.d
  | [], s, s', ν, vs, es, h, R, he => by
    simp only [syIs, Option.some.injEq, Prod.mk.injEq] at h
    obtain ⟨rfl, rfl⟩ := h
    exact ⟨ν, [], rfl, R, he, rfl⟩
  | i :: is, s, s', ν, vs, es, h, R, he => by
    simp only [syIs, Option.bind_eq_some_iff, Option.map_eq_some_iff, Prod.mk.injEq] at h
    obtain ⟨⟨e1, s1⟩, h1, ⟨e2, s2⟩, h2, rfl, rfl⟩ := h
    simp only at h2 he ⊢
    rw [emT_append] at he
    obtain ⟨ν1, z1, h3, R1, he1, hd1⟩ := syVI_ok h1 R he
    rw [hd1] at he1
    obtain ⟨ν2, z2, h4, R2, he2, hd2⟩ := syIs_ok h2 R1 he1
    refine ⟨ν2, z1 ++ z2, by simp only [runIs, h3, Option.bind_some, h4], ?_, ?_, by rw [emD_append, hd1, hd2]⟩
    · simpa [List.reverse_append, List.append_assoc] using R2
    · simpa [List.reverse_append, List.append_assoc] using he2

/-! ### ends of ways -/
def lensOf (ν : Env) (J : List Nat) : List Nat := J.map fun p => (ν p).length
def valsOf (ν : Env) (J : List Nat) : List V := (J.map ν).flatten
theorem leaf_ok {J : List Nat} {lens : List Nat} {as : List SA} (h : leaf s J = some (lens, as)) (R : RelS ν s vs) : lens = lensOf ν J ∧ gets vs as = valsOf ν J := by
  simp only [leaf, Option.map_eq_some_iff, Prod.mk.injEq] at h
  obtain ⟨ass, h1, rfl, rfl⟩ := h
  have h2 : J.mapM (fun p => some (ν p)) = some (ass.map (List.map (SA.lv vs))) := mapM_map2 h1 fun p _ as hp _ => by rw [(R.pl p as hp).2]
  have e : ∀ l : List Nat, l.mapM (fun p => some (ν p)) = some (l.map ν) := fun l => by
    induction l with
    | nil => rfl
    | cons x l ih => simp [List.mapM_cons, ih]
  rw [e] at h2
  have h3 := Option.some.inj h2
  have hok : ∀ a ∈ ass.flatten, okA s.d a := fun a ha => by
    obtain ⟨as, h4, h5⟩ := List.mem_flatten.1 ha
    obtain ⟨p, _, hp⟩ := mapM_mem h1 as h4
    exact (R.pl p as hp).1 a h5
  refine ⟨?_, ?_⟩
  · have := congrArg (List.map List.length) h3
    simp only [List.map_map] at this
    unfold lensOf
    have e2 : (ass.map (List.length ∘ List.map (SA.lv vs))) = ass.map (·.length) := List.map_congr_left fun as _ => by simp
    rw [e2] at this
    exact this.symm
  · rw [ats_gets R.len hok, valsOf, h3, List.map_flatten]
theorem joinS_ok {W : List V} {D : Nat} : ∀ (J : List Nat) (lens : List Nat) (σ : List (Nat × List SA)) (d : Nat), lens = lensOf ν' J → (∀ p as, lkS σ p = some as → (∀ a ∈ as, okA D a) ∧ ν' p = as.map (SA.lv W)) →
    (∀ j m, j + m ≤ (valsOf ν' J).length → (∀ a ∈ fresh (d + j) m, okA D a) ∧ (fresh (d + j) m).map (SA.lv W) = ((valsOf ν' J).drop j).take m) → ∀ p as, lkS (joinS σ d J lens) p = some as → (∀ a ∈ as, okA D a) ∧ ν' p = as.map (SA.lv W)
  | [], lens, σ, d, hl, H, _ => by
    have : lens = [] := hl
    subst this
    exact H
  | p :: J, lens, σ, d, hl, H, hF => by
    have hl' : lens = (ν' p).length :: lensOf ν' J := hl
    subst hl'
    have hv : valsOf ν' (p :: J) = ν' p ++ valsOf ν' J := by simp [valsOf]
    rw [hv] at hF
    simp only [joinS]
    obtain ⟨h1, h2⟩ := hF 0 (ν' p).length (by simp)
    simp only [Nat.add_zero, List.drop_zero, List.take_left] at h1 h2
    refine joinS_ok J _ (stS σ p (fresh d (ν' p).length)) (d + (ν' p).length) rfl (fun q as hq => ?_) (fun j m hjm => ?_)
    · rw [lk_st] at hq
      split at hq
      · rename_i e
        subst e
        cases hq
        exact ⟨h1, h2.symm⟩
      · exact H q as hq
    · have := hF ((ν' p).length + j) m (by simp; omega)
      rw [Nat.add_assoc]
      refine ⟨this.1, ?_⟩
      rw [this.2, List.drop_append, List.drop_eq_nil_of_le (by omega)]
      simp
theorem total_eq : ∀ (J : List Nat), total (lensOf ν' J) = (valsOf ν' J).length
  | [] => rfl
  | p :: J => by
    have := total_eq J
    simp only [lensOf, valsOf, total, List.map_cons, List.foldr_cons, List.flatten_cons, List.length_append] at this ⊢
    rw [this]
theorem join_ok (R : RelS ν s vs) {wr J lens : List Nat} (hfr : ∀ p, p ∉ wr → ν' p = ν p) (hl : lens = lensOf ν' J) : RelS ν' (s.join wr J lens) ((valsOf ν' J).reverse ++ vs) := by
  have Rg := R.grow (valsOf ν' J)
  have ht : total lens = (valsOf ν' J).length := by rw [hl]; exact total_eq J
  refine ⟨by simp only [St.join, ht]; exact Rg.len, ?_, fun i hi => by simp only [St.join, ht]; exact Rg.df i hi⟩
  intro p as hp
  simp only [St.join, ht] at hp ⊢
  refine joinS_ok (W := (valsOf ν' J).reverse ++ vs) (D := s.d + (valsOf ν' J).length) J lens _ s.d hl (fun q bs hq => ?_) (fun j m hjm => fresh_ok R _ hjm) p as hp
  obtain ⟨h1, h2⟩ := lk_filter (f := fun p : Nat × List SA => !wr.contains p.1) (fun _ _ => rfl) hq
  obtain ⟨h3, h4⟩ := Rg.pl q bs h1
  refine ⟨h3, ?_⟩
  rw [hfr q (fun hm => by
    simp only [List.contains_iff_mem.2 hm] at h2
    cases h2)]
  exact h4
end
end Go.Proofs.YtlhcgiegganbpaaDoorVs
set_option linter.unusedVariables false
set_option linter.unusedSimpArgs false
namespace Go.Proofs.YtlhcgiegganbpaaDoorVs
section
variable {Φ : Funs} {n : Nat} {ν ν' : Env} {s s' : St} {vs : List V} {t : Tm} {o : TO}
def GrpOK (c : Nat) : List VG → Prop
  | [] => True
  | [_] => True
  | g :: g' :: r => c ∉ wrG g ∧ GrpOK c (g' :: r)
theorem GrpOK.cons {c : Nat} {g : VG} {r : List VG} (h : c ∉ wrG g) (hr : GrpOK c r) : GrpOK c (g :: r) := by
  cases r with
  | nil => trivial
  | cons g' r => exact ⟨h, hr⟩
theorem spanG_ok (c : Nat) (want ud : Bool) : ∀ (l : List VG), l = (spanG c want ud l).1 ++ (spanG c want ud l).2 ∧ (∀ g ∈ (spanG c want ud l).1, g.gd = some (c, want) ∧ g.ud = ud) ∧ GrpOK c (spanG c want ud l).1
  | [] => ⟨rfl, by simp [spanG], trivial⟩
  | g :: r => by
    have hsame : sameGd c want ud g = true → g.gd = some (c, want) ∧ g.ud = ud := fun h => by
      simp only [sameGd, Bool.and_eq_true, beq_iff_eq] at h
      obtain ⟨h1, h2⟩ := h
      split at h2
      · rename_i c' w' hg
        simp only [Bool.and_eq_true, beq_iff_eq] at h2
        obtain ⟨rfl, rfl⟩ := h2
        exact ⟨hg, h1⟩
      · cases h2
    simp only [spanG]
    split
    · rename_i h1
      split
      · rename_i h2
        exact ⟨rfl, fun g' hg' => by rw [List.mem_singleton.1 hg']; exact hsame h1, trivial⟩
      · rename_i h2
        obtain ⟨h3, h4, h5⟩ := spanG_ok c want ud r
        refine ⟨by simp only [List.cons_append, ← h3], fun g' hg' => ?_, GrpOK.cons (fun hm => h2 (List.contains_iff_mem.2 hm)) h5⟩
        rcases List.mem_cons.1 hg' with rfl | hg'
        · exact hsame h1
        · exact h4 g' hg'
    · exact ⟨rfl, by simp, trivial⟩
theorem wrG_sub {g : VG} {p : Nat} (h : p ∉ wrG g) : p ∉ wrIs g.is := fun hm => h (List.mem_append_left _ hm)
theorem frame_is {is : List VI} (h : runIs Φ is ν = some ν') : ∀ p, p ∉ wrIs is → ν' p = ν p := fun p hp => runIs_frame h p hp
theorem syGrp_ok {c : Nat} {want : Bool} : ∀ {gs : List VG} {s s' : St} {ν : Env} {vs : List V} {es : List Em}, syGrp gs s = some (es, s') → (∀ g ∈ gs, g.gd = some (c, want)) → GrpOK c gs → ν c = [.bool want] → RelS ν s vs → (emT es s.d t).eval Φ n vs = some o →
    ∃ (ν' : Env) (zs : List V), runGs Φ gs ν = some ν' ∧ RelS ν' s' (zs.reverse ++ vs) ∧ t.eval Φ n (zs.reverse ++ vs) = some o ∧ emD es s.d = s'.d ∧ ∀ p, p ∉ (gs.map wrG).flatten → ν' p = ν p
  | [], s, s', ν, vs, es, h, _, _, _, R, he => by
    simp only [syGrp, Option.some.injEq, Prod.mk.injEq] at h
    obtain ⟨rfl, rfl⟩ := h
    exact ⟨ν, [], rfl, R, he, rfl, fun _ _ => rfl⟩
  | g :: gs, s, s', ν, vs, es, h, hgd, hok, hc, R, he => by
    simp only [syGrp, Option.bind_eq_some_iff] at h
    obtain ⟨⟨e1, s1⟩, h1, h⟩ := h
    have key : ∀ {q' : List Em × St}, syGrp gs s1 = some q' → (es = e1 ++ (defE s1 g.d ++ q'.1) ∧ s' = q'.2) → (∀ d, g.d = some d → (lkS s1.σ (sC d)).isSome) →
        ∃ (ν' : Env) (zs : List V), runGs Φ (g :: gs) ν = some ν' ∧ RelS ν' s' (zs.reverse ++ vs) ∧ t.eval Φ n (zs.reverse ++ vs) = some o ∧ emD es s.d = s'.d ∧ ∀ p, p ∉ ((g :: gs).map wrG).flatten → ν' p = ν p := by
      rintro ⟨e2, s2⟩ h2 ⟨rfl, rfl⟩ hlk
      simp only at he ⊢
      rw [emT_append] at he
      obtain ⟨ν1, z1, h3, R1, he1, hd1⟩ := syIs_ok h1 R he
      rw [hd1, emT_append] at he1
      -- the value is told
      have hdef : ν1.defd g.d = true ∧ (emT e2 s1.d t).eval Φ n (z1.reverse ++ vs) = some o ∧ emD (defE s1 g.d) s1.d = s1.d := by
        cases hgd' : g.d with
        | none => rw [hgd'] at he1; exact ⟨rfl, he1, rfl⟩
        | some d =>
          rw [hgd'] at he1
          simp only [defE] at he1 ⊢
          have hs := hlk d hgd'
          cases hl : lkS s1.σ (sC d) with
          | none => rw [hl] at hs; cases hs
          | some as =>
            rw [hl] at he1
            obtain ⟨h4, h5⟩ := R1.pl _ _ hl
            match as, h4, h5, he1 with
            | [], h4, h5, he1 => exact ⟨by simp [Env.defd, h5], he1, rfl⟩
            | [a], h4, h5, he1 =>
              by_cases hda : isDefA s1.df a = true
              · simp only [if_pos hda] at he1 ⊢
                have h6 := isDef_ok R1 hda
                refine ⟨?_, he1, rfl⟩
                have h5' : ν1 (sC d) = [SA.lv (z1.reverse ++ vs) a] := h5
                simp only [Env.defd, h5']
                generalize SA.lv (z1.reverse ++ vs) a = z at h6
                cases z <;> first | rfl | exact absurd rfl h6
              · simp only [if_neg hda] at he1 ⊢
                simp only [emD] at he1 ⊢
                simp only [emT, Tm.eval] at he1
                obtain ⟨h6, h7⟩ := chk2 _ _ he1
                rw [at_get (h4 a (by simp)) R1.len] at h7
                refine ⟨?_, h6, trivial⟩
                have h5' : ν1 (sC d) = [SA.lv (z1.reverse ++ vs) a] := h5
                simp only [Env.defd, h5']
                generalize SA.lv (z1.reverse ++ vs) a = z at h7
                cases z <;> first | rfl | exact absurd rfl h7
            | a :: b :: r, h4, h5, he1 => exact ⟨by simp [Env.defd, h5], he1, rfl⟩
      obtain ⟨hdf, he2, hdd⟩ := hdef
      have hg := hgd g (by simp)
      have hrun : g.run Φ ν = some ν1 := by
        unfold VG.run
        rw [hg]
        simp only [hc, if_true, h3, Option.bind_some, hdf]
      have hfr1 := frame_is h3
      have hc1 : gs ≠ [] → ν1 c = [.bool want] := fun hne => by
        cases gs with
        | nil => exact absurd rfl hne
        | cons g' r =>
          rw [hfr1 c (wrG_sub hok.1)]; exact hc
      by_cases hne : gs = []
      · subst hne
        simp only [syGrp, Option.some.injEq, Prod.mk.injEq] at h2
        obtain ⟨rfl, rfl⟩ := h2
        refine ⟨ν1, z1, by simp only [runGs, hrun, Option.bind_some], R1, he2, ?_, fun p hp => hfr1 p (wrG_sub (fun hm => hp (by simp [hm])))⟩
        rw [emD_append, hd1, emD_append, hdd]; rfl
      · have hok' : GrpOK c gs := by
          cases gs with
          | nil => trivial
          | cons g' r => exact hok.2
        obtain ⟨ν2, z2, h7, R2, he3, hd2, hfr2⟩ := syGrp_ok h2 (fun g hg => hgd g (by simp [hg])) hok' (hc1 hne) R1 he2
        refine ⟨ν2, z1 ++ z2, by simp only [runGs, hrun, Option.bind_some, h7], ?_, ?_, ?_, fun p hp => ?_⟩
        · simpa [List.reverse_append, List.append_assoc] using R2
        · simpa [List.reverse_append, List.append_assoc] using he3
        · rw [emD_append, hd1, emD_append, hdd, hd2]
        · simp only [List.map_cons, List.flatten_cons, List.mem_append, not_or] at hp
          rw [hfr2 p hp.2, hfr1 p (wrG_sub hp.1)]
    split at h
    · cases h
    · rename_i hno
      simp only [Option.map_eq_some_iff, Prod.mk.injEq] at h
      obtain ⟨q', h2, h3, h4⟩ := h
      refine key h2 ⟨h3.symm, h4.symm⟩ (fun d hd => ?_)
      rw [hd] at hno
      simp only [Option.elim_some] at hno
      cases hl : lkS s1.σ (sC d) with
      | none => exact (hno _ hl rfl).elim
      | some as => rfl
theorem undG_ok {c : Nat} {want ud : Bool} {x : V} (hx : (∃ b, x = .bool b ∧ b ≠ want) ∨ (x = .undef ∧ ud = true)) : ∀ {gs : List VG} {σ : List (Nat × List SA)} {d : Nat} {df : List Nat} {ν : Env}, (∀ g ∈ gs, g.gd = some (c, want) ∧ g.ud = ud) → GrpOK c gs → ν c = [x] → RelS ν ⟨σ, d, df⟩ vs →
    ∃ ν', runGs Φ gs ν = some ν' ∧ RelS ν' ⟨undG gs σ, d, df⟩ vs ∧ ∀ p, p ∉ (gs.map wrG).flatten → ν' p = ν p
  | [], σ, d, df, ν, _, _, _, R => ⟨ν, rfl, R, fun _ _ => rfl⟩
  | g :: gs, σ, d, df, ν, hgd, hok, hc, R => by
    obtain ⟨hg, hu⟩ := hgd g (by simp)
    have hrun : g.run Φ ν = some (ν.undef g.d) := by
      unfold VG.run
      rw [hg]
      rcases hx with ⟨b, rfl, hb⟩ | ⟨rfl, hb⟩
      · simp only [hc, if_neg hb]
      · simp only [hc, hu, hb, if_true]
    have hfr1 : ∀ p, p ∉ wrG g → (ν.undef g.d) p = ν p := fun p hp => by
      cases hd : g.d with
      | none => rfl
      | some e =>
        simp only [Env.undef]
        refine upd_ne (fun e' => hp ?_)
        simp [wrG, hg, hd, e']
    have R1 : RelS (ν.undef g.d) ⟨undS σ g.d, d, df⟩ vs := by
      cases hd : g.d with
      | none => exact R
      | some e =>
        refine ⟨R.len, fun p as hp => ?_, R.df⟩
        simp only [undS] at hp
        rw [lk_st] at hp
        simp only [Env.undef]
        split at hp
        · rename_i e'
          subst e'
          cases hp
          exact ⟨fun a ha => by rw [List.mem_singleton.1 ha]; trivial, by rw [upd_same]; rfl⟩
        · rename_i e'
          rw [upd_ne e']; exact R.pl p as hp
    by_cases hne : gs = []
    · subst hne
      exact ⟨_, by simp only [runGs, hrun, Option.bind_some], R1, fun p hp => hfr1 p (by simpa using hp)⟩
    · have hok' : c ∉ wrG g ∧ GrpOK c gs := by
        cases gs with
        | nil => exact absurd rfl hne
        | cons g' r => exact hok
      obtain ⟨ν2, h7, R2, hfr2⟩ := undG_ok hx (gs := gs) (fun g hg => hgd g (by simp [hg])) hok'.2 (by rw [hfr1 c hok'.1]; exact hc) R1
      refine ⟨ν2, by simp only [runGs, hrun, Option.bind_some, h7], R2, fun p hp => ?_⟩
      simp only [List.map_cons, List.flatten_cons, List.mem_append, not_or] at hp
      rw [hfr2 p hp.2, hfr1 p hp.1]
theorem runGs_append : ∀ {a b : List VG} {ν ν1 ν2 : Env}, runGs Φ a ν = some ν1 → runGs Φ b ν1 = some ν2 → runGs Φ (a ++ b) ν = some ν2
  | [], b, ν, ν1, ν2, h, h' => by cases h; exact h'
  | g :: a, b, ν, ν1, ν2, h, h' => by
    simp only [runGs, Option.bind_eq_some_iff] at h
    obtain ⟨ν3, h1, h2⟩ := h
    simp only [List.cons_append, runGs, h1, Option.bind_some]
    exact runGs_append h2 h'
theorem blk_inv {id : Option Nat} {lens : List Nat} {r : TR} {k : List V → TR} (h : blkV id lens r k = some o) : ∃ o1, r = some o1 ∧ ((∃ l zs, o1 = .norm l zs ∧ l = lens ∧ k zs = some o) ∨ (∃ j l zs, o1 = .exit j l zs ∧ ((id = some j ∧ l = lens ∧ k zs = some o) ∨ (id ≠ some j ∧ o = o1))) ∨ ∃ rs, o1 = .ret rs ∧ o = o1) := by
  simp only [blkV, Option.bind_eq_some_iff] at h
  obtain ⟨o1, h1, h2⟩ := h
  refine ⟨o1, h1, ?_⟩
  cases o1 with
  | norm l zs =>
    simp only at h2
    split at h2
    · rename_i hl; exact .inl ⟨l, zs, rfl, hl, h2⟩
    · cases h2
  | exit j l zs =>
    simp only at h2
    split at h2
    · rename_i hj
      split at h2
      · rename_i hl; exact .inr (.inl ⟨j, l, zs, rfl, .inl ⟨hj, hl, h2⟩⟩)
      · cases h2
    · rename_i hj
      exact .inr (.inl ⟨j, l, zs, rfl, .inr ⟨hj, (Option.some.inj h2).symm⟩⟩)
  | ret rs =>
    simp only [Option.some.injEq] at h2
    exact .inr (.inr ⟨rs, rfl, h2.symm⟩)
theorem syGs_ok {gl : List Nat} {K : St → Option Tm} : ∀ {m : Nat} {gs : List VG} {s : St} {t : Tm} {ν : Env} {vs : List V}, syGs gl m gs s K = some t → RelS ν s vs → t.eval Φ n vs = some o →
    ∃ ν', runGs Φ gs ν = some ν' ∧ (∀ p, p ∉ (gs.map wrG).flatten → ν' p = ν p) ∧ ∃ s' t' vs', K s' = some t' ∧ RelS ν' s' vs' ∧ t'.eval Φ n vs' = some o
  | m, [], s, t, ν, vs, h, R, he => by
    have : K s = some t := by cases m <;> exact h
    exact ⟨ν, rfl, fun _ _ => rfl, s, t, vs, this, R, he⟩
  | 0, g :: r, s, t, ν, vs, h, R, he => by cases h
  | m + 1, g :: r, s, t, ν, vs, h, R, he => by
    simp only [syGs] at h
    split at h
    · rename_i hgd
      simp only [Option.bind_eq_some_iff, Option.map_eq_some_iff] at h
      obtain ⟨⟨e1, s1⟩, h1, t1, h2, rfl⟩ := h
      obtain ⟨ν1, z1, h3, R1, he1, hd1⟩ := syIs_ok h1 R he
      obtain ⟨ν2, h4, hfr, rest⟩ := syGs_ok h2 R1 he1
      refine ⟨ν2, ?_, fun p hp => ?_, rest⟩
      · have : g.run Φ ν = some ν1 := by unfold VG.run; rw [hgd]; exact h3
        simp only [runGs, this, Option.bind_some, h4]
      · simp only [List.map_cons, List.flatten_cons, List.mem_append, not_or] at hp
        rw [hfr p hp.2, frame_is h3 p (wrG_sub hp.1)]
    · rename_i c want hgd
      obtain ⟨hsp, hsame, hgrp⟩ := spanG_ok c want g.ud (g :: r)
      generalize spanG c want g.ud (g :: r) = sp at h hsp hsame hgrp
      split at h
      · rename_i a hla
        simp only [Option.bind_eq_some_iff, Option.map_eq_some_iff] at h
        obtain ⟨⟨e1, s1⟩, h1, ⟨lt, lta⟩, h2, ⟨lf, lfa⟩, h3, k, h4, rfl⟩ := h
        simp only at h2 h3 h4 he
        obtain ⟨hca, hcv⟩ := R.pl c _ hla
        have hcv' : ν c = [a.lv vs] := hcv
        simp only [Tm.eval] at he
        obtain ⟨o1, ho1, hcase⟩ := blk_inv he
        rw [at_get (hca a (by simp)) R.len] at ho1
        -- both ways end in a state where the places J hold what they hold
        have key : ∃ ν1, runGs Φ sp.1 ν = some ν1 ∧ (∀ p, p ∉ (sp.1.map wrG).flatten → ν1 p = ν p) ∧ ∃ J : List Nat, o1 = .norm (lensOf ν1 J) (valsOf ν1 J) ∧ syGs gl m sp.2 (s.join (sp.1.map wrG).flatten J lt) K = some k := by
          unfold gdV at ho1
          split at ho1
          · rename_i b hb
            split at ho1
            · rename_i hbw
              subst hbw
              obtain ⟨ν1, z1, h5, R1, he1, hd1, hfr⟩ := syGrp_ok h1 (fun g hg => (hsame g hg).1) hgrp (by rw [hcv', hb]) R ho1
              obtain ⟨h6, h7⟩ := leaf_ok h2 R1
              simp only [Tm.eval, h7, h6, Option.some.injEq] at he1
              exact ⟨ν1, h5, hfr, _, he1.symm, h4⟩
            · rename_i hbw
              obtain ⟨ν1, h5, R1, hfr⟩ := undG_ok (Φ := Φ) (gs := sp.1) (x := a.lv vs) (.inl ⟨b, hb, hbw⟩) hsame hgrp hcv' R
              obtain ⟨h6, h7⟩ := leaf_ok h3 R1
              simp only [Tm.eval, h7, h6, Option.some.injEq] at ho1
              exact ⟨ν1, h5, hfr, _, ho1.symm, h4⟩
          · rename_i hb
            split at ho1
            · rename_i hud
              obtain ⟨ν1, h5, R1, hfr⟩ := undG_ok (Φ := Φ) (gs := sp.1) (x := a.lv vs) (.inr ⟨hb, hud⟩) hsame hgrp hcv' R
              obtain ⟨h6, h7⟩ := leaf_ok h3 R1
              simp only [Tm.eval, h7, h6, Option.some.injEq] at ho1
              exact ⟨ν1, h5, hfr, _, ho1.symm, h4⟩
            · cases ho1
          · cases ho1
        obtain ⟨ν1, h5, hfr, J, rfl, h4⟩ := key
        rcases hcase with ⟨l, zs, hn, hl, hk⟩ | ⟨j, l, zs, hn, _⟩ | ⟨rs, hn, _⟩
        · cases hn
          obtain ⟨_, h8⟩ := app_cur hk
          have R2 := join_ok R hfr hl.symm
          obtain ⟨ν2, h9, hfr2, rest⟩ := syGs_ok h4 R2 h8
          refine ⟨ν2, ?_, fun p hp => ?_, rest⟩
          · rw [hsp]; exact runGs_append h5 h9
          · rw [hsp] at hp
            simp only [List.map_append, List.flatten_append, List.mem_append, not_or] at hp
            rw [hfr2 p hp.2, hfr p hp.1]
        · cases hn
        · cases hn
      · cases h

/-! ### code -/
def EndOK (K : St → Option Tm) (ex : List (Nat × List Nat)) (wr : List Nat) (Φ : Funs) (n : Nat) (ν : Env) (o : TO) : Out → Prop
  | .norm ν' => (∀ p, p ∉ wr → ν' p = ν p) ∧ ∃ s' t' vs', K s' = some t' ∧ RelS ν' s' vs' ∧ t'.eval Φ n vs' = some o
  | .exit id ν' => (∀ p, p ∉ wr → ν' p = ν p) ∧ ∃ J, lkJ ex id = some J ∧ o = .exit id (lensOf ν' J) (valsOf ν' J)
  | .ret raw => o = .ret raw
theorem EndOK.wr {K : St → Option Tm} {ex : List (Nat × List Nat)} {w w' : List Nat} {out : Out} (h : EndOK K ex w Φ n ν o out) (hs : ∀ p ∈ w, p ∈ w') : EndOK K ex w' Φ n ν o out := by
  cases out with
  | norm ν' => exact ⟨fun p hp => h.1 p (fun hm => hp (hs p hm)), h.2⟩
  | exit id ν' => exact ⟨fun p hp => h.1 p (fun hm => hp (hs p hm)), h.2⟩
  | ret raw => exact h
theorem goes_no {id m : Nat} : ∀ {c : VC} {ν ν' : Env}, c.goes id = false → c.run Φ m ν = some (.exit id ν') → False
  | .ins gs, ν, ν', _, h => by simp [VC.run] at h
  | .seq a b, ν, ν', hg, h => by
    simp only [VC.goes, Bool.or_eq_false_iff] at hg
    simp only [VC.run, Option.bind_eq_some_iff] at h
    obtain ⟨o1, h1, h2⟩ := h
    cases o1 with
    | norm ν1 => exact goes_no hg.2 h2
    | exit j ν1 => cases h2; exact goes_no hg.1 h1
    | ret raw => cases h2
  | .cond c J x y, ν, ν', hg, h => by
    simp only [VC.goes, Bool.or_eq_false_iff] at hg
    simp only [VC.run] at h
    split at h
    · split at h
      · exact goes_no hg.1 h
      · exact goes_no hg.2 h
    · cases h
  | .block j J b, ν, ν', hg, h => by
    simp only [VC.run, Option.map_eq_some_iff] at h
    obtain ⟨o1, h1, h2⟩ := h
    cases o1 with
    | norm ν1 => cases h2
    | exit i ν1 =>
      simp only at h2
      split at h2
      · cases h2
      · cases h2; exact goes_no (c := b) hg h1
    | ret raw => cases h2
  | .loop b, ν, ν', hg, h => by
    simp only [VC.run] at h
    have key : ∀ (k : Nat) (ν : Env), loopN (b.run Φ m) k ν = some (.exit id ν') → False := by
      intro k
      induction k with
      | zero => intro ν h; cases h
      | succ k ih =>
        intro ν h
        simp only [loopN, Option.bind_eq_some_iff] at h
        obtain ⟨o1, h1, h2⟩ := h
        cases o1 with
        | norm ν1 => exact ih ν1 h2
        | exit i ν1 => cases h2; exact goes_no (c := b) hg h1
        | ret raw => cases h2
    exact key m ν h
  | .exit j, ν, ν', hg, h => by
    simp only [VC.run, Option.some.injEq, Out.exit.injEq] at h
    simp [VC.goes, h.1] at hg
  | .ret i, ν, ν', _, h => by
    simp only [VC.run] at h
    split at h
    · simp at h
    · cases h
  | .ren t u, ν, ν', _, h => by simp [VC.run] at h
  | .stuck, ν, ν', _, h => by cases h
theorem sy_ok {gl : List Nat} : ∀ (c : VC) {ex : List (Nat × List Nat)} {s : St} {K : St → Option Tm} {t : Tm} {ν : Env} {vs : List V} {o : TO}, sy gl c ex s K = some t → RelS ν s vs → t.eval Φ n vs = some o →
    ∃ out, c.run Φ n ν = some out ∧ EndOK K ex c.wr Φ n ν o out
  | .ins gs, ex, s, K, t, ν, vs, o, h, R, he => by
    obtain ⟨ν', h1, h2, h3⟩ := syGs_ok h R he
    exact ⟨.norm ν', by simp only [VC.run, h1, Option.map_some], h2, h3⟩
  | .seq a b, ex, s, K, t, ν, vs, o, h, R, he => by
    obtain ⟨out1, h1, h2⟩ := sy_ok a (K := fun s' => sy gl b ex s' K) h R he
    cases out1 with
    | norm ν1 =>
      obtain ⟨hfr, s', t', vs', h3, R1, he1⟩ := h2
      obtain ⟨out2, h4, h5⟩ := sy_ok b h3 R1 he1
      refine ⟨out2, by simp only [VC.run, h1, Option.bind_some, h4], ?_⟩
      have fr : ∀ {ν2 : Env}, (∀ p, p ∉ b.wr → ν2 p = ν1 p) → ∀ p, p ∉ (VC.seq a b).wr → ν2 p = ν p := fun h p hp => by
        simp only [VC.wr, List.mem_append, not_or] at hp
        rw [h p hp.2, hfr p hp.1]
      cases out2 with
      | norm ν2 => exact ⟨fr h5.1, h5.2⟩
      | exit id ν2 => exact ⟨fr h5.1, h5.2⟩
      | ret raw => exact h5
    | exit id ν1 => exact ⟨.exit id ν1, by simp only [VC.run, h1, Option.bind_some], EndOK.wr (K := K) (out := .exit id ν1) (w := a.wr) h2 (fun p hp => List.mem_append_left _ hp)⟩
    | ret raw => exact ⟨.ret raw, by simp only [VC.run, h1, Option.bind_some], h2⟩
  | .ren u v, ex, s, K, t, ν, vs, o, h, R, he => by
    simp only [sy] at h
    have fr : ∀ p, p ∉ (VC.ren u v).wr → (ν.sw u v) p = ν p := fun p hp => by
      simp only [VC.wr, List.mem_cons, List.not_mem_nil, or_false, not_or] at hp
      simp only [Env.sw, if_neg hp.1, if_neg hp.2]
    split at h
    · rename_i a b ha hb
      refine ⟨.norm (ν.sw u v), rfl, fr, _, t, vs, h, ⟨R.len, fun p as hp => ?_, R.df⟩, he⟩
      simp only at hp
      rw [lk_st, lk_st] at hp
      simp only [Env.sw]
      split at hp
      · rename_i e; cases hp; rw [if_pos e]; exact R.pl _ _ hb
      · rename_i e
        rw [if_neg e]
        split at hp
        · rename_i e2; cases hp; rw [if_pos e2]; exact R.pl _ _ ha
        · rename_i e2; rw [if_neg e2]; exact R.pl p as hp
    · rename_i a ha hb
      refine ⟨.norm (ν.sw u v), rfl, fr, _, t, vs, h, ⟨R.len, fun p as hp => ?_, R.df⟩, he⟩
      simp only at hp
      rw [lk_st] at hp
      simp only [Env.sw]
      split at hp
      · rename_i e
        cases hp
        by_cases e2 : p = tC u
        · rw [← e2, e, hb] at ha; cases ha
        · rw [if_neg e2, if_pos e]; exact R.pl _ _ ha
      · rename_i e
        obtain ⟨h1, h2⟩ := lk_filter (f := fun p : Nat × List SA => p.1 != tC u) (fun _ _ => rfl) hp
        rw [if_neg (by simpa using h2), if_neg e]; exact R.pl p as h1
    · cases h
  | .cond c J x y, ex, s, K, t, ν, vs, o, h, R, he => by
    simp only [sy] at h
    split at h
    · rename_i b hb
      obtain ⟨_, hv⟩ := R.pl _ _ hb
      have hv' : ν c = [.bool b] := hv
      cases b with
      | true =>
        simp only [if_true] at h
        obtain ⟨out, h1, h2⟩ := sy_ok x h R he
        exact ⟨out, by simp only [VC.run, hv', if_true, h1], h2.wr (fun p hp => List.mem_append_left _ hp)⟩
      | false =>
        simp only [Bool.false_eq_true, if_false] at h
        obtain ⟨out, h1, h2⟩ := sy_ok y h R he
        exact ⟨out, by simp only [VC.run, hv', Bool.false_eq_true, if_false, h1], h2.wr (fun p hp => List.mem_append_right _ hp)⟩
    · rename_i a _ ha
      obtain ⟨hoa, hv⟩ := R.pl _ _ ha
      have hv' : ν c = [a.lv vs] := hv
      -- a test parts the ways
      have part : ∀ {tx ty : Tm} {o1 : TO} {K' : St → Option Tm}, sy gl x ex s K' = some tx → sy gl y ex s K' = some ty → iteV ((a.at s.d).get vs) (tx.eval Φ n vs) (ty.eval Φ n vs) = some o1 →
          ∃ out, (VC.cond c J x y).run Φ n ν = some out ∧ EndOK K' ex (VC.cond c J x y).wr Φ n ν o1 out := by
        intro tx ty o1 K' hx hy hi
        rw [at_get (hoa a (by simp)) R.len] at hi
        unfold iteV at hi
        split at hi
        · rename_i hb
          obtain ⟨out, h1, h2⟩ := sy_ok x hx R hi
          exact ⟨out, by simp only [VC.run, hv', hb, if_true, h1], h2.wr (fun p hp => List.mem_append_left _ hp)⟩
        · rename_i hb
          obtain ⟨out, h1, h2⟩ := sy_ok y hy R hi
          exact ⟨out, by simp only [VC.run, hv', hb, Bool.false_eq_true, if_false, h1], h2.wr (fun p hp => List.mem_append_right _ hp)⟩
        · cases hi
      split at h
      · simp only [Option.bind_eq_some_iff] at h
        obtain ⟨tx, hx, ty, hy, lens, _, h⟩ := h
        split at h
        · simp only [Option.map_eq_some_iff] at h
          obtain ⟨k, hk, rfl⟩ := h
          simp only [Tm.eval] at he
          obtain ⟨o1, ho1, hcase⟩ := blk_inv he
          obtain ⟨out, h1, h2⟩ := part hx hy ho1
          refine ⟨out, h1, ?_⟩
          cases out with
          | norm ν' =>
            obtain ⟨hfr, s', t', vs', h3, R1, he1⟩ := h2
            simp only [leafN, Option.map_eq_some_iff] at h3
            obtain ⟨⟨l, as⟩, h4, rfl⟩ := h3
            obtain ⟨h5, h6⟩ := leaf_ok h4 R1
            simp only [Tm.eval, h5, h6, Option.some.injEq] at he1
            subst he1
            rcases hcase with ⟨l, zs, hn, hl, hk2⟩ | ⟨j, l, zs, hn, _⟩ | ⟨rs, hn, _⟩
            · cases hn
              obtain ⟨_, h8⟩ := app_cur hk2
              exact ⟨hfr, _, k, _, hk, join_ok R hfr hl.symm, h8⟩
            · cases hn
            · cases hn
          | exit id ν' =>
            obtain ⟨hfr, J', h3, rfl⟩ := h2
            rcases hcase with ⟨l, zs, hn, _⟩ | ⟨j, l, zs, hn, h9 | ⟨_, rfl⟩⟩ | ⟨rs, hn, _⟩
            · cases hn
            · cases h9.1
            · exact ⟨hfr, J', h3, rfl⟩
            · cases hn
          | ret raw =>
            have h2' : o1 = .ret raw := h2
            subst h2'
            rcases hcase with ⟨l, zs, hn, _⟩ | ⟨j, l, zs, hn, _⟩ | ⟨rs, hn, rfl⟩
            · cases hn
            · cases hn
            · rfl
        · cases h
      · simp only [Option.bind_eq_some_iff, Option.map_eq_some_iff] at h
        obtain ⟨tx, hx, ty, hy, rfl⟩ := h
        exact part hx hy he
    · cases h
  | .block id J b, ex, s, K, t, ν, vs, o, h, R, he => by
    simp only [sy] at h
    split at h
    · simp only [Option.bind_eq_some_iff] at h
      obtain ⟨tb, hb, h⟩ := h
      split at h
      · rename_i lens _
        split at h
        · simp only [Option.map_eq_some_iff] at h
          obtain ⟨k, hk, rfl⟩ := h
          simp only [Tm.eval] at he
          obtain ⟨o1, ho1, hcase⟩ := blk_inv he
          obtain ⟨out, h1, h2⟩ := sy_ok b hb R ho1
          cases out with
          | norm ν' =>
            refine ⟨.norm ν', by simp only [VC.run, h1, Option.map_some], ?_⟩
            obtain ⟨hfr, s', t', vs', h3, R1, he1⟩ := h2
            simp only [leafN, Option.map_eq_some_iff] at h3
            obtain ⟨⟨l, as⟩, h4, rfl⟩ := h3
            obtain ⟨h5, h6⟩ := leaf_ok h4 R1
            simp only [Tm.eval, h5, h6, Option.some.injEq] at he1
            subst he1
            rcases hcase with ⟨l, zs, hn, hl, hk2⟩ | ⟨j, l, zs, hn, _⟩ | ⟨rs, hn, _⟩
            · cases hn
              obtain ⟨_, h8⟩ := app_cur hk2
              exact ⟨hfr, _, k, _, hk, join_ok R hfr hl.symm, h8⟩
            · cases hn
            · cases hn
          | exit j ν' =>
            obtain ⟨hfr, J', h3, rfl⟩ := h2
            by_cases hj : j = id
            · subst hj
              refine ⟨.norm ν', by simp only [VC.run, h1, Option.map_some, if_true], ?_⟩
              have hJ : J' = dedup (J.filter fun p => b.wr.contains p && gl.contains p) := by
                simp only [lkJ, List.find?_cons, beq_self_eq_true, Option.map_some, Option.some.injEq] at h3
                exact h3.symm
              rcases hcase with ⟨l, zs, hn, _⟩ | ⟨i, l, zs, hn, ⟨_, hl, hk2⟩ | ⟨hne, _⟩⟩ | ⟨rs, hn, _⟩
              · cases hn
              · cases hn
                obtain ⟨_, h8⟩ := app_cur hk2
                rw [← hJ] at hk
                exact ⟨hfr, _, k, _, hk, join_ok R hfr hl.symm, h8⟩
              · cases hn
                exact absurd rfl hne
              · cases hn
            · refine ⟨.exit j ν', by simp only [VC.run, h1, Option.map_some, if_neg hj], hfr, J', ?_, ?_⟩
              · have : (id == j) = false := by simpa using fun e => hj e.symm
                simpa only [lkJ, List.find?_cons, this] using h3
              · rcases hcase with ⟨l, zs, hn, _⟩ | ⟨i, l, zs, hn, ⟨hi, _⟩ | ⟨_, rfl⟩⟩ | ⟨rs, hn, _⟩
                · cases hn
                · cases hn
                  cases hi
                  exact absurd rfl hj
                · rfl
                · cases hn
          | ret raw =>
            refine ⟨.ret raw, by simp only [VC.run, h1, Option.map_some], ?_⟩
            have h2' : o1 = .ret raw := h2
            subst h2'
            rcases hcase with ⟨l, zs, hn, _⟩ | ⟨j, l, zs, hn, _⟩ | ⟨rs, hn, rfl⟩
            · cases hn
            · cases hn
            · rfl
        · cases h
      · cases h
    · rename_i hgo
      obtain ⟨out, h1, h2⟩ := sy_ok b h R he
      cases out with
      | norm ν' => exact ⟨.norm ν', by simp only [VC.run, h1, Option.map_some], h2⟩
      | exit j ν' =>
        by_cases hj : j = id
        · subst hj
          exact (goes_no (by simpa using hgo) h1).elim
        · exact ⟨.exit j ν', by simp only [VC.run, h1, Option.map_some, if_neg hj], h2⟩
      | ret raw => exact ⟨.ret raw, by simp only [VC.run, h1, Option.map_some], h2⟩
  | .loop b, ex, s, K, t, ν, vs, o, h, R, he => by
    simp only [sy, Option.bind_eq_some_iff, Option.map_eq_some_iff] at h
    obtain ⟨⟨lens, init⟩, hl, tb, hb, rfl⟩ := h
    generalize ((dedup b.wr).filter fun p => gl.contains p && (lkS s.σ p).isSome) = J at hl hb
    simp only at hb he
    obtain ⟨h5, h6⟩ := leaf_ok hl R
    simp only [Tm.eval, h6] at he
    have key : ∀ (k : Nat) (ν1 : Env), (∀ p, p ∉ b.wr → ν1 p = ν p) → lens = lensOf ν1 J → lpV lens (app (total lens) (cur (total lens) fun zs => tb.eval Φ n (zs.reverse ++ vs))) k (valsOf ν1 J) = some o →
        ∃ out, loopN (b.run Φ n) k ν1 = some out ∧ EndOK K ex b.wr Φ n ν o out := by
      intro k
      induction k with
      | zero => intro ν1 _ _ h; cases h
      | succ k ih =>
        intro ν1 hfr hlen h
        simp only [lpV, Option.bind_eq_some_iff] at h
        obtain ⟨o1, h1, h2⟩ := h
        obtain ⟨_, h3⟩ := app_cur h1
        obtain ⟨out1, h7, h8⟩ := sy_ok b hb (join_ok R hfr hlen) h3
        cases out1 with
        | norm ν2 =>
          obtain ⟨hfr2, s', t', vs', h9, R1, he1⟩ := h8
          simp only [leafN, Option.map_eq_some_iff] at h9
          obtain ⟨⟨l, as⟩, h10, rfl⟩ := h9
          obtain ⟨h11, h12⟩ := leaf_ok h10 R1
          simp only [Tm.eval, h11, h12, Option.some.injEq] at he1
          subst he1
          simp only at h2
          split at h2
          · rename_i hl2
            obtain ⟨out, h13, h14⟩ := ih ν2 (fun p hp => by rw [hfr2 p hp, hfr p hp]) hl2.symm h2
            exact ⟨out, by simp only [loopN, h7, Option.bind_some, h13], h14⟩
          · cases h2
        | exit j ν2 =>
          obtain ⟨hfr2, J', h9, rfl⟩ := h8
          simp only [Option.some.injEq] at h2
          subst h2
          exact ⟨.exit j ν2, by simp only [loopN, h7, Option.bind_some], fun p hp => by rw [hfr2 p hp, hfr p hp], J', h9, rfl⟩
        | ret raw =>
          have h8' : o1 = .ret raw := h8
          subst h8'
          simp only [Option.some.injEq] at h2
          subst h2
          exact ⟨.ret raw, by simp only [loopN, h7, Option.bind_some], rfl⟩
    exact key n ν (fun _ _ => rfl) h5 he
  | .exit id, ex, s, K, t, ν, vs, o, h, R, he => by
    simp only [sy, Option.bind_eq_some_iff, Option.map_eq_some_iff] at h
    obtain ⟨J, hJ, ⟨l, as⟩, hl, rfl⟩ := h
    obtain ⟨h5, h6⟩ := leaf_ok hl R
    simp only [Tm.eval, h6, h5, Option.some.injEq] at he
    exact ⟨.exit id ν, rfl, fun _ _ => rfl, J, hJ, he.symm⟩
  | .ret i, ex, s, K, t, ν, vs, o, h, R, he => by
    simp only [sy, syRet] at h
    split at h
    · rename_i pss hf
      simp only [Option.bind_eq_some_iff, Option.map_eq_some_iff] at h
      obtain ⟨cu, hcu, ct, hct, args, hargs, outs, houts, rfl⟩ := h
      obtain ⟨hao, hav⟩ := args_ok R hargs
      have hoo := pkss_okA houts hao
      have e0 : (ndE s.df ([] : List SA)).1 = [] := rfl
      have he' : (emT ((chkE 0 isUnitA cu ++ chkE 1 isTrueA ct) ++ ((ndE s.df []).1 ++ (ndE s.df outs.flatten).1)) s.d (.ret (outs.map (ats s.d)))).eval Φ n vs = some o := by
        rw [e0, List.append_assoc]; exact he
      obtain ⟨h1, ⟨⟨hc1, hc2⟩, _⟩, hd⟩ := pre_ok (i := { i with dfn := [] }) hcu hct (by rfl) R he'
      obtain ⟨h2, h3, _⟩ := ndE_ok R.len R.df hoo h1
      refine ⟨.ret (outs.map (List.map (SA.lv vs))), ?_, ?_⟩
      · simp only [VC.run]
        rw [if_pos ⟨hc1, hc2⟩, hf, hav]
        simp only [VF.sem, pkss_ok houts h3, Option.map_some]
      · simp only [Tm.eval, Option.some.injEq] at h2
        rw [argsV R.len (flat_okA hoo)] at h2
        exact h2.symm
    · cases h
  | .stuck, ex, s, K, t, ν, vs, o, h, R, he => by
    simp only [sy, Option.some.injEq] at h
    subst h
    cases he

/-! ### a function -/
theorem lkS_mem : ∀ {σ : List (Nat × List SA)} {p : Nat} {as : List SA}, lkS σ p = some as → (p, as) ∈ σ
  | (q, bs) :: r, p, as, h => by
    simp only [lkS] at h
    split at h
    · rename_i e; cases h; subst e; exact List.mem_cons_self
    · exact List.mem_cons_of_mem _ (lkS_mem h)
def LensOK : List PSh → List (List V) → Prop
  | [], [] => True
  | p :: ps, xs :: xss => xs.length = p.ms.length ∧ LensOK ps xss
  | _, _ => False
theorem inS_ok {ps0 : List PSh} {xss0 : List (List V)} {W : List V} {D : Nat} : ∀ (ps : List PSh) (xss : List (List V)) (s d : Nat), LensOK ps xss → (∀ j, ps0[s + j]? = ps[j]?) → (∀ j, xss0[s + j]? = xss[j]?) → ps0.all (fun p => ms64 0 p.ms) = true →
    d + xss.flatten.length ≤ D → (∀ i, i < xss.flatten.length → (SA.x (d + i)).lv W = xss.flatten.getD i .undef) →
    ∀ q ∈ (inS s d ps).1, (∀ a ∈ q.2, okA D a) ∧ env0 ps0 xss0 q.1 = q.2.map (SA.lv W)
  | [], xss, s, d, _, _, _, _, _, _ => by simp [inS]
  | p :: ps, [], s, d, h, _, _, _, _, _ => h.elim
  | p :: ps, xs :: xss, s, d, ⟨hl, hL⟩, hp, hx, h64, hD, hv => by
    have hp0 : ps0[s]? = some p := by have := hp 0; simpa using this
    have hx0 : xss0[s]? = some xs := by have := hx 0; simpa using this
    have hfl : (xs :: xss).flatten.length = xs.length + xss.flatten.length := by simp
    rw [hfl] at hD hv
    have hv1 : ∀ i, i < xs.length → (SA.x (d + i)).lv W = xs.getD i .undef := fun i hi => by
      rw [hv i (by omega)]
      simp only [List.flatten_cons, List.getD_eq_getElem?_getD]
      rw [List.getElem?_append_left hi]
    have rest := inS_ok (ps0 := ps0) (xss0 := xss0) (W := W) (D := D) ps xss (s + 1) (d + p.ms.length) hL (fun j => by have := hp (j + 1); rw [show s + 1 + j = s + (j + 1) by omega]; simpa using this) (fun j => by have := hx (j + 1); rw [show s + 1 + j = s + (j + 1) by omega]; simpa using this) h64 (by omega) (fun i hi => by
      have := hv (xs.length + i) (by omega)
      rw [show d + p.ms.length + i = d + (xs.length + i) by omega, this]
      simp only [List.flatten_cons, List.getD_eq_getElem?_getD]
      rw [List.getElem?_append_right (by omega)]
      simp)
    -- a place of this parameter and its rows
    have hpc : ∀ (pl base : Nat) (ms : List PM), p.ms = ms → env0 ps0 xss0 pl = List.zipWith inV ms xs → (∀ j, ms[j]? = some .own → env0 ps0 xss0 (tC (base + j)) = (xs[j]?).toList) →
        ∀ q ∈ inP.inPc pl base d ms, (∀ a ∈ q.2, okA D a) ∧ env0 ps0 xss0 q.1 = q.2.map (SA.lv W) := by
      intro pl base ms hms hpl htk q hq
      rw [hms] at hl
      simp only [inP.inPc, List.mem_cons, List.mem_filterMap] at hq
      rcases hq with rfl | ⟨⟨m, j⟩, hmj, hq⟩
      · refine ⟨fun a ha => ?_, ?_⟩
        · obtain ⟨⟨m, i⟩, hmi, rfl⟩ := List.mem_map.1 ha
          have h1 := List.mem_zipIdx hmi
          simp only
          split
          · trivial
          · show i < D
            omega
        · rw [hpl]
          apply List.ext_getElem
          · simp [hl]
          · intro i h1 h2
            have hi : i < ms.length := by simpa using h2
            have hi2 : i < xs.length := by omega
            simp only [List.getElem_zipWith, List.getElem_map, List.getElem_zipIdx]
            cases hm : ms[i] with
            | own => simp [inV, SA.lv]
            | _ =>
              simp only [inV]
              rw [if_neg (by simp)]
              rw [hv1 i hi2]
              simp [List.getD_eq_getElem?_getD, List.getElem?_eq_getElem hi2]
      · have h1 := List.mem_zipIdx hmj
        simp only at hq
        split at hq
        · rename_i hm
          cases hq
          subst hm
          have hj : j < xs.length := by omega
          refine ⟨fun a ha => by rw [List.mem_singleton.1 ha]; show d + j < D; omega, ?_⟩
          have hmo : ms[j]? = some .own := by
            rw [List.getElem?_eq_getElem (by omega)]
            simpa using h1.2.2.symm
          rw [htk j hmo, List.map_singleton, hv1 j hj, List.getElem?_eq_getElem hj]
          simp [List.getD_eq_getElem?_getD, List.getElem?_eq_getElem hj]
        · cases hq
    have h64p : ∀ j, p.ms[j]? = some .own → j < 64 := fun j hj => by
      have := ms64_ok (List.all_eq_true.1 h64 p (List.mem_of_getElem? hp0)) j hj
      omega
    have esC : env0 ps0 xss0 (sC s) = slV xs p := by
      have e1 : sC s % 3 = 0 := by simp only [sC]; omega
      have e2 : sC s / 3 = s := by simp only [sC]; omega
      simp only [env0, e1, e2, if_true, at2, hp0, hx0]
    have etS : ∀ j, j < 64 → env0 ps0 xss0 (tC (tokS s 0 + j)) = tkV false j xs p := fun j hj => by
      have e0 : tC (tokS s 0 + j) % 3 = 2 := by simp only [tC]; omega
      have e3 : tC (tokS s 0 + j) / 3 = tokS s 0 + j := by simp only [tC]; omega
      have h1 : ((tokS s 0 + j) / 64) % 2 = 0 := by simp only [tokS]; omega
      have h2 : (tokS s 0 + j) % 64 = j := by simp only [tokS]; omega
      have h3 : (tokS s 0 + j) / 64 / 2 = s := by simp only [tokS]; omega
      simp only [env0, e0, e3, h1, h2, h3, at2, hp0, hx0]
      simp
    intro q hq
    simp only [inS, List.mem_append] at hq
    rcases hq with hq | hq
    · cases p with
      | one m =>
        refine hpc (sC s) (tokS s 0) [m] rfl esC (fun j hj => ?_) q hq
        rw [etS j (h64p j hj)]; rfl
      | agg ms =>
        refine hpc (sC s) (tokS s 0) ms rfl esC (fun j hj => ?_) q hq
        rw [etS j (h64p j hj)]; rfl
      | ptr ro ms =>
        simp only [inP, List.mem_cons] at hq
        rcases hq with rfl | hq
        · exact ⟨fun a ha => by rw [List.mem_singleton.1 ha]; trivial, by rw [esC]; rfl⟩
        · refine hpc (bC (pinB + s)) (tokB (pinB + s) 0) ms rfl ?_ (fun j hj => ?_) q hq
          · have e1 : ¬ bC (pinB + s) % 3 = 0 := by simp only [bC]; omega
            have e2 : bC (pinB + s) % 3 = 1 := by simp only [bC]; omega
            have e3 : bC (pinB + s) / 3 = pinB + s := by simp only [bC]; omega
            have e4 : ¬ pinB + s < pinB := by omega
            have e5 : pinB + s - pinB = s := by omega
            simp only [env0, e2, e3, e4, e5, at2, hp0, hx0, bxV]
            simp
          · have hj64 := h64p j hj
            have e0 : tC (tokB (pinB + s) 0 + j) % 3 = 2 := by simp only [tC]; omega
            have e3 : tC (tokB (pinB + s) 0 + j) / 3 = tokB (pinB + s) 0 + j := by simp only [tC]; omega
            have h1 : ((tokB (pinB + s) 0 + j) / 64) % 2 = 1 := by simp only [tokB]; omega
            have h2 : (tokB (pinB + s) 0 + j) % 64 = j := by simp only [tokB]; omega
            have h3 : (tokB (pinB + s) 0 + j) / 64 / 2 = pinB + s := by simp only [tokB]; omega
            have e4 : ¬ pinB + s < pinB := by omega
            have e5 : pinB + s - pinB = s := by omega
            simp only [env0, e0, e3, h1, h2, h3, e4, e5, at2, hp0, hx0, tkV]
            simp
      | nilp =>
        simp only [inP, List.mem_singleton] at hq
        subst hq
        exact ⟨fun a ha => by rw [List.mem_singleton.1 ha]; trivial, by rw [esC]; rfl⟩
      | nils =>
        simp only [inP, List.mem_singleton] at hq
        subst hq
        exact ⟨fun a ha => by simp at ha, by rw [esC]; rfl⟩
    · exact rest q hq
theorem tm_ok {c : VC} {ps : List PSh} {xss raw : List (List V)} (ht : tmOf c ps = some t) (hL : LensOK ps xss) (h64 : ps.all (fun p => ms64 0 p.ms) = true) (he : t.eval Φ n xss.flatten.reverse = some (.ret raw)) : c.run Φ n (env0 ps xss) = some (.ret raw) := by
  simp only [tmOf] at ht
  have hd : ∀ (ps : List PSh) (xss : List (List V)) (s d : Nat), LensOK ps xss → (inS s d ps).2 = d + xss.flatten.length := by
    intro ps
    induction ps with
    | nil => intro xss s d h; cases xss with
      | nil => rfl
      | cons => exact h.elim
    | cons p ps ih => intro xss s d h; cases xss with
      | nil => exact h.elim
      | cons xs xss =>
        simp only [inS, ih xss _ _ h.2, List.flatten_cons, List.length_append, h.1]
        omega
  have hd0 := hd ps xss 0 0 hL
  rw [Nat.zero_add] at hd0
  have R : RelS (env0 ps xss) ⟨(inS 0 0 ps).1, (inS 0 0 ps).2, []⟩ xss.flatten.reverse := by
    refine ⟨by simp [hd0], fun p as hp => ?_, fun i hi => by simp at hi⟩
    have := inS_ok (ps0 := ps) (xss0 := xss) (W := xss.flatten.reverse) (D := (inS 0 0 ps).2) ps xss 0 0 hL (fun j => by simp) (fun j => by simp) h64 (by omega) (fun i hi => by
      simp only [SA.lv, List.reverse_reverse, Nat.zero_add]) (p, as) (lkS_mem hp)
    exact this
  obtain ⟨out, h1, h2⟩ := sy_ok c ht R he
  cases out with
  | norm ν' => obtain ⟨_, s', t', vs', h3, _⟩ := h2; cases h3
  | exit id ν' => obtain ⟨_, J, h3, _⟩ := h2; cases h3
  | ret raw' =>
    have : TO.ret raw = .ret raw' := h2
    cases this
    exact h1
end
end Go.Proofs.YtlhcgiegganbpaaDoorVs
set_option linter.unusedVariables false
set_option linter.unusedSimpArgs false
namespace Go.Proofs.YtlhcgiegganbpaaDoorVs
def sgL (L : List (Nat × Nat × Sig)) : Sigs := fun f => L.filterMap fun e => if e.1 = f then some e.2 else none
theorem sgL_mem {L : List (Nat × Nat × Sig)} {f k : Nat} {g : Sig} (h : (k, g) ∈ sgL L f) : (f, k, g) ∈ L := by
  simp only [sgL, List.mem_filterMap] at h
  obtain ⟨⟨f', e⟩, h1, h2⟩ := h
  simp only at h2
  split at h2
  · rename_i hf; subst hf; cases h2; exact h1
  · cases h2
/-- the cuts that keep a row own: region and operation -/
def hsOf (cut : List Nat) : Nat → Nat → Nat := fun r i => if cut.contains (r * 1000 + i) then 1 else 0
/-- a function's text -/
def textE (P : Program) (sg : Sigs) (cut : List Nat) (fn : Func) (g : Sig) : Option Tm := (compF P sg (hsOf cut) fn g).bind fun c => tmOf c g.ps
def vcOf (P : Program) (sg : Sigs) (cut : List Nat) (fn : Func) (g : Sig) : VC := (compF P sg (hsOf cut) fn g).getD .stuck
theorem textE_ok {P : Program} {sg : Sigs} {cut : List Nat} {fn : Func} {g : Sig} {t : Tm} (h : textE P sg cut fn g = some t) : compF P sg (hsOf cut) fn g = some (vcOf P sg cut fn g) ∧ tmOf (vcOf P sg cut fn g) g.ps = some t := by
  simp only [textE, Option.bind_eq_some_iff] at h
  obtain ⟨c, h1, h2⟩ := h
  unfold vcOf
  rw [h1]
  exact ⟨rfl, h2⟩
theorem compF_64 {P : Program} {sg : Sigs} {hs : Nat → Nat → Nat} {fn : Func} {g : Sig} {c : VC} (h : compF P sg hs fn g = some c) : g.ps.all (fun p => ms64 0 p.ms) = true := by
  unfold compF at h
  split at h
  · rename_i hc
    rw [Bool.and_eq_true] at hc
    exact hc.2
  · cases h
def tabV : List (Nat × Nat × VC × List PSh) → Nat → Nat → Option (VC × List PSh)
  | [], _, _ => none
  | e :: r, f, k => if e.1 = f ∧ e.2.1 = k then some e.2.2 else tabV r f k
def tabG : List (Nat × Nat × (List (List V) → Option (List (List V)))) → Nat → Nat → Option (List (List V) → Option (List (List V)))
  | [], _, _ => none
  | e :: r, f, k => if e.1 = f ∧ e.2.1 = k then some e.2.2 else tabG r f k
theorem told_ok {P : Program} {sg : Sigs} {cut : List Nat} {fn : Func} {g : Sig} {Φ : Funs} {n : Nat} {vs : List V} {F : TR} (hx : (textE P sg cut fn g).map (fun t => t.eval Φ n vs) = some F) : compF P sg (hsOf cut) fn g = some (vcOf P sg cut fn g) := by
  obtain ⟨t, ht, _⟩ := Option.map_eq_some_iff.1 hx
  exact (textE_ok ht).1
/-- a function's answer out of its text -/
theorem fix_text {P : Program} {sg : Sigs} {cut : List Nat} {fn : Func} {g : Sig} {T : Tab} {f k n : Nat} {xss raw : List (List V)} {F : TR} {vs : List V} (hg : T.gv f k = none) (hv : T.vc f k = some (vcOf P sg cut fn g, g.ps)) (hx : (textE P sg cut fn g).map (fun t => t.eval (Fix T) n vs) = some F)
    (hvs : vs = xss.flatten.reverse) (hL : LensOK g.ps xss) (he : F = some (.ret raw)) : Fix T f k xss = some raw := by
  obtain ⟨t, ht, h1⟩ := Option.map_eq_some_iff.1 hx
  obtain ⟨h2, h3⟩ := textE_ok ht
  exact fix_intro hg hv (tm_ok h3 hL (compF_64 h2) (by rw [← hvs, h1, he]))
end Go.Proofs.YtlhcgiegganbpaaDoorVs
set_option linter.unusedVariables false
set_option linter.unusedSimpArgs false
namespace Go.Proofs.YtlhcgiegganbpaaDoorVs
section
variable {P : Program} {w0 : World} {M : Nat → Prop} {N : Fr} {α α' β : Al} {ν ν' : Env} {L : Lay} {a : Act} {w w' : World} {Φ : Funs}
theorem op_value {o : Oper} {v : Value} {K : Act → World → Prop} {Q : Exit → Act → World → Prop} (h : (execOp a.eval o).run P w = .ok (.value v) w) (hK : K (a.put o.dst v) w) : o.wp P a w K Q := by
  unfold Oper.wp
  rw [h]
  exact hK
/-- a body that asks first whether its slice is nil -/
def nilBody (id0 id1 : Nat) (T t0 t1 t2 T' : TypeId) (p0 p1 p2 : String) (e0 e1 e2 : Array Edge) (c1 c2 : Code) : Code :=
  .seq (.region id0 #[⟨some 2, .assign (.const (.slice none 0 0)), t0, p0, e0, none⟩] false)
    (.seq (.seq (.region id1 #[⟨some 3, .move (.tmp 0), t1, p1, e1, none⟩, ⟨some 4, .binOp .eql T (.tmp 3) (.const (.slice none 0 0)) T', t2, p2, e2, none⟩] false) (.cond (.tmp 4) c1 .skip)) c2)
theorem sim_nil {GW : World → Prop} (hG : GWDep GW) (hm : P.follows .mixedOrders = true) {f : FuncId} {fn : Func} {rs : List RSh} {sg : Sigs} {hs : Nat → Nat → Nat} {cA cB : VC} {φ : List (List V) → Option (List (List V))} {m : PM}
    {id0 id1 : Nat} {T E t0 t1 t2 T' : TypeId} {p0 p1 p2 : String} {e0 e1 e2 : Array Edge} {c1 c2 : Code}
    (hf : P.funcs[f]? = some fn) (hname : (fn.name == "runtime.NumGoroutine") = false) (hb : fn.body = some (nilBody id0 id1 T t0 t1 t2 T' p0 p1 p2 e0 e1 e2 c1 c2)) (hu : P.underlying T = some (.slice E)) (hN : 4 < fn.ntmps) (hmo : m ≠ .own)
    (hA : compF P sg hs { fn with body := some c1 } ⟨[.one m], rs⟩ = some cA) (hA2 : ((comp (cxOf P sg hs { fn with body := some c1 } ⟨[.one m], rs⟩) c1 (inAl fn.ntmps [.one m])).map fun r => r.nm.isNone) = some true)
    (hB : compF P sg hs { fn with body := some c2 } ⟨[.one m], rs⟩ = some cB) (hsim : ∀ f k g, (k, g) ∈ sg f → Sim P GW f g (Φ f k))
    (hφ : ∀ xss raw, φ xss = some raw → ∃ e xs, xss = [[.list e xs]] ∧ (xs = [] → ∃ n, cA.run Φ n (env0 [.one m] xss) = some (.ret raw)) ∧ ∃ n, cB.run Φ n (env0 [.one m] xss) = some (.ret raw)) : Sim P GW f ⟨[.one m], rs⟩ φ := by
  obtain ⟨h1, h2, _⟩ := compF_chk hA
  refine ⟨⟨fn, hf, hname, by rw [hb]; rfl⟩, fun F S w xss cs raw hFS hS hPA hnd hB0 hgw h0n hr => ?_⟩
  obtain ⟨e, xs, rfl, hφA, n2, hn2⟩ := hφ xss raw hr
  refine calls_of_wp hf hb ?_
  have R := entry (P := P) (kl := keepS 0 [.one m]) hFS hS hPA hnd hB0 h1 h2
  have hkl : keepS 0 [PSh.one m] = [] := rfl
  have hdead : ∀ d, 0 < d → (inAl fn.ntmps [.one m]).slot d = .one .dead := fun d hd => by
    simp only [inAl, Al.slot, List.getD_eq_getElem?_getD]
    rw [List.getElem?_append_right (by rw [inSl_len]; exact hd), List.getElem?_replicate]
    split <;> rfl
  have hW : ∀ d, d < fn.ntmps → (frN fn ⟨[.one m], rs⟩ cs F).W d := fun d hd => ⟨hd, by simp [frN, hkl]⟩
  have R1 := R.putDead (hW 2 (by omega)) (hdead 2 (by omega)) (.slice none 0 0)
  refine wp_seq (wp_region ?_)
  refine .inl (op_value (v := .slice none 0 0) (by simp [execOp, Act.eval]) ?_)
  show Code.wp P _ _ (Act.put { tmps := cs.toArray ++ Array.replicate (fn.ntmps - cs.toArray.size) undef, defers := [] } (some 2) (.slice none 0 0)) w
  generalize hac : Act.put { tmps := cs.toArray ++ Array.replicate (fn.ntmps - cs.toArray.size) undef, defers := [] } (some 2) (.slice none 0 0) = ac
  refine wp_seq (wp_seq (wp_region ?_))
  have R1' : Rel P w (· ∈ argsB w [.one m] cs) (frN fn ⟨[.one m], rs⟩ cs F) (inAl fn.ntmps [.one m]) (env0 [.one m] [[.list e xs]]) (L0 w [.one m] [[.list e xs]] cs F S) ac w := by rw [← hac]; exact R1
  have hsize : ac.tmps.size = fn.ntmps := R1'.nt.size
  -- what the slot of the parameter holds
  have hsl : ∃ (a0 : Option Addr) (l cap : Nat), ac.tmps.getD 0 undef = .slice a0 l cap ∧ (a0 = none → xs = []) := by
    have H := R1'.slots 0
    have hs0 : ∃ s, (inAl fn.ntmps [.one m]).slot 0 = .one (.v s) := by
      cases m with
      | own => exact absurd rfl hmo
      | fz => exact ⟨.fz, rfl⟩
      | lent => exact ⟨.lent, rfl⟩
    obtain ⟨s, hs0⟩ := hs0
    rw [hs0] at H
    obtain ⟨y, hy, hr0⟩ := RAs.single H
    have hy' : y = .list e xs := by
      have : env0 [.one m] [[.list e xs]] (sC 0) = [inV m (.list e xs)] := rfl
      rw [this] at hy
      cases m with
      | own => exact absurd rfl hmo
      | fz => simpa [inV] using hy.symm
      | lent => simpa [inV] using hy.symm
    subst hy'
    rcases hr0 with hr0 | hr0
    · cases hr0
    have hr0' : Rd P _ w (.list e xs) (ac.tmps.getD 0 undef) := hr0
    rcases hr0'.inv e xs rfl with ⟨hx, a0, cap, hc⟩ | ⟨b, o, cap, sz, ag, f, hc, _⟩
    · exact ⟨a0, 0, cap, hc, fun _ => hx⟩
    · exact ⟨_, _, cap, hc, fun h => by cases h⟩
  obtain ⟨a0, l, cap, hc0, hnil⟩ := hsl
  refine .inl (op_value (v := .slice a0 l cap) ?_ ?_)
  · have : ac.eval (.tmp 0) = .slice a0 l cap := hc0
    simp [execOp, this]
  have R2 := R1'.putDead (hW 3 (by omega)) (hdead 3 (by omega)) (.slice a0 l cap)
  have h3 : (ac.put (some 3) (.slice a0 l cap)).eval (.tmp 3) = .slice a0 l cap := by
    have := getD_put ac 3 (.slice a0 l cap) 3 (by omega)
    rw [if_pos rfl] at this
    exact this
  refine .inl (op_value (v := .bool a0.isNone) ?_ ?_)
  · show (execOp (ac.put (some 3) (.slice a0 l cap)).eval _).run P w = _
    have hk : (ac.put (some 3) (.slice a0 l cap)).eval (.const (.slice none 0 0)) = .slice none 0 0 := rfl
    have hg : (eqGuard .eql T (.tmp 3) (.const (.slice none 0 0)) (.slice a0 l cap) (.slice none 0 0)).run P w = .ok () w := eqGuard_scalar ⟨fun cs e => (by cases e), fun e => (by cases e)⟩
    simp [execOp, h3, hk, hg, run_eql_slice_nil w T E a0 l cap hu]
  have R3 := R2.putDead (hW 4 (by omega)) (hdead 4 (by omega)) (.bool a0.isNone)
  have h4 : ((ac.put (some 3) (.slice a0 l cap)).put (some 4) (.bool a0.isNone)).eval (.tmp 4) = .bool a0.isNone := by
    have := getD_put (ac.put (some 3) (.slice a0 l cap)) 4 (.bool a0.isNone) 4 (by have := R2.nt.size; simp only [frN] at this; omega)
    rw [if_pos rfl] at this
    exact this
  show Code.wp P _ _ _ _
  refine wp_cond h4 ?_
  cases hn : a0.isNone with
  | true =>
    have hx : xs = [] := hnil (by simpa using hn)
    obtain ⟨n1, hn1⟩ := hφA hx
    rw [hn] at R3
    refine wp_mono (body_wp (fn0 := fn) hG hm (fn := { fn with body := some c1 }) rfl rfl rfl hA hsim hPA hgw h0n R3 hn1) fun e a w' hp => ?_
    obtain ⟨hp1, hp2⟩ := hp
    have := hp2 hA2
    subst this
    exact hp1
  | false =>
    rw [hn] at R3
    refine wp_skip ?_
    exact wp_mono (body_wp (fn0 := fn) hG hm (fn := { fn with body := some c2 }) rfl rfl rfl hB hsim hPA hgw h0n R3 hn2) fun e a w' hp => hp.1
end
end Go.Proofs.YtlhcgiegganbpaaDoorVs
set_option linter.unusedVariables false
set_option linter.unusedSimpArgs false
namespace Go.Proofs.YtlhcgiegganbpaaDoorVs
open Go.RowKit (Below)
theorem law_calls {P : Program} {GW : World → Prop} {f : FuncId} {ps : List PSh} {φ : List (List V) → Option (List (List V))} (hs : Sim P GW f ⟨ps, [.one .fz]⟩ φ) {w : World} {xss : List (List V)} {cs : List Value} (hg : GW w)
    (hA : PArgs P (fun b => b < w.heap.size) (fun b => b < w.heap.size) w ps xss cs) (hB : argsB w ps cs = []) (hφ : φ xss = some [[.bool true]]) :
    Calls P f cs.toArray w fun e w' => e = .returned (.bool true) ∧ Below w.heap.size w w' := by
  refine (hs.calls _ _ w xss cs _ (fun b h => h) (fun b h => h) hA (by rw [hB]; exact List.nodup_nil) (by rw [hB]; simp) hg (by rw [hB]; simp) hφ).mono ?_
  rintro e w' ⟨vs, F', rfl, SP⟩
  obtain ⟨raw1, raw2, hr, hl, hres, _⟩ := SP.res
  have : vs = [.bool true] := by
    match raw1, hl, hres with
    | [xs], _, hres =>
      match vs, hres with
      | [v], ⟨h1, _⟩ =>
        have hx : xs = [.bool true] := by
          simp only [List.cons_append, List.nil_append, List.cons.injEq] at hr
          exact hr.1.symm
        subst hx
        have h2 : PCells P F' F' w' [.fz] [.bool true] [v] := h1
        obtain ⟨_, h3⟩ := h2.ok 0 (by simp) (by simp) (by simp)
        have h4 : Rd P F' w' (.bool true) v := h3
        cases h4
        rfl
      | [], h => exact h.elim
      | _ :: _ :: _, h => exact h.2.elim
  subst this
  refine ⟨rfl, ?_⟩
  have hw := SP.hw
  exact ⟨hw.os, hw.tape, hw.output, hw.size, fun k hk => hw.block k hk (by rw [hB]; simp)⟩
/-- a function that answers one plain value, by its contract -/
theorem sim_plain {P : Program} {GW : World → Prop} {f : FuncId} {ps : List PSh} {φ : List (List V) → Option (List (List V))} (en : ∃ fn, P.funcs[f]? = some fn ∧ (fn.name == "runtime.NumGoroutine") = false ∧ fn.body.isNone = false)
    (h : ∀ (F S : Nat → Prop) (w : World) (xss : List (List V)) (cs : List Value) (raw : List (List V)), PArgs P F S w ps xss cs → GW w → φ xss = some raw → argsB w ps cs = [] ∧ backsOf ps cs = [] ∧ ∃ x v, raw = [[x]] ∧ x ≠ .undef ∧ blkG [.fz] [v] = [] ∧ (∀ F w, Rd P F w x v) ∧
      Calls P f cs.toArray w fun e w' => e = .returned v ∧ Below w.heap.size w w') : Sim P GW f ⟨ps, [.one .fz]⟩ φ := by
  refine ⟨en, fun F S w xss cs raw hFS hS hA hnd hB hg h0 hr => ?_⟩
  obtain ⟨hB0, hbk, x, v, rfl, hx, hbl, hrd, hc⟩ := h F S w xss cs raw hA hg hr
  refine hc.mono ?_
  rintro e w' ⟨rfl, bel⟩
  refine ⟨[v], F, rfl, ?_⟩
  exact {
    hw := ⟨bel.os, bel.tape, bel.output, bel.size, fun b hb _ => bel.block b hb⟩
    hF := fun b hb => hb
    hF' := fun b hb => .inl hb
    res := ⟨[[x]], [], rfl, rfl, ⟨PCells.cons hx (hrd _ _) PCells.nil, trivial⟩, by rw [hbk]; trivial⟩
    nd := by simp only [ressB, resB, hbl, hbk, backsB]; simp
    bl := fun b hb => by simp only [ressB, resB, hbl, hbk, backsB] at hb; simp at hb }
/-- the number of an error -/
def numφ (E : TypeId) : List (List V) → Option (List (List V))
  | [[.nilI]] => some [[.int .i64 0]]
  | [[.iface t (.int .i64 k)]] => if t = E then some [[.int .i64 k]] else none
  | _ => none
theorem sim_num {P : Program} {GW : World → Prop} {f : FuncId} {E : TypeId} (en : ∃ fn, P.funcs[f]? = some fn ∧ (fn.name == "runtime.NumGoroutine") = false ∧ fn.body.isNone = false)
    (h0 : ∀ w, Calls P f #[.nilIface] w fun e w' => e = .returned (.int .i64 0) ∧ Below w.heap.size w w') (h1 : ∀ (k : Int) (w : World), GW w → Calls P f #[.iface E (.int .i64 k)] w fun e w' => e = .returned (.int .i64 k) ∧ Below w.heap.size w w') : Sim P GW f ⟨[.one .fz], [.one .fz]⟩ (numφ E) := by
  refine sim_plain en fun F S w xss cs raw hA hg hr => ?_
  have one : ∀ x, xss = [[x]] → ∃ c, cs = [c] ∧ Rd P F w x c := by
    rintro x rfl
    match cs, hA with
    | [c], ⟨hA1, _⟩ =>
      have h2 : PCells P F S w [.fz] [x] [c] := hA1
      obtain ⟨_, h3⟩ := h2.ok 0 (by simp) (by simp) (by simp)
      exact ⟨c, rfl, h3⟩
  unfold numφ at hr
  split at hr
  · cases hr
    obtain ⟨c, rfl, hc⟩ := one _ rfl
    cases hc
    exact ⟨rfl, rfl, .int .i64 0, .int .i64 0, rfl, by simp, rfl, fun _ _ => .int _ _, h0 w⟩
  · rename_i t k
    split at hr
    · rename_i ht
      subst ht
      cases hr
      obtain ⟨c, rfl, hc⟩ := one _ rfl
      cases hc with
      | iface _ _ c2 hc2 =>
        cases hc2
        exact ⟨rfl, rfl, .int .i64 k, .int .i64 k, rfl, by simp, rfl, fun _ _ => .int _ _, h1 k w hg⟩
    · cases hr
  · cases hr
end Go.Proofs.YtlhcgiegganbpaaDoorVs
set_option linter.unusedVariables false
set_option linter.unusedSimpArgs false
namespace Go.Proofs.YtlhcgiegganbpaaDoorVs
def TLe (f g : TR) : Prop := ∀ o, f = some o → g = some o
theorem app_mono : ∀ {m : Nat} {F G : List V → TR}, (∀ zs, TLe (F zs) (G zs)) → ∀ zs, TLe (app m (cur m F) zs) (app m (cur m G) zs) := fun {m F G} h zs o ho => by
  obtain ⟨h1, h2⟩ := app_cur ho
  have h3 := h zs o h2
  clear h2 ho h
  induction m generalizing F G zs with
  | zero =>
    cases zs with
    | nil => exact h3
    | cons => simp at h1
  | succ m ih =>
    cases zs with
    | nil => simp at h1
    | cons z zs =>
      show app m (cur m fun l => G (z :: l)) zs = some o
      exact ih (F := fun l => F (z :: l)) zs (by simpa using h1) h3
theorem eval_mono {Φ Ψ : Funs} (hl : FLe Φ Ψ) {n : Nat} : ∀ (t : Tm) (vs : List V), TLe (t.eval Φ n vs) (t.eval Ψ n vs)
  | .op1 f args k, vs, o, h => by
    simp only [Tm.eval, op1V, Option.bind_eq_some_iff] at h ⊢
    obtain ⟨r, h1, h2⟩ := h
    refine ⟨r, sem_mono hl h1, ?_⟩
    unfold k1 at h2 ⊢
    split at h2
    · exact eval_mono hl k _ o h2
    · cases h2
  | .opn f args m k, vs, o, h => by
    simp only [Tm.eval, opnV, Option.bind_eq_some_iff] at h ⊢
    obtain ⟨r, h1, h2⟩ := h
    refine ⟨r, sem_mono hl h1, ?_⟩
    unfold kn at h2 ⊢
    split at h2
    · exact app_mono (fun zs => eval_mono hl k _) _ o h2
    · cases h2
  | .call f w ins ps k, vs, o, h => by
    simp only [Tm.eval, callV, Option.bind_eq_some_iff] at h ⊢
    obtain ⟨raw, h1, zs, h2, h3⟩ := h
    exact ⟨raw, hl _ _ _ _ h1, zs, h2, app_mono (fun zs => eval_mono hl k _) _ o h3⟩
  | .chk kd a k, vs, o, h => by
    simp only [Tm.eval] at h ⊢
    unfold chkV at h ⊢
    split at h <;> first | exact eval_mono hl k _ o h | cases h
  | .ite c a b, vs, o, h => by
    simp only [Tm.eval] at h ⊢
    unfold iteV at h ⊢
    split at h <;> first | exact eval_mono hl a _ o h | exact eval_mono hl b _ o h | cases h
  | .gd c want ud a b, vs, o, h => by
    simp only [Tm.eval] at h ⊢
    unfold gdV at h ⊢
    split at h
    · split at h
      · rename_i hb; rw [if_pos hb]; exact eval_mono hl a _ o h
      · rename_i hb; rw [if_neg hb]; exact eval_mono hl b _ o h
    · split at h
      · rename_i hb; rw [if_pos hb]; exact eval_mono hl b _ o h
      · cases h
    · cases h
  | .norm lens as, vs, o, h => h
  | .exit id lens as, vs, o, h => h
  | .ret rs, vs, o, h => h
  | .blk id b lens k, vs, o, h => by
    simp only [Tm.eval] at h ⊢
    obtain ⟨o1, h1, h2⟩ := blk_inv h
    have h3 := eval_mono hl b vs o1 h1
    simp only [blkV, h3, Option.bind_some]
    rcases h2 with ⟨l, zs, rfl, rfl, h2⟩ | ⟨j, l, zs, rfl, ⟨hj, rfl, h2⟩ | ⟨hj, rfl⟩⟩ | ⟨rs, rfl, rfl⟩
    · simp only [if_true]; exact app_mono (fun zs => eval_mono hl k _) _ o h2
    · simp only [hj, if_true]; exact app_mono (fun zs => eval_mono hl k _) _ o h2
    · simp only [if_neg hj]
    · rfl
  | .lp lens init b, vs, o, h => by
    simp only [Tm.eval] at h ⊢
    have key : ∀ (k : Nat) (zs : List V), TLe (lpV lens (app (total lens) (cur (total lens) fun zs => b.eval Φ n (zs.reverse ++ vs))) k zs) (lpV lens (app (total lens) (cur (total lens) fun zs => b.eval Ψ n (zs.reverse ++ vs))) k zs) := by
      intro k
      induction k with
      | zero => intro zs o h; cases h
      | succ k ih =>
        intro zs o h
        simp only [lpV, Option.bind_eq_some_iff] at h ⊢
        obtain ⟨o1, h1, h2⟩ := h
        refine ⟨o1, app_mono (fun zs => eval_mono hl b _) _ o1 h1, ?_⟩
        cases o1 with
        | norm l vs' =>
          simp only at h2 ⊢
          split at h2
          · rename_i hl2; rw [if_pos hl2]; exact ih _ o h2
          · cases h2
        | exit j l vs' => exact h2
        | ret rs => exact h2
    exact key n _ o h
  | .fail, vs, o, h => by cases h
abbrev FT := List (Nat × Nat × (Funs → Nat → List (List V) → TR))
def lkF : FT → Nat → Nat → Option (Funs → Nat → List (List V) → TR)
  | [], _, _ => none
  | e :: r, f, k => if e.1 = f ∧ e.2.1 = k then some e.2.2 else lkF r f k
theorem lkF_mem : ∀ {l : FT} {f k : Nat} {F : Funs → Nat → List (List V) → TR}, lkF l f k = some F → (f, k, F) ∈ l
  | e :: r, f, k, F, h => by
    simp only [lkF] at h
    split at h
    · rename_i he
      cases h
      obtain ⟨rfl, rfl⟩ := he
      exact List.mem_cons_self
    · exact List.mem_cons_of_mem _ (lkF_mem h)
/-- what the texts answer -/
def evT (gv : Nat → Nat → Option (List (List V) → Option (List (List V)))) (ft : FT) : Nat → Funs
  | 0 => fun _ _ _ => none
  | n + 1 => fun f k xss => match gv f k with
    | some φ => φ xss
    | none => match lkF ft f k with
      | some F => match F (evT gv ft n) n xss with
        | some (.ret raw) => some raw
        | _ => none
      | none => none
theorem evT_ok {T : Tab} {ft : FT} (h : ∀ f k F, lkF ft f k = some F → ∀ (Φ : Funs) n xss raw, FLe Φ (Fix T) → F Φ n xss = some (.ret raw) → T.gv f k = none → Fix T f k xss = some raw) : ∀ n, FLe (evT T.gv ft n) (Fix T)
  | 0 => fun f k xss raw h => by cases h
  | n + 1 => fun f k xss raw hr => by
    simp only [evT] at hr
    split at hr
    · rename_i φ hg; exact fix_given hg hr
    · rename_i hg
      split at hr
      · rename_i F hF
        split at hr
        · rename_i r hr2
          cases hr
          exact h f k F hF _ n xss raw (evT_ok h n) hr2 hg
        · cases hr
      · cases hr
/-- a text that comes to an answer does so with more answers at hand -/
theorem text_mono {P : Program} {sg : Sigs} {cut : List Nat} {fn : Func} {g : Sig} {Φ Ψ : Funs} {n : Nat} {vs : List V} {F G : TR} (hl : FLe Φ Ψ) (h1 : (textE P sg cut fn g).map (fun t => t.eval Φ n vs) = some F) (h2 : (textE P sg cut fn g).map (fun t => t.eval Ψ n vs) = some G) : TLe F G := by
  obtain ⟨t, ht, rfl⟩ := Option.map_eq_some_iff.1 h1
  rw [ht] at h2
  cases h2
  exact eval_mono hl t vs

/-! ### slices.Clone -/
def cl1 (fn : Func) : Code := match fn.body with
  | some (.seq _ (.seq (.seq _ (.cond _ c1 _)) _)) => c1
  | _ => .skip
def cl2 (fn : Func) : Code := match fn.body with
  | some (.seq _ (.seq (.seq _ (.cond _ _ _)) c2)) => c2
  | _ => .skip
def cloneφ (E : TypeId) (bs : Nat) (sc : Bool) : List (List V) → Option (List (List V))
  | [[.list e xs]] => if ((e = E) ∧ (sc = true → xs.all scalarE = true)) ∧ xs.length * bs ≤ 140737488355328 then some [[.list E xs]] else none
  | _ => none
theorem sim_clone {P : Program} {GW : World → Prop} (hG : GWDep GW) (hm : P.follows .mixedOrders = true) {f : FuncId} {fn : Func} {m : PM} {id0 id1 : Nat} {T E t0 t1 t2 T' : TypeId} {p0 p1 p2 : String} {e0 e1 e2 : Array Edge} {bs : Nat} {sc : Bool}
    (hf : P.funcs[f]? = some fn) (hname : (fn.name == "runtime.NumGoroutine") = false) (hb : fn.body = some (nilBody id0 id1 T t0 t1 t2 T' p0 p1 p2 e0 e1 e2 (cl1 fn) (cl2 fn))) (hu : P.underlying T = some (.slice E)) (hN : 4 < fn.ntmps) (hmo : m ≠ .own)
    (hA2 : ((comp (cxOf P (sgL []) (hsOf []) { fn with body := some (cl1 fn) } ⟨[.one m], [.one .own]⟩) (cl1 fn) (inAl fn.ntmps [.one m])).map fun r => r.nm.isNone) = some true)
    (hA : ∀ (Φ : Funs) (n : Nat) (v0 : V), (textE P (sgL []) [] { fn with body := some (cl1 fn) } ⟨[.one m], [.one .own]⟩).map (fun t => t.eval Φ n [v0]) = some (some (.ret [[.list E []]])))
    (hB : ∀ (Φ : Funs) (n : Nat) (v0 : V), (textE P (sgL []) [] { fn with body := some (cl2 fn) } ⟨[.one m], [.one .own]⟩).map (fun t => t.eval Φ n [v0]) = some (op1V Φ (.mk E []) [] fun v1 => chkV 2 v0 <| op1V Φ (.app E bs sc) [[v1], [v0]] fun v2 => some (.ret [[v2]]))) : Sim P GW f ⟨[.one m], [.one .own]⟩ (cloneφ E bs sc) := by
  let Φ : Funs := fun _ _ _ => none
  obtain ⟨tA, htA, _⟩ := Option.map_eq_some_iff.1 (hA Φ 0 .unit)
  obtain ⟨tB, htB, _⟩ := Option.map_eq_some_iff.1 (hB Φ 0 .unit)
  obtain ⟨hcA, hmA⟩ := textE_ok htA
  obtain ⟨hcB, hmB⟩ := textE_ok htB
  refine sim_nil (Φ := Φ) hG hm hf hname hb hu hN hmo hcA hA2 hcB (fun f k g h => by simp [sgL] at h) (fun xss raw hr => ?_)
  unfold cloneφ at hr
  split at hr
  · rename_i e xs
    split at hr
    · rename_i hc
      cases hr
      obtain ⟨⟨rfl, hs⟩, hsz⟩ := hc
      refine ⟨e, xs, rfl, fun hx => ⟨0, ?_⟩, ⟨0, ?_⟩⟩
      · subst hx
        refine tm_ok hmA ⟨rfl, trivial⟩ (compF_64 hcA) ?_
        have := hA Φ 0 (.list e [])
        rw [htA] at this
        exact Option.some.inj this
      · refine tm_ok hmB ⟨rfl, trivial⟩ (compF_64 hcB) ?_
        have := hB Φ 0 (.list e xs)
        rw [htB] at this
        have h2 : tB.eval Φ 0 [.list e xs] = _ := Option.some.inj this
        show tB.eval Φ 0 [.list e xs] = _
        rw [h2]
        simp only [op1V, VF.sem, List.mapM_nil, Option.pure_def, Option.map_some, Option.bind_some, k1, chkV]
        rw [if_pos ⟨⟨⟨trivial, trivial⟩, hs⟩, by simpa using hsz⟩]
        rfl
    · cases hr
  · cases hr
end Go.Proofs.YtlhcgiegganbpaaDoorVs
