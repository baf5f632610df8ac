/-
  Several texts in one: A Sched that may be stays one. No condition but each lemma's own premises. | What is copied and counted, and ProcKeeps. No condition but each lemma's own premises. | A law's parameters as a call's arguments. No condition but each lemma's own premises. | What ProcKeeps' parameters read as. No condition but each lemma's own premises.
-/
import Derived.Test.YtlhcgiegganbpaaDoorVM11
import Derived.Test.YtlhcgiegganbpaaDoorVM9
set_option linter.unusedVariables false
set_option linter.unusedSimpArgs false
set_option maxRecDepth 100000
namespace Go.Proofs.YtlhcgiegganbpaaDoorVs
def Sc.ids (s : Sc) : List Int := s.ready.map Pr.id ++ s.waits.map Pr.id ++ (if s.busy = true then [s.cur.id] else [])
def Sc.cnt (s : Sc) : Nat := s.ready.length + s.waits.length + (if s.busy = true then 1 else 0)
structure Sc.Inv (s : Sc) : Prop where
  tk : tkOk s.ticks = true
  l1 : -1 ≤ s.left
  l2 : s.left ≤ 65536
  cu : s.busy = true ∨ (s.left = 0 ∧ s.cur = nilP)
  cs : s.cur.sem = 0
  rd : ∀ p ∈ s.ready, p.may = true ∧ p.sem = 0
  wt : ∀ p ∈ s.waits, p.may = true
  cm : s.busy = true → s.cur.may = true
  nd : s.ids.Nodup
  ln : s.cnt ≤ 8
theorem scan_iff : ∀ (l pre : List Pr), scan pre l = true ↔ (∀ p ∈ l, p.may = true) ∧ (l.map Pr.id).Nodup ∧ ∀ p ∈ l, ∀ q ∈ pre, q.id ≠ p.id
  | [], pre => by simp [scan]
  | x :: r, pre => by
    unfold scan
    simp only [Bool.and_eq_true, Bool.not_eq_true', scan_iff r (pre ++ [x]), List.any_eq_false, decide_eq_true_eq, List.mem_cons, forall_eq_or_imp, List.map_cons, List.nodup_cons, List.mem_map, not_exists, not_and, List.mem_append, List.mem_singleton]
    constructor
    · rintro ⟨⟨h1, h2⟩, h3, h4, h5⟩
      exact ⟨⟨h1, h3⟩, ⟨fun p hp he => h5 p hp x (.inr (.inl rfl)) he.symm, h4⟩, h2, fun p hp q hq => h5 p hp q (.inl hq)⟩
    · rintro ⟨⟨h1, h3⟩, ⟨h6, h4⟩, h2, h5⟩
      refine ⟨⟨h1, h2⟩, h3, h4, fun p hp q hq => ?_⟩
      rcases hq with hq | rfl | hq
      · exact h5 p hp q hq
      · exact fun e => h6 p hp e.symm
      · cases hq
theorem all_ids (s : Sc) : s.all.map Pr.id = s.ids := by
  unfold Sc.all Sc.ids
  split <;> simp
theorem all_cnt (s : Sc) : s.all.length = s.cnt := by
  unfold Sc.all Sc.cnt
  split <;> simp <;> omega
theorem all_mem (s : Sc) (P : Pr → Prop) : (∀ p ∈ s.all, P p) ↔ (∀ p ∈ s.ready, P p) ∧ (∀ p ∈ s.waits, P p) ∧ (s.busy = true → P s.cur) := by
  unfold Sc.all
  constructor
  · intro h
    refine ⟨fun p hp => h p (by simp [hp]), fun p hp => h p (by simp [hp]), fun hb => h _ (by simp [hb])⟩
  · rintro ⟨h1, h2, h3⟩ p hp
    simp only [List.mem_append] at hp
    rcases hp with (hp | hp) | hp
    · exact h1 p hp
    · exact h2 p hp
    · split at hp
      · rename_i hb
        rw [List.mem_singleton.1 hp]
        exact h3 hb
      · simp at hp
theorem ok_iff (s : Sc) : s.ok = true ↔ s.Inv := by
  have h3 := scan_iff s.all []
  have h4 := all_mem s (fun p => p.may = true)
  rw [all_ids] at h3
  have h5 := all_cnt s
  constructor
  · intro h
    simp only [Sc.ok, Bool.and_eq_true, Bool.or_eq_true, Bool.not_eq_true', decide_eq_true_eq, decide_eq_false_iff_not, List.any_eq_false] at h
    obtain ⟨⟨⟨⟨⟨⟨⟨a1, a2⟩, a3⟩, a4⟩, a5⟩, a6⟩, a7⟩, a8⟩ := h
    obtain ⟨b1, b2, _⟩ := h3.1 a6
    obtain ⟨c1, c2, c3⟩ := h4.1 b1
    exact ⟨a1, by omega, by omega, a4, a5, fun p hp => ⟨c1 p hp, by simpa using a8 p hp⟩, c2, c3, b2, by omega⟩
  · intro h
    simp only [Sc.ok, Bool.and_eq_true, Bool.or_eq_true, Bool.not_eq_true', decide_eq_true_eq, decide_eq_false_iff_not, List.any_eq_false]
    refine ⟨⟨⟨⟨⟨⟨⟨h.tk, by have := h.l1; omega⟩, by have := h.l2; omega⟩, h.cu⟩, h.cs⟩, h3.2 ⟨h4.2 ⟨fun p hp => (h.rd p hp).1, h.wt, h.cm⟩, h.nd, by simp⟩⟩, by have := h.ln; omega⟩, fun p hp => ?_⟩
    simp [(h.rd p hp).2]
theorem Sc.Inv.sm {s : Sc} (h : s.Inv) : s.Sm := by
  have := h.ln
  unfold Sc.cnt at this
  exact ⟨by omega, by omega⟩
theorem tickB_f {n : Int} : tickB n = false ↔ 1 ≤ n ∧ n ≤ 65536 := by
  simp only [tickB, Bool.or_eq_false_iff, decide_eq_false_iff_not]
  omega
theorem tickL_f {t : List Int} : tickL t = false ↔ t.length ≤ 256 ∧ ∀ n ∈ t, 1 ≤ n ∧ n ≤ 65536 := by
  simp only [tickL, Bool.or_eq_false_iff, decide_eq_false_iff_not, List.any_eq_false, Bool.not_eq_true, tickB_f]
  constructor
  · rintro ⟨h1, h2⟩; exact ⟨by omega, h2⟩
  · rintro ⟨h1, h2⟩; exact ⟨by omega, h2⟩
theorem tk_iff {l : List (List Int)} : tkOk l = true ↔ l.length ≤ 8 ∧ ∀ t ∈ l, t.length ≤ 256 ∧ ∀ n ∈ t, 1 ≤ n ∧ n ≤ 65536 := by
  simp only [tkOk, Bool.and_eq_true, decide_eq_true_eq, Bool.not_eq_true', List.any_eq_false, Bool.not_eq_true, tickL_f]
theorem tk_le {l : List (List Int)} (h : tkOk l = true) : l.length ≤ 8 ∧ ∀ t ∈ l, t.length ≤ 256 ∧ ∀ n ∈ t, 1 ≤ n ∧ n ≤ 65536 := tk_iff.1 h
theorem tk_of {l : List (List Int)} (h : l.length ≤ 8 ∧ ∀ t ∈ l, t.length ≤ 256 ∧ ∀ n ∈ t, 1 ≤ n ∧ n ≤ 65536) : tkOk l = true := tk_iff.2 h
theorem may_iff (p : Pr) : p.may = true ↔ 0 ≤ p.id ∧ p.id ≤ 9007199254740991 ∧ 0 ≤ p.lv ∧ p.lv < 8 ∧ 0 ≤ p.sem ∧ p.sem < 65536 := by
  simp only [Pr.may, Bool.and_eq_true, decide_eq_true_eq]
  constructor <;> intro h <;> omega
theorem Sc.Inv.oks {s : Sc} (h : s.Inv) : s.Ok := by
  have hs := h.sm
  have ht := tk_le h.tk
  refine ⟨⟨by have := hs.r; omega, by have := hs.w; omega, by omega⟩, h.l2, fun p hp => ?_, fun t hm n hn => ((ht.2 t hm).2 n hn).2⟩
  rcases List.mem_cons.1 hp with rfl | hp
  · rcases h.cu with hb | ⟨_, hb⟩
    · have := (may_iff _).1 (h.cm hb); omega
    · rw [hb]; show (0 : Int) ≤ 0; omega
  · have := (may_iff _).1 (h.rd p hp).1; omega
theorem Sc.Inv.tkf {s : Sc} (h : s.Inv) : TkFew s.ticks := by
  have ht := tk_le h.tk
  exact ⟨by omega, fun t hm => by have := (ht.2 t hm).1; omega⟩
/-! ### what is done keeps it -/
theorem inv_rest {s : Sc} (h : s.Inv) : s.rest.Inv := by
  refine ⟨h.tk, by show (-1 : Int) ≤ 0; omega, by show (0 : Int) ≤ 65536; omega, .inr ⟨rfl, rfl⟩, rfl, h.rd, h.wt, (fun hb => by cases hb), ?_, ?_⟩
  · have := h.nd
    unfold Sc.ids at this ⊢
    simp only [Sc.rest, Bool.false_eq_true, if_false, List.append_nil]
    exact (List.nodup_append.1 this).1
  · have := h.ln
    unfold Sc.cnt at this ⊢
    simp only [Sc.rest, Bool.false_eq_true, if_false]
    omega
theorem inv_add {s : Sc} (h : s.Inv) (id lv : Int) : (s.add id lv).2.Inv ∧ ((s.add id lv).1 = 0 → (s.add id lv).2.cnt = s.cnt + 1) ∧ ((s.add id lv).1 ≠ 0 → (s.add id lv).2 = s) := by
  unfold Sc.add
  split
  · exact ⟨h, (fun e => by cases e), fun _ => rfl⟩
  · rename_i hm
    split
    · exact ⟨h, (fun e => by cases e), fun _ => rfl⟩
    · rename_i h8
      simp only [Bool.or_eq_true, Bool.not_eq_true', not_or, Bool.not_eq_false, List.any_eq_true, decide_eq_true_eq, not_exists, not_and] at hm
      obtain ⟨hm, hn⟩ := hm
      have hc := all_cnt s
      have hcnt : ({ s with ready := s.ready ++ [⟨id, lv, 0⟩] } : Sc).cnt = s.cnt + 1 := by
        unfold Sc.cnt; simp; omega
      have hid : ({ s with ready := s.ready ++ [⟨id, lv, 0⟩] } : Sc).ids.Perm (id :: s.ids) := by
        unfold Sc.ids
        simp only [List.map_append, List.map_cons, List.map_nil, List.append_assoc, List.singleton_append]
        exact List.perm_middle
      refine ⟨⟨h.tk, h.l1, h.l2, h.cu, h.cs, fun p hp => ?_, h.wt, h.cm, ?_, by rw [hcnt]; omega⟩, fun _ => hcnt, fun e => absurd rfl e⟩
      · rcases List.mem_append.1 hp with hp | hp
        · exact h.rd p hp
        · rw [List.mem_singleton.1 hp]; exact ⟨hm, rfl⟩
      · refine hid.nodup_iff.2 (List.nodup_cons.2 ⟨?_, h.nd⟩)
        rw [← all_ids]
        intro hi
        obtain ⟨p, hp, he⟩ := List.mem_map.1 hi
        exact hn p hp he
theorem inv_wait {s : Sc} (h : s.Inv) (sem : Int) : (s.wait sem).2.Inv ∧ (s.wait sem).2.cnt = s.cnt := by
  unfold Sc.wait
  split
  · exact ⟨h, rfl⟩
  · split
    · rename_i hsm hb
      have hm := h.cm hb
      refine ⟨⟨h.tk, by show (-1 : Int) ≤ 0; omega, by show (0 : Int) ≤ 65536; omega, .inr ⟨rfl, rfl⟩, rfl, h.rd, fun p hp => ?_, (fun hb => by cases hb), ?_, ?_⟩, ?_⟩
      · simp only [Sc.rest, List.mem_append, List.mem_singleton] at hp
        rcases hp with hp | rfl
        · exact h.wt p hp
        · rw [may_iff] at hm ⊢
          simp only
          omega
      · have := h.nd
        unfold Sc.ids at this ⊢
        simp only [hb, if_true] at this
        simp only [Sc.rest, Bool.false_eq_true, if_false, List.append_nil, List.map_append, List.map_cons, List.map_nil]
        simpa using this
      · have := h.ln
        unfold Sc.cnt at this ⊢
        simp only [hb, if_true] at this
        simp only [Sc.rest, Bool.false_eq_true, if_false, List.length_append, List.length_singleton]
        omega
      · unfold Sc.cnt
        simp only [hb, Sc.rest, Bool.false_eq_true, if_false, if_true, List.length_append, List.length_singleton]
        omega
    · exact ⟨h, rfl⟩
theorem inv_fini {s : Sc} (h : s.Inv) : s.fini.2.Inv ∧ (s.fini.1 = 0 → s.fini.2.cnt + 1 = s.cnt) ∧ (s.fini.1 ≠ 0 → s.fini.2 = s) := by
  unfold Sc.fini
  split
  · rename_i hb
    refine ⟨inv_rest h, fun _ => ?_, fun e => absurd rfl e⟩
    unfold Sc.cnt
    simp only [hb, Sc.rest, Bool.false_eq_true, if_false, if_true]
    try omega
  · exact ⟨h, (fun e => by cases e), fun _ => rfl⟩
theorem cutF_perm (P : Pr → Bool) : ∀ (l : List Pr) (p : Pr) (r : List Pr), cutF P l = some (p, r) → l.Perm (p :: r)
  | [], p, r, h => by cases h
  | x :: l, p, r, h => by
    unfold cutF at h
    split at h
    · cases h; exact .refl _
    · simp only [Option.map_eq_some_iff, Prod.mk.injEq] at h
      obtain ⟨⟨q1, q2⟩, h1, rfl, rfl⟩ := h
      exact ((cutF_perm P l _ _ h1).cons x).trans (.swap _ _ _)
theorem inv_sig {s : Sc} (h : s.Inv) (sem : Int) : (s.sig sem).2.Inv ∧ (s.sig sem).2.cnt = s.cnt := by
  unfold Sc.sig
  split
  · exact ⟨h, rfl⟩
  · rename_i p r hc
    have hp := cutF_perm _ _ _ _ hc
    have hm := h.wt p (hp.mem_iff.2 (by simp))
    have hl := hp.length_eq
    simp only [List.length_cons] at hl
    refine ⟨⟨h.tk, h.l1, h.l2, h.cu, h.cs, fun q hq => ?_, fun q hq => h.wt q (hp.mem_iff.2 (by simp [hq])), h.cm, ?_, ?_⟩, ?_⟩
    · rcases List.mem_append.1 hq with hq | hq
      · exact h.rd q hq
      · rw [List.mem_singleton.1 hq]
        refine ⟨?_, rfl⟩
        rw [may_iff] at hm ⊢
        simp only
        omega
    · have := h.nd
      unfold Sc.ids at this ⊢
      refine (List.Perm.nodup_iff ?_).1 this
      refine List.Perm.append_right _ ?_
      simp only [List.map_append, List.map_cons, List.map_nil, List.append_assoc, List.singleton_append]
      exact List.Perm.append_left _ (hp.map Pr.id)
    · have := h.ln
      unfold Sc.cnt at this ⊢
      simp only [List.length_append, List.length_singleton]
      omega
    · unfold Sc.cnt
      simp only [List.length_append, List.length_singleton]
      omega
theorem inv_put {s : Sc} (h : s.Inv) (base : Bool) : (s.put base).Inv ∧ (s.put base).cnt = s.cnt := by
  unfold Sc.put
  split
  · rename_i hc
    simp only [Bool.and_eq_true, decide_eq_true_eq] at hc
    obtain ⟨⟨hb, _⟩, _⟩ := hc
    refine ⟨⟨h.tk, by show (-1 : Int) ≤ 0; omega, by show (0 : Int) ≤ 65536; omega, .inr ⟨rfl, rfl⟩, rfl, fun p hp => ?_, h.wt, (fun hb => by cases hb), ?_, ?_⟩, ?_⟩
    · simp only [Sc.rest, List.mem_append, List.mem_singleton] at hp
      rcases hp with hp | rfl
      · exact h.rd p hp
      · exact ⟨h.cm hb, h.cs⟩
    · have := h.nd
      unfold Sc.ids at this ⊢
      simp only [hb, if_true] at this
      simp only [Sc.rest, Bool.false_eq_true, if_false, List.append_nil, List.map_append, List.map_cons, List.map_nil]
      refine (List.Perm.nodup_iff ?_).1 this
      simp only [List.append_assoc]
      exact List.Perm.append_left _ List.perm_append_comm
    · have := h.ln
      unfold Sc.cnt at this ⊢
      simp only [hb, if_true] at this
      simp only [Sc.rest, Bool.false_eq_true, if_false, List.length_append, List.length_singleton]
      omega
    · unfold Sc.cnt
      simp only [hb, Sc.rest, Bool.false_eq_true, if_false, if_true, List.length_append, List.length_singleton]
      omega
  · exact ⟨h, rfl⟩
theorem inv_fin {s : Sc} (h : s.Inv) (hb : s.busy = true) (b : Bool) : (s.fin b).Inv ∧ (s.fin b).cnt = s.cnt := by
  unfold Sc.fin
  split
  · rename_i hc
    refine ⟨⟨h.tk, ?_, ?_, .inl hb, h.cs, h.rd, h.wt, h.cm, h.nd, h.ln⟩, rfl⟩
    · show -1 ≤ s.left - 1; omega
    · have := h.l2; show s.left - 1 ≤ 65536; omega
  · exact ⟨h, rfl⟩
theorem quant_ok (s : Sc) (lv : Int) (h : tkOk s.ticks = true) : -1 ≤ (s.quant lv).1 ∧ (s.quant lv).1 ≤ 65536 ∧ tkOk (s.quant lv).2.ticks = true ∧ ∃ t, (s.quant lv).2 = { s with ticks := t } := by
  have ht := tk_le h
  unfold Sc.quant
  split
  · rename_i t r hg
    have hm := List.mem_of_getElem? hg
    have h1 := (ht.2 _ hm).2 t (by simp)
    refine ⟨by simp only; omega, by simp only; omega, tk_of ⟨by simpa using ht.1, fun u hu => ?_⟩, _, rfl⟩
    rcases List.mem_or_eq_of_mem_set hu with hu | rfl
    · exact ht.2 u hu
    · have := ht.2 _ hm
      refine ⟨by have := this.1; simp at this; omega, fun n hn => this.2 n (by simp [hn])⟩
  · refine ⟨by simp only; omega, by simp only; omega, h, _, rfl⟩
theorem inv_next {s s2 : Sc} (h : s.Inv) (hb : s.busy = false) (hn : s.next = some s2) : s2.Inv ∧ s2.busy = true ∧ s2.cnt = s.cnt := by
  unfold Sc.next at hn
  split at hn
  · cases hn
  · rename_i p r hr
    obtain ⟨q1, q2, q3, t, q4⟩ := quant_ok { s with busy := true, cur := p, ready := r } p.lv h.tk
    simp only [Option.some.injEq] at hn
    generalize Sc.quant { s with busy := true, cur := p, ready := r } p.lv = q at *
    subst hn
    rw [q4] at q3 ⊢
    have hp := h.rd p (by rw [hr]; simp)
    refine ⟨⟨q3, q1, q2, .inl rfl, hp.2, fun x hx => h.rd x (by rw [hr]; simp [hx]), h.wt, fun _ => hp.1, ?_, ?_⟩, rfl, ?_⟩
    · have := h.nd
      unfold Sc.ids at this ⊢
      simp only [hb, hr, Bool.false_eq_true, if_false, List.append_nil, List.map_cons, List.cons_append] at this
      simp only [if_true]
      exact (List.Perm.nodup_iff List.perm_append_comm).1 (by simpa using this)
    · have := h.ln
      unfold Sc.cnt at this ⊢
      simp only [hb, hr, Bool.false_eq_true, if_false, List.length_cons] at this
      simp only [if_true]
      omega
    · unfold Sc.cnt
      simp only [hb, hr, Bool.false_eq_true, if_false, if_true, List.length_cons]
      omega
theorem inv_turn {s : Sc} (h : s.Inv) (base : Bool) : (s.turn base).2.Inv ∧ (s.turn base).2.cnt = s.cnt := by
  obtain ⟨h1, h2⟩ := inv_put h base
  unfold Sc.turn
  simp only
  split
  · rename_i hb
    obtain ⟨h3, h4⟩ := inv_fin h1 hb base
    exact ⟨h3, by rw [h4, h2]⟩
  · rename_i hb
    split
    · exact ⟨h1, h2⟩
    · rename_i s2 hn
      obtain ⟨h3, h4, h5⟩ := inv_next h1 (by simpa using hb) hn
      obtain ⟨h6, h7⟩ := inv_fin h3 h4 true
      exact ⟨h6, by rw [h7, h5, h2]⟩
end Go.Proofs.YtlhcgiegganbpaaDoorVs
set_option linter.unusedVariables false
set_option linter.unusedSimpArgs false
set_option maxRecDepth 100000
namespace Go.Proofs.YtlhcgiegganbpaaDoorVs
theorem s14 : Fix T 14 0 [] = some [[.bool true]] := closed 60 (by kernel_rfl)
theorem s42 (l : List Pr) (hl : l.length ≤ 400) : Fix T 42 0 [[prs 23 l]] = some [[prs 30 l]] := by
  refine e42_0 600 ?_
  have := lp_ind (S := Nat) (l := [1, 1, 1]) (g := F42_0_b0 (Fix T) 600 (prs 23 l)) (fun i => [prs 30 (l.take i), .unit, .int .i64 (i : Int)]) (fun i => i ≤ l.length) (fun i => l.length - i) (fun i => some (.exit 0 [1, 1, 1] [.unit, prs 30 l, .int .i64 l.length])) (fun i hi => by
    by_cases h : i < l.length
    · have hd : l.take (i + 1) = l.take i ++ [l[i]] := by simp
      have b1 : ((i : Int) < l.length) = True := eq_true (by omega)
      have hg := prs_get (List.getElem?_eq_getElem h)
      have hld : ∀ k : V → V → V → TR, opnV (Fix T) (.ldi 0 3 true [true, true, true]) [[.agg l[i].vs]] 3 k = _ := fun k => o_ldi3 (.inl rfl)
      have ha : ∀ f : V → TR, op1V (Fix T) (.app 30 24 false) [[.list 30 ((l.take i).map fun p => .agg p.vs)], [.list 30 [.agg (Pr.vs ⟨l[i].id, l[i].lv, l[i].sem⟩)]]] f = f (prs 30 (l.take i ++ [l[i]])) := fun f => o_appP (by simp; omega)
      refine .inl ⟨i + 1, ?_, by omega, by omega, rfl⟩
      rw [hd]
      simp only [F42_0_b0, prs, b1, hg, hld, o_mk3, ha, w_succ (show i < 4611686018427387904 by omega), List.length_map, VBs, reduceCtorEq, Nat.reduceEqDiff, Option.bind_some, Option.bind_none, List.getElem?_cons_zero, List.getElem?_cons_succ, if_true, if_false, ne_eq]
    · obtain rfl : i = l.length := by omega
      have b1 : ((l.length : Int) < l.length) = False := eq_false (by omega)
      refine .inr ⟨?_, trivial⟩
      simp only [F42_0_b0, prs, b1, List.take_length, List.length_map, VBs, reduceCtorEq, Nat.reduceEqDiff, Option.bind_some, Option.bind_none, List.getElem?_cons_zero, List.getElem?_cons_succ, if_true, if_false, ne_eq]) 600 0 (by omega) (by omega)
  simp only [List.take_zero, Int.natCast_zero, prs, List.map_nil] at this
  simp only [F42_0, prs, this, VBs, reduceCtorEq, Nat.reduceEqDiff, Option.bind_some, Option.bind_none, List.getElem?_cons_zero, List.getElem?_cons_succ, if_true, if_false, ne_eq]
theorem o_mkL {Φ : Funs} {e : TypeId} {x : V} {k : V → TR} : op1V Φ (.mk e [(false, [(0, 0)])]) [[.list 3 [x]]] k = k (.list e [.list 3 [x]]) := rfl
theorem o_mkV {Φ : Funs} {e : TypeId} {xs : List V} {k : V → TR} : op1V Φ (.mk e [(false, [(0, 0)])]) [[.list 3 xs]] k = k (.list e [.list 3 xs]) := rfl
theorem s19 (l : List (List Int)) (hl : TkFew l) : Fix T 19 0 [[tks l]] = some [[tks l]] := by
  refine e19_0 600 ?_
  have hlo := hl.o
  have := lp_ind (S := Nat) (l := [1, 1, 1]) (g := F19_0_b0 (Fix T) 600 (tks l)) (fun i => [tks (l.take i), .unit, .int .i64 (i : Int)]) (fun i => i ≤ l.length) (fun i => l.length - i) (fun i => some (.exit 0 [1, 1, 1] [.unit, tks l, .int .i64 l.length])) (fun i hi => by
    by_cases h : i < l.length
    · have hd : l.take (i + 1) = l.take i ++ [l[i]] := by simp
      have b1 : ((i : Int) < l.length) = True := eq_true (by omega)
      have hg := tks_get h
      have hli := hl.i l[i] (List.getElem_mem h)
      have hld : ∀ k : V → TR, op1V (Fix T) (.ldi 0 1 false [false]) [[ints l[i]]] k = k (ints l[i]) := fun k => o_ldiL (.inr rfl)
      have h1 : ∀ f : V → TR, op1V (Fix T) (.app 3 8 true) [[.list 3 []], [ints l[i]]] f = f (ints l[i]) := fun f => by
        have := o_appS (Φ := Fix T) (f := f) (e := 3) (bs := 8) (sc := true) (xs := []) (ys := l[i].map (V.int .i64)) (n := 500) (ints_scalar _ _) (by simp; omega) (by decide)
        simpa using this
      have h2 : ∀ f : V → TR, op1V (Fix T) (.app 63 24 false) [[tks (l.take i)], [.list 63 [ints l[i]]]] f = f (tks (l.take i ++ [l[i]])) := fun f => by
        have := o_appN (Φ := Fix T) (f := f) (e := 63) (bs := 24) (xs := (l.take i).map ints) (ys := [ints l[i]]) (n := 501) (by simp; omega) (by decide)
        rw [this, tks, List.map_append]; rfl
      refine .inl ⟨i + 1, ?_, by omega, by omega, rfl⟩
      rw [hd]
      simp only [ints, tks] at hg hld h1 h2
      simp only [F19_0_b0, tks, ints, b1, hg, hld, o_mk0, h1, o_mkV, h2, w_succ (show i < 4611686018427387904 by omega), List.length_map, VBs, reduceCtorEq, Nat.reduceEqDiff, Option.bind_some, Option.bind_none, List.getElem?_cons_zero, List.getElem?_cons_succ, if_true, if_false, ne_eq]
    · obtain rfl : i = l.length := by omega
      have b1 : ((l.length : Int) < l.length) = False := eq_false (by omega)
      refine .inr ⟨?_, trivial⟩
      simp only [F19_0_b0, tks, b1, List.take_length, List.length_map, VBs, reduceCtorEq, Nat.reduceEqDiff, Option.bind_some, Option.bind_none, List.getElem?_cons_zero, List.getElem?_cons_succ, if_true, if_false, ne_eq]) 600 0 (by omega) (by omega)
  simp only [List.take_zero, Int.natCast_zero, tks, List.map_nil] at this
  simp only [F19_0, tks, this, VBs, reduceCtorEq, Nat.reduceEqDiff, Option.bind_some, Option.bind_none, List.getElem?_cons_zero, List.getElem?_cons_succ, if_true, if_false, ne_eq]
theorem s15 (s : Sc) (h : s.Sm) (ht : TkFew s.ticks) : Fix T 15 0 [s.vs 23] = some [.bool true :: s.vs 30] := by
  refine e15_0 0 ?_
  have h1 := s42 s.ready (by have := h.r; omega)
  have h2 := s42 s.waits (by have := h.w; omega)
  have h3 := s19 s.ticks ht
  simp only [prs, tks] at h1 h2 h3
  simp only [F15_0, Sc.vs, prs, tks, h1, h2, h3, VBs, reduceCtorEq, Nat.reduceEqDiff, Option.bind_some, Option.bind_none, List.getElem?_cons_zero, List.getElem?_cons_succ, if_true, if_false, ne_eq]
theorem s28 (s : Sc) (h : s.Sm) : Fix T 28 0 [s.vs 30] = some [[.int .i64 (s.cnt : Int)]] := by
  refine e28_0 0 ?_
  have hr := h.r
  have hw := h.w
  obtain ⟨busy, cur, left, ready, waits, ticks⟩ := s
  simp only at hr hw
  have w1 : IntKind.i64.wrap ((ready.length : Int) + (waits.length : Int)) = ((ready.length + waits.length : Nat) : Int) := w_in (by omega) (by omega)
  have w2 := w_succ (i := ready.length + waits.length) (by omega)
  cases busy with
  | true => simp only [F28_0, Sc.vs, Sc.cnt, prs, w1, w2, List.length_map, if_true, VBs, reduceCtorEq, Nat.reduceEqDiff, Option.bind_some, Option.bind_none, List.getElem?_cons_zero, List.getElem?_cons_succ, if_true, if_false, ne_eq]
  | false => simp only [F28_0, Sc.vs, Sc.cnt, prs, w1, Nat.add_zero, List.length_map, VBs, reduceCtorEq, Nat.reduceEqDiff, Option.bind_some, Option.bind_none, List.getElem?_cons_zero, List.getElem?_cons_succ, if_true, if_false, ne_eq]
/-- are they too many to be looked at? -/
def bigT (l : List (List Int)) : Bool := (l.any fun t => decide (300 < t.length)) || decide (20 < l.length)
theorem s13 (l : List (List Int)) (h1 : l.length < 2 ^ 60) (h2 : ∀ t ∈ l, t.length < 2 ^ 60) : Fix T 13 0 [[tks l]] = some [[.bool (bigT l)]] := by
  refine e13_0 (l.length + 1) ?_
  have := lp_ind (S := Nat) (l := [1, 1]) (g := F13_0_b0 (Fix T) (l.length + 1) (tks l)) (fun i => [.bool false, .int .i64 (i : Int)]) (fun i => i ≤ l.length) (fun i => l.length - i) (fun i => if ((l.drop i).any fun t => decide (300 < t.length)) = true then some (.ret [[.bool true]]) else some (.exit 0 [1, 1] [.bool false, .int .i64 l.length])) (fun i hi => by
    by_cases h : i < l.length
    · have hd : l.drop i = l[i] :: l.drop (i + 1) := List.drop_eq_getElem_cons h
      have b1 : ((i : Int) < l.length) = True := eq_true (by omega)
      have hg := tks_get h
      have hld : ∀ k : V → TR, op1V (Fix T) (.ldi 0 1 false [false]) [[ints l[i]]] k = k (ints l[i]) := fun k => o_ldiL (.inr rfl)
      simp only [hd, List.any_cons]
      simp only [ints, tks] at hg hld
      by_cases hP : 300 < l[i].length
      · have b2 : ((300 : Int) < l[i].length) = True := eq_true (by omega)
        refine .inr ⟨?_, by simp only [hP, decide_true, Bool.true_or, if_true]; trivial⟩
        simp only [F13_0_b0, tks, ints, b1, b2, hg, hld, hP, decide_true, Bool.true_or, List.length_map, VBs, reduceCtorEq, Nat.reduceEqDiff, Option.bind_some, Option.bind_none, List.getElem?_cons_zero, List.getElem?_cons_succ, if_true, if_false, ne_eq]
      · have b2 : ((300 : Int) < l[i].length) = False := eq_false (by omega)
        refine .inl ⟨i + 1, ?_, by omega, by omega, by simp only [hP, decide_false, Bool.false_or]⟩
        simp only [F13_0_b0, tks, ints, b1, b2, hg, hld, w_succ (show i < 4611686018427387904 by omega), List.length_map, VBs, reduceCtorEq, Nat.reduceEqDiff, Option.bind_some, Option.bind_none, List.getElem?_cons_zero, List.getElem?_cons_succ, if_true, if_false, ne_eq]
    · obtain rfl : i = l.length := by omega
      have b1 : ((l.length : Int) < l.length) = False := eq_false (by omega)
      refine .inr ⟨?_, by simp only [List.drop_length, List.any_nil]; trivial⟩
      simp only [F13_0_b0, tks, b1, List.drop_length, List.any_nil, List.length_map, VBs, reduceCtorEq, Nat.reduceEqDiff, Option.bind_some, Option.bind_none, List.getElem?_cons_zero, List.getElem?_cons_succ, if_true, if_false, ne_eq]) (l.length + 1) 0 (by omega) (by omega)
  simp only [List.drop_zero, Int.natCast_zero] at this
  unfold bigT
  by_cases hA : (l.any fun t => decide (300 < t.length)) = true
  · rw [if_pos hA] at this
    simp only [tks] at this
    simp only [F13_0, tks, this, hA, VBs, reduceCtorEq, Nat.reduceEqDiff, Option.bind_some, Option.bind_none, List.getElem?_cons_zero, List.getElem?_cons_succ, if_true, if_false, ne_eq]
  · rw [if_neg hA] at this
    have hA' : (l.any fun t => decide (300 < t.length)) = false := by simpa using hA
    have b20 : ((20 : Int) < l.length) = (20 < l.length) := by rw [eq_iff_iff]; omega
    simp only [tks] at this
    simp only [F13_0, tks, this, hA', b20, List.length_map, VBs, reduceCtorEq, Nat.reduceEqDiff, Option.bind_some, Option.bind_none, List.getElem?_cons_zero, List.getElem?_cons_succ, if_true, if_false, ne_eq]
theorem big_few {l : List (List Int)} (h : bigT l = false) : TkFew l := by
  simp only [bigT, Bool.or_eq_false_iff, List.any_eq_false, decide_eq_true_eq, decide_eq_false_iff_not] at h
  exact ⟨by omega, fun t ht => by have := h.1 t ht; omega⟩
/-! ### what is done -/
structure Ac where
  kind : Int
  id : Int
  lv : Int
  sem : Int
  base : Bool
def Ac.vs (a : Ac) : List V := [.int .u8 a.kind, .int .i64 a.id, .int .i64 a.lv, .int .i64 a.sem, .bool a.base]
abbrev acs (l : List Ac) : V := .list 52 (l.map fun a => .agg a.vs)
def Sc.step (s : Sc) (a : Ac) : Sc := if a.kind = 0 then (s.add a.id a.lv).2 else if a.kind = 1 then (s.turn a.base).2 else if a.kind = 2 then (s.wait a.sem).2 else if a.kind = 3 then (s.sig a.sem).2 else s.fini.2
theorem inv_step {s : Sc} (h : s.Inv) (a : Ac) : (s.step a).Inv := by
  unfold Sc.step
  split
  · exact (inv_add h _ _).1
  · split
    · exact (inv_turn h _).1
    · split
      · exact (inv_wait h _).1
      · split
        · exact (inv_sig h _).1
        · exact (inv_fini h).1
theorem o_ldi5 {Φ : Funs} {m : List Bool} {a : Ac} {k : V → V → V → V → V → TR} (hm : m = [true, true, true, true, true] ∨ m = []) : opnV Φ (.ldi 0 5 true m) [[.agg a.vs]] 5 k = k (.int .u8 a.kind) (.int .i64 a.id) (.int .i64 a.lv) (.int .i64 a.sem) (.bool a.base) := by
  rw [o_n5]
  rcases hm with rfl | rfl <;> simp [VF.sem, vsub, k1, maskOk, Ac.vs, scalarE, scalarV] <;> rfl
def Sc.st4 (s : Sc) (i : Nat) : List V := [.bool s.busy, .int .i64 s.cur.id, .int .i64 s.cur.lv, .int .i64 s.cur.sem, .int .i64 s.left, .unit, .unit, .unit, prs 30 s.ready, prs 30 s.waits, tks s.ticks, .bool false, .int .i64 (i : Int)]
theorem s4_step (n : Nat) (l : List Ac) (i : Nat) (h : i < l.length) (h80 : i < 80) (s : Sc) (hs : s.Inv) : F4_0_b0 (Fix T) n (acs l) (.bool true) (s.st4 i) = some (.norm [8, 1, 1, 1, 1, 1] ((s.step l[i]).st4 (i + 1))) := by
  have b1 : ((i : Int) < l.length) = True := eq_true (by omega)
  have b2 : ((i : Int) < 80) = True := eq_true (by omega)
  have ws := w_succ (show i < 4611686018427387904 by omega)
  have hg : (l.map fun a => V.agg a.vs)[i]? = some (.agg l[i].vs) := by simp [h]
  have hld : ∀ k : V → V → V → V → V → TR, opnV (Fix T) (.ldi 0 5 true []) [[.agg l[i].vs]] 5 k = _ := fun k => o_ldi5 (.inr rfl)
  have h28 := s28 s hs.sm
  have hsn := inv_step hs l[i]
  have h28' := s28 _ hsn.sm
  have h16' := s16 _ hsn.sm hsn.tkf
  rw [if_pos ((ok_iff _).2 hsn)] at h16'
  have e0 : errV 0 = .nilI := rfl
  rw [e0] at h16'
  have hcnt8 := hs.ln
  generalize l[i] = a at *
  unfold Sc.step at *
  by_cases k0 : a.kind = 0
  · have c0 := eq_true k0
    rw [if_pos k0] at *
    have h9 := s9 s a.id a.lv hs.sm
    obtain ⟨_, hc1, hc2⟩ := inv_add hs a.id a.lv
    generalize s.add a.id a.lv = r at *
    obtain ⟨e, r⟩ := r
    simp only at *
    by_cases he : e = 0
    · subst he
      rw [e0] at h9
      have hc := hc1 rfl
      have wn := w_succ (i := s.cnt) (by omega)
      have bn : (((s.cnt + 1 : Nat) : Int) = ((s.cnt + 1 : Nat) : Int)) = True := eq_true rfl
      rw [hc] at h28'
      generalize s.cnt = cn at *
      obtain ⟨busy, cur, left, ready, waits, ticks⟩ := s
      obtain ⟨busy', cur', left', ready', waits', ticks'⟩ := r
      simp only [Sc.vs, Sc.st4, prs, tks, acs] at *
      simp only [F4_0_b0, b1, b2, ws, wn, bn, hg, hld, h28, h28', h16', h9, c0, List.length_map, VBs, reduceCtorEq, Nat.reduceEqDiff, Option.bind_some, Option.bind_none, List.getElem?_cons_zero, List.getElem?_cons_succ, if_true, if_false, ne_eq]
    · have hc := hc2 he
      subst hc
      have e1 : errV e = .iface 84 (.int .i64 e) := by unfold errV; rw [if_neg he]
      rw [e1] at h9
      obtain ⟨busy, cur, left, ready, waits, ticks⟩ := r
      simp only [Sc.vs, Sc.st4, prs, tks, acs] at *
      simp only [F4_0_b0, b1, b2, ws, hg, hld, h28, h16', h9, c0, List.length_map, VBs, reduceCtorEq, Nat.reduceEqDiff, Option.bind_some, Option.bind_none, List.getElem?_cons_zero, List.getElem?_cons_succ, if_true, if_false, ne_eq]
  · rw [if_neg k0] at *
    have c0 := eq_false k0
    by_cases k1 : a.kind = 1
    · have c1 := eq_true k1
      rw [if_pos k1] at *
      have h6 := s6 s a.base hs.oks
      have hc := (inv_turn hs a.base).2
      rw [hc] at h28'
      generalize s.turn a.base = r at *
      obtain ⟨⟨p, is⟩, r⟩ := r
      generalize s.cnt = cn at *
      obtain ⟨busy, cur, left, ready, waits, ticks⟩ := s
      obtain ⟨busy', cur', left', ready', waits', ticks'⟩ := r
      simp only [Sc.vs, Sc.st4, prs, tks, acs, Pr.vs] at *
      simp only [F4_0_b0, b1, b2, ws, hg, hld, h28, h28', h16', h6, c0, c1, List.length_map, VBs, reduceCtorEq, Nat.reduceEqDiff, Option.bind_some, Option.bind_none, List.getElem?_cons_zero, List.getElem?_cons_succ, if_true, if_false, ne_eq]
    · rw [if_neg k1] at *
      have c1 := eq_false k1
      by_cases k2 : a.kind = 2
      · have c2 := eq_true k2
        rw [if_pos k2] at *
        have h10 := s10 s a.sem hs.sm
        have hc := (inv_wait hs a.sem).2
        rw [hc] at h28'
        generalize s.wait a.sem = r at *
        obtain ⟨e, r⟩ := r
        generalize s.cnt = cn at *
        obtain ⟨busy, cur, left, ready, waits, ticks⟩ := s
        obtain ⟨busy', cur', left', ready', waits', ticks'⟩ := r
        simp only [Sc.vs, Sc.st4, prs, tks, acs, Pr.vs] at *
        by_cases h0 : e = 0
        · subst h0
          rw [e0] at h10
          simp only [F4_0_b0, b1, b2, ws, hg, hld, h28, h28', h16', h10, c0, c1, c2, List.length_map, VBs, reduceCtorEq, Nat.reduceEqDiff, Option.bind_some, Option.bind_none, List.getElem?_cons_zero, List.getElem?_cons_succ, if_true, if_false, ne_eq]
        · have e1 : errV e = .iface 84 (.int .i64 e) := by unfold errV; rw [if_neg h0]
          rw [e1] at h10
          simp only [F4_0_b0, b1, b2, ws, hg, hld, h28, h28', h16', h10, c0, c1, c2, List.length_map, VBs, reduceCtorEq, Nat.reduceEqDiff, Option.bind_some, Option.bind_none, List.getElem?_cons_zero, List.getElem?_cons_succ, if_true, if_false, ne_eq]
      · rw [if_neg k2] at *
        have c2 := eq_false k2
        by_cases k3 : a.kind = 3
        · have c3 := eq_true k3
          rw [if_pos k3] at *
          have h7 := s7 s a.sem hs.sm
          have hc := (inv_sig hs a.sem).2
          rw [hc] at h28'
          generalize s.sig a.sem = r at *
          obtain ⟨⟨p, is⟩, r⟩ := r
          generalize s.cnt = cn at *
          obtain ⟨busy, cur, left, ready, waits, ticks⟩ := s
          obtain ⟨busy', cur', left', ready', waits', ticks'⟩ := r
          simp only [Sc.vs, Sc.st4, prs, tks, acs, Pr.vs] at *
          simp only [F4_0_b0, b1, b2, ws, hg, hld, h28, h28', h16', h7, c0, c1, c2, c3, List.length_map, VBs, reduceCtorEq, Nat.reduceEqDiff, Option.bind_some, Option.bind_none, List.getElem?_cons_zero, List.getElem?_cons_succ, if_true, if_false, ne_eq]
        · rw [if_neg k3] at *
          have c3 := eq_false k3
          have h11 := s11 s
          obtain ⟨_, hc1, hc2⟩ := inv_fini hs
          generalize s.fini = r at *
          obtain ⟨e, r⟩ := r
          simp only at *
          by_cases he : e = 0
          · subst he
            rw [e0] at h11
            have hc := hc1 rfl
            have wn : IntKind.i64.wrap ((s.cnt : Int) - 1) = (r.cnt : Int) := by rw [← hc]; rw [w_i64 (by omega)]; omega
            generalize s.cnt = cn at *
            generalize r.cnt = cm at *
            obtain ⟨busy, cur, left, ready, waits, ticks⟩ := s
            obtain ⟨busy', cur', left', ready', waits', ticks'⟩ := r
            simp only [Sc.vs, Sc.st4, prs, tks, acs] at *
            simp only [F4_0_b0, b1, b2, ws, wn, hg, hld, h28, h28', h16', h11, c0, c1, c2, c3, List.length_map, VBs, reduceCtorEq, Nat.reduceEqDiff, Option.bind_some, Option.bind_none, List.getElem?_cons_zero, List.getElem?_cons_succ, if_true, if_false, ne_eq]
          · have hc := hc2 he
            subst hc
            have e1 : errV e = .iface 84 (.int .i64 e) := by unfold errV; rw [if_neg he]
            rw [e1] at h11
            obtain ⟨busy, cur, left, ready, waits, ticks⟩ := r
            simp only [Sc.vs, Sc.st4, prs, tks, acs] at *
            simp only [F4_0_b0, b1, b2, ws, hg, hld, h28, h16', h11, c0, c1, c2, c3, List.length_map, VBs, reduceCtorEq, Nat.reduceEqDiff, Option.bind_some, Option.bind_none, List.getElem?_cons_zero, List.getElem?_cons_succ, if_true, if_false, ne_eq]
theorem s4_loop (n : Nat) (l : List Ac) : ∀ (d i fuel : Nat) (s : Sc), min 80 l.length - i = d → i ≤ min 80 l.length → d < fuel → s.Inv → ∃ s' : Sc, lpV [8, 1, 1, 1, 1, 1] (F4_0_b0 (Fix T) n (acs l) (.bool true)) fuel (s.st4 i) = some (.exit 0 [1, 1, 8, 1, 1, 1] [.bool false, .int .i64 (min 80 l.length : Nat), .bool s'.busy, .int .i64 s'.cur.id, .int .i64 s'.cur.lv, .int .i64 s'.cur.sem, .int .i64 s'.left, .unit, .unit, .unit, prs 30 s'.ready, prs 30 s'.waits, tks s'.ticks]) := by
  intro d
  induction d with
  | zero =>
    intro i fuel s hd hi hf hs
    obtain ⟨fuel, rfl⟩ : ∃ m, fuel = m + 1 := ⟨fuel - 1, by omega⟩
    obtain rfl : i = min 80 l.length := by omega
    refine ⟨s, ?_⟩
    by_cases h : l.length ≤ 80
    · have e : min 80 l.length = l.length := by omega
      rw [e]
      have b1 : ((l.length : Int) < l.length) = False := eq_false (by omega)
      rw [lp_exit (j := 0) (l' := [1, 1, 8, 1, 1, 1]) (vs' := [.bool false, .int .i64 l.length, .bool s.busy, .int .i64 s.cur.id, .int .i64 s.cur.lv, .int .i64 s.cur.sem, .int .i64 s.left, .unit, .unit, .unit, prs 30 s.ready, prs 30 s.waits, tks s.ticks]) (by simp only [F4_0_b0, Sc.st4, acs, b1, List.length_map, VBs, reduceCtorEq, Nat.reduceEqDiff, Option.bind_some, Option.bind_none, List.getElem?_cons_zero, List.getElem?_cons_succ, if_true, if_false, ne_eq])]
    · have e : min 80 l.length = 80 := by omega
      rw [e]
      have b1 : (((80 : Nat) : Int) < l.length) = True := eq_true (by omega)
      have b2 : (((80 : Nat) : Int) < 80) = False := eq_false (by omega)
      rw [lp_exit (j := 0) (l' := [1, 1, 8, 1, 1, 1]) (vs' := [.bool false, .int .i64 (80 : Nat), .bool s.busy, .int .i64 s.cur.id, .int .i64 s.cur.lv, .int .i64 s.cur.sem, .int .i64 s.left, .unit, .unit, .unit, prs 30 s.ready, prs 30 s.waits, tks s.ticks]) (by simp only [F4_0_b0, Sc.st4, acs, b1, b2, List.length_map, VBs, reduceCtorEq, Nat.reduceEqDiff, Option.bind_some, Option.bind_none, List.getElem?_cons_zero, List.getElem?_cons_succ, if_true, if_false, ne_eq])]
  | succ d ih =>
    intro i fuel s hd hi hf hs
    obtain ⟨fuel, rfl⟩ : ∃ m, fuel = m + 1 := ⟨fuel - 1, by omega⟩
    have h : i < l.length := by omega
    obtain ⟨s', h'⟩ := ih (i + 1) fuel (s.step l[i]) (by omega) (by omega) (by omega) (inv_step hs _)
    exact ⟨s', by rw [lp_norm (s4_step n l i h (by omega) s hs), h']⟩
theorem ProcKeeps_ok (s : Sc) (l : List Ac) (h1 : s.ready.length < 2 ^ 60) (h2 : s.waits.length < 2 ^ 60) (h3 : s.ticks.length < 2 ^ 60) (h4 : ∀ t ∈ s.ticks, t.length < 2 ^ 60) (h5 : l.length < 2 ^ 60) : Fix T 4 0 [s.vs 23, [acs l]] = some [[.bool true]] := by
  refine e4_0 100 ?_
  have h14 := s14
  have h13 := s13 s.ticks h3 h4
  by_cases hr : 20 < s.ready.length
  · have b1 : ((20 : Int) < s.ready.length) = True := eq_true (by omega)
    obtain ⟨busy, cur, left, ready, waits, ticks⟩ := s
    simp only [Sc.vs, prs, tks] at *
    simp only [F4_0, prs, tks, b1, h14, List.length_map, VBs, reduceCtorEq, Nat.reduceEqDiff, Option.bind_some, Option.bind_none, List.getElem?_cons_zero, List.getElem?_cons_succ, if_true, if_false, ne_eq]
  · have b1 : ((20 : Int) < s.ready.length) = False := eq_false (by omega)
    by_cases hw : 20 < s.waits.length
    · have b2 : ((20 : Int) < s.waits.length) = True := eq_true (by omega)
      obtain ⟨busy, cur, left, ready, waits, ticks⟩ := s
      simp only [Sc.vs, prs, tks] at *
      simp only [F4_0, prs, tks, b1, b2, h14, List.length_map, VBs, reduceCtorEq, Nat.reduceEqDiff, Option.bind_some, Option.bind_none, List.getElem?_cons_zero, List.getElem?_cons_succ, if_true, if_false, ne_eq]
    · have b2 : ((20 : Int) < s.waits.length) = False := eq_false (by omega)
      cases hb : bigT s.ticks with
      | true =>
        rw [hb] at h13
        obtain ⟨busy, cur, left, ready, waits, ticks⟩ := s
        simp only [Sc.vs, prs, tks] at *
        simp only [F4_0, prs, tks, b1, b2, h13, h14, List.length_map, VBs, reduceCtorEq, Nat.reduceEqDiff, Option.bind_some, Option.bind_none, List.getElem?_cons_zero, List.getElem?_cons_succ, if_true, if_false, ne_eq]
      | false =>
        rw [hb] at h13
        have hf := big_few hb
        have hs : s.Sm := ⟨by omega, by omega⟩
        have h15 := s15 s hs hf
        have h16 := s16 s hs hf
        cases ho : s.ok with
        | false =>
          have e1 : errV (if s.ok = true then 0 else 1) = .iface 84 (.int .i64 1) := by rw [ho]; rfl
          rw [e1] at h16
          obtain ⟨busy, cur, left, ready, waits, ticks⟩ := s
          simp only [Sc.vs, prs, tks] at *
          simp only [F4_0, prs, tks, b1, b2, h13, h14, h15, h16, List.length_map, VBs, reduceCtorEq, Nat.reduceEqDiff, Option.bind_some, Option.bind_none, List.getElem?_cons_zero, List.getElem?_cons_succ, if_true, if_false, ne_eq]
        | true =>
          have e1 : errV (if s.ok = true then 0 else 1) = .nilI := by rw [ho]; rfl
          rw [e1] at h16
          obtain ⟨s', hl⟩ := s4_loop 100 l (min 80 l.length) 0 100 s (by omega) (by omega) (by omega) ((ok_iff s).1 ho)
          obtain ⟨busy, cur, left, ready, waits, ticks⟩ := s
          simp only [Sc.vs, Sc.st4, prs, tks, acs, Int.natCast_zero] at *
          simp only [F4_0, prs, tks, acs, b1, b2, h13, h14, h15, h16, hl, List.length_map, VBs, reduceCtorEq, Nat.reduceEqDiff, Option.bind_some, Option.bind_none, List.getElem?_cons_zero, List.getElem?_cons_succ, if_true, if_false, ne_eq]
end Go.Proofs.YtlhcgiegganbpaaDoorVs
set_option linter.unusedVariables false
set_option linter.unusedSimpArgs false
namespace Go.Proofs.YtlhcgiegganbpaaDoorVs
section
variable {P : Program} {t : TypeId} {wf : List V → Prop} {H : Type} {enc : TypeId × Value → H} {w : World} {spare : Nat → Bool} {held : Bool} {v : Value} {D : DataW H} {ps : List MemPlace}
theorem blkG_no : ∀ (ms : List PM) (cs : List Value), ms.all (· != .own) = true → blkG ms cs = []
  | [], _, _ => rfl
  | m :: ms, cs, h => by
    simp only [List.all_cons, Bool.and_eq_true, bne_iff_ne] at h
    cases m with
    | own => exact absurd rfl h.1
    | _ => cases cs with
      | nil => rfl
      | cons c cs => exact blkG_no ms cs h.2
theorem pcell_rd {F : Nat → Prop} {m : PM} {x : V} {c : Value} (hm : m ≠ .own) (h : Rd P F w x c) : PCell P F F w m x c := by
  cases m with
  | own => exact absurd rfl hm
  | _ => exact h
/-- a parameter of one cell -/
theorem prm_one (he : ROp P t wf) (m : PM) (hm : m ≠ .own) (hv : v.cells = #[v]) (h : DataW.Trod enc P w 0 spare held t v D ps) (hz : Wt P t D) :
    ∃ ys, wf ys ∧ PArg P (fun b => b < w.heap.size) (fun b => b < w.heap.size) w (.one m) ys v ∧ argB w (.one m) v = [] := by
  obtain ⟨y, h1, h2, h3⟩ := rd_param he hv h hz
  refine ⟨[y], h3, .cons h1 (pcell_rd hm h2) .nil, ?_⟩
  cases m with
  | own => exact absurd rfl hm
  | _ => rfl
/-- a parameter of several -/
theorem prm_agg (he : ROp P t wf) (ms : List PM) (hm : ms.all (· != .own) = true) {cs : Array Value} (hc : cs.size = ms.length) (h : DataW.Trod enc P w 0 spare held t (.agg cs) D ps) (hz : Wt P t D) :
    ∃ ys, wf ys ∧ PArg P (fun b => b < w.heap.size) (fun b => b < w.heap.size) w (.agg ms) ys (.agg cs) ∧ argB w (.agg ms) (.agg cs) = [] := by
  obtain ⟨fuel, hf⟩ := h
  obtain ⟨ys, h1, h2⟩ := he.op hf hz
  have h1' : Cs P w ys cs.toList := h1
  refine ⟨ys, h2, ⟨cs, rfl, by simp [hc], h1'.1, fun i hi hi1 hi2 => ⟨(h1'.2 i hi1 hi2).1, pcell_rd (fun e => ?_) (h1'.2 i hi1 hi2).2⟩⟩, blkG_no ms _ hm⟩
  have := List.all_eq_true.1 hm _ (List.getElem_mem hi)
  rw [e] at this
  cases this
/-- rows of what is told by a reading -/
theorem rop_map1 {e : TypeId} {β : Type} {en : β → V} {ok : β → Prop} (ht : P.underlying t = some (.slice e)) {B : Nat} (hB : P.bytesOf e = B) (hk : P.cellsOf e = 1) (ha : agT P e = some false) (hs : szOf P e = some 1) (he : ROp P e (fun ys => ∃ x, ys = [en x] ∧ ok x)) :
    ROp P t (fun ys => ∃ l : List β, ys = [.list e (l.map en)] ∧ (l.length ≤ maxLen ∧ l.length * B ≤ 140737488351232) ∧ ∀ x ∈ l, ok x) := by
  refine (rop_slice1 ht hB hk ha hs he).weaken ?_
  rintro ys ⟨xs, rfl, h1, h2, h3⟩
  obtain ⟨l, rfl, hl⟩ : ∃ l : List β, xs = l.map en ∧ ∀ x ∈ l, ok x := by
    clear h1 h2
    induction xs with
    | nil => exact ⟨[], rfl, by simp⟩
    | cons x r ih =>
      obtain ⟨l, rfl, hl⟩ := ih (fun y hy => h3 y (List.mem_cons_of_mem _ hy))
      obtain ⟨z, e, hz⟩ := h3 x (List.mem_cons_self ..)
      obtain rfl : x = en z := by simpa using e
      refine ⟨z :: l, rfl, fun y hy => ?_⟩
      rcases List.mem_cons.1 hy with rfl | hy
      · exact hz
      · exact hl y hy
  simp only [List.length_map] at h1 h2
  exact ⟨l, rfl, ⟨h1, h2⟩, hl⟩
theorem rop_mapA {e : TypeId} {β : Type} {en : β → List V} {ok : β → Prop} (ht : P.underlying t = some (.slice e)) {B : Nat} (hB : P.bytesOf e = B) {k : Nat} (hk : P.cellsOf e = k) (hp : 0 < k) (ha : agT P e = some true) (hs : szOf P e = some k) (he : ROp P e (fun ys => ∃ x, ys = en x ∧ ok x)) :
    ROp P t (fun ys => ∃ l : List β, ys = [.list e (l.map fun x => .agg (en x))] ∧ (l.length ≤ maxLen ∧ l.length * B ≤ 140737488351232) ∧ ∀ x ∈ l, ok x) := by
  refine (rop_sliceA ht hB hk hp ha hs he).weaken ?_
  rintro ys ⟨xs, rfl, h1, h2, h3⟩
  obtain ⟨l, rfl, hl⟩ : ∃ l : List β, xs = l.map en ∧ ∀ x ∈ l, ok x := by
    clear h1 h2
    induction xs with
    | nil => exact ⟨[], rfl, by simp⟩
    | cons x r ih =>
      obtain ⟨l, rfl, hl⟩ := ih (fun y hy => h3 y (List.mem_cons_of_mem _ hy))
      obtain ⟨_, z, rfl, hz⟩ := h3 x (List.mem_cons_self ..)
      refine ⟨z :: l, rfl, fun y hy => ?_⟩
      rcases List.mem_cons.1 hy with rfl | hy
      · exact hz
      · exact hl y hy
  simp only [List.length_map] at h1 h2
  exact ⟨l, by simp [Function.comp_def], ⟨h1, h2⟩, hl⟩
theorem rop_i64 (ht : P.underlying t = some (.int .i64)) : ROp P t (fun ys => ∃ n, ys = [.int .i64 n] ∧ (-9223372036854775808 ≤ n ∧ n ≤ 9223372036854775807)) := by
  refine (rop_int .i64 ht).weaken ?_
  rintro ys ⟨n, rfl, h1, h2⟩
  have e1 : IntKind.min .i64 = -9223372036854775808 := by decide
  have e2 : IntKind.max .i64 = 9223372036854775807 := by decide
  exact ⟨n, rfl, by omega, by omega⟩
theorem rop_u8 (ht : P.underlying t = some (.int .u8)) : ROp P t (fun ys => ∃ n, ys = [.int .u8 n] ∧ (0 ≤ n ∧ n < 256)) := by
  refine (rop_int .u8 ht).weaken ?_
  rintro ys ⟨n, rfl, h1, h2⟩
  have e1 : IntKind.min .u8 = 0 := by decide
  have e2 : IntKind.max .u8 = 255 := by decide
  exact ⟨n, rfl, by omega, by omega⟩
theorem rop_u16 (ht : P.underlying t = some (.int .u16)) : ROp P t (fun ys => ∃ n, ys = [.int .u16 n] ∧ (0 ≤ n ∧ n < 65536)) := by
  refine (rop_int .u16 ht).weaken ?_
  rintro ys ⟨n, rfl, h1, h2⟩
  have e1 : IntKind.min .u16 = 0 := by decide
  have e2 : IntKind.max .u16 = 65535 := by decide
  exact ⟨n, rfl, by omega, by omega⟩
theorem rop_u32 (ht : P.underlying t = some (.int .u32)) : ROp P t (fun ys => ∃ n, ys = [.int .u32 n] ∧ (0 ≤ n ∧ n < 4294967296)) := by
  refine (rop_int .u32 ht).weaken ?_
  rintro ys ⟨n, rfl, h1, h2⟩
  have e1 : IntKind.min .u32 = 0 := by decide
  have e2 : IntKind.max .u32 = 4294967295 := by decide
  exact ⟨n, rfl, by omega, by omega⟩
end
end Go.Proofs.YtlhcgiegganbpaaDoorVs
set_option linter.unusedVariables false
set_option linter.unusedSimpArgs false
namespace Go.Proofs.YtlhcgiegganbpaaDoorVs
theorem op23 : ROp Tryd.prog 23 (fun ys => ∃ p : Pr, ys = p.vs ∧ True) := by
  refine ROp.weaken (rop_struct Tryd.underlying23 rfl (ropF_cons (rop_i64 Tryd.underlying3) (nx := 1) (by kernel_rfl) (ropF_cons (rop_i64 Tryd.underlying3) (nx := 2) (by kernel_rfl) (ropF_last (rop_i64 Tryd.underlying3) (by kernel_rfl))))) ?_
  rintro ys ⟨_, _, rfl, ⟨a, rfl, _⟩, _, _, rfl, ⟨b, rfl, _⟩, ⟨c, rfl, _⟩⟩
  exact ⟨⟨a, b, c⟩, rfl, trivial⟩
theorem op63 : ROp Tryd.prog 63 (fun ys => ∃ l : List Int, ys = [ints l] ∧ l.length < 2 ^ 60) := by
  refine (rop_map1 Tryd.underlying63 (B := 8) (by kernel_rfl) (by kernel_rfl) (by kernel_rfl) (by kernel_rfl) (rop_i64 Tryd.underlying3)).weaken ?_
  rintro ys ⟨l, rfl, ⟨h1, h2⟩, _⟩
  exact ⟨l, rfl, by omega⟩
theorem op25 : ROp Tryd.prog 25 (fun ys => ∃ l : List (List Int), ys = [tks l] ∧ l.length < 2 ^ 60 ∧ ∀ t ∈ l, t.length < 2 ^ 60) := by
  refine (rop_map1 Tryd.underlying25 (B := 24) (by kernel_rfl) (by kernel_rfl) (by kernel_rfl) (by kernel_rfl) op63).weaken ?_
  rintro ys ⟨l, rfl, ⟨h1, h2⟩, h3⟩
  exact ⟨l, rfl, by omega, h3⟩
theorem op24 : ROp Tryd.prog 24 (fun ys => ∃ l : List Pr, ys = [prs 23 l] ∧ l.length < 2 ^ 60) := by
  refine (rop_mapA Tryd.underlying24 (B := 24) (by kernel_rfl) (k := 3) (by kernel_rfl) (by decide) (by kernel_rfl) (by kernel_rfl) op23).weaken ?_
  rintro ys ⟨l, rfl, ⟨h1, h2⟩, _⟩
  exact ⟨l, rfl, by omega⟩
/-- what can be read is not too much -/
structure Sc.Rd (s : Sc) : Prop where
  h1 : s.ready.length < 2 ^ 60
  h2 : s.waits.length < 2 ^ 60
  h3 : s.ticks.length < 2 ^ 60
  h4 : ∀ t ∈ s.ticks, t.length < 2 ^ 60
theorem op27 : ROp Tryd.prog 27 (fun ys => ∃ s : Sc, ys = s.vs 23 ∧ s.Rd) := by
  refine ROp.weaken (rop_struct Tryd.underlying27 rfl (ropF_cons (rop_bool Tryd.underlying4) (nx := 1) (by kernel_rfl) (ropF_cons op23 (nx := 4) (by kernel_rfl) (ropF_cons (rop_i64 Tryd.underlying3) (nx := 5) (by kernel_rfl)
    (ropF_cons op24 (nx := 6) (by kernel_rfl) (ropF_cons op24 (nx := 7) (by kernel_rfl) (ropF_last op25 (by kernel_rfl)))))))) ?_
  rintro ys ⟨_, _, rfl, ⟨a, rfl⟩, _, _, rfl, ⟨p, rfl, _⟩, _, _, rfl, ⟨n, rfl, _⟩, _, _, rfl, ⟨l, rfl, h1⟩, _, _, rfl, ⟨m, rfl, h2⟩, ⟨t, rfl, h3, h4⟩⟩
  exact ⟨⟨a, p, n, l, m, t⟩, rfl, ⟨h1, h2, h3, h4⟩⟩
theorem op52 : ROp Tryd.prog 52 (fun ys => ∃ a : Ac, ys = a.vs ∧ (0 ≤ a.kind ∧ a.kind < 256)) := by
  refine ROp.weaken (rop_struct Tryd.underlying52 rfl (ropF_cons (rop_u8 Tryd.underlying5) (nx := 1) (by kernel_rfl) (ropF_cons (rop_i64 Tryd.underlying3) (nx := 2) (by kernel_rfl) (ropF_cons (rop_i64 Tryd.underlying3) (nx := 3) (by kernel_rfl)
    (ropF_cons (rop_i64 Tryd.underlying3) (nx := 4) (by kernel_rfl) (ropF_last (rop_bool Tryd.underlying4) (by kernel_rfl))))))) ?_
  rintro ys ⟨_, _, rfl, ⟨a, rfl, h⟩, _, _, rfl, ⟨b, rfl, _⟩, _, _, rfl, ⟨c, rfl, _⟩, _, _, rfl, ⟨d, rfl, _⟩, ⟨e, rfl⟩⟩
  exact ⟨⟨a, b, c, d, e⟩, rfl, h⟩
theorem op28 : ROp Tryd.prog 28 (fun ys => ∃ l : List Ac, ys = [acs l] ∧ l.length < 2 ^ 60) := by
  refine (rop_mapA Tryd.underlying28 (B := 40) (by kernel_rfl) (k := 5) (by kernel_rfl) (by decide) (by kernel_rfl) (by kernel_rfl) op52).weaken ?_
  rintro ys ⟨l, rfl, ⟨h1, h2⟩, _⟩
  exact ⟨l, rfl, by omega⟩
theorem ProcKeeps_fin (ys0 ys1 : List V) : (∃ s : Sc, ys0 = s.vs 23 ∧ s.Rd) → (∃ l : List Ac, ys1 = [acs l] ∧ l.length < 2 ^ 60) → Fix T 4 0 [ys0, ys1] = some [[.bool true]] := by
  rintro ⟨s, rfl, h⟩ ⟨l, rfl, hl⟩
  exact ProcKeeps_ok s l h.h1 h.h2 h.h3 h.h4 hl
end Go.Proofs.YtlhcgiegganbpaaDoorVs
