/-
  Several texts in one: A Sched that may be stays one. No condition but each lemma's own premises. | What is copied and counted, and ProcKeeps. No condition but each lemma's own premises. | The document's answers. No condition but each lemma's own premises. | The document's Turn and Signal. No condition but each lemma's own premises. | The document's Turn, Signal and May; what New is; what is the same. No condition but each lemma's own premises. | Whether a Sched may be, by the document; New; what is the same. No condition but each lemma's own premises. | New, and what is the same; ProcRuns. No condition but each lemma's own premises. | ProcRuns. No condition but each lemma's own premises. | A law's parameters as a call's arguments. No condition but each lemma's own premises.
-/
import Derived.Test.YtlhcgiegganbpaaDoorVM11
import Derived.Test.YtlhcgiegganbpaaDoorVM9
set_option linter.unusedVariables false
set_option linter.unusedSimpArgs false
set_option maxRecDepth 100000
namespace Go.Proofs.YtlhcgiegganbpaaDoorVs
def Sc.ids (s : Sc) : List Int := s.ready.map Pr.id ++ s.waits.map Pr.id ++ (if s.busy = true then [s.cur.id] else [])
def Sc.cnt (s : Sc) : Nat := s.ready.length + s.waits.length + (if s.busy = true then 1 else 0)
structure Sc.Inv (s : Sc) : Prop where
  tk : tkOk s.ticks = true
  l1 : -1 ≤ s.left
  l2 : s.left ≤ 65536
  cu : s.busy = true ∨ (s.left = 0 ∧ s.cur = nilP)
  cs : s.cur.sem = 0
  rd : ∀ p ∈ s.ready, p.may = true ∧ p.sem = 0
  wt : ∀ p ∈ s.waits, p.may = true
  cm : s.busy = true → s.cur.may = true
  nd : s.ids.Nodup
  ln : s.cnt ≤ 8
theorem scan_iff : ∀ (l pre : List Pr), scan pre l = true ↔ (∀ p ∈ l, p.may = true) ∧ (l.map Pr.id).Nodup ∧ ∀ p ∈ l, ∀ q ∈ pre, q.id ≠ p.id
  | [], pre => by simp [scan]
  | x :: r, pre => by
    unfold scan
    simp only [Bool.and_eq_true, Bool.not_eq_true', scan_iff r (pre ++ [x]), List.any_eq_false, decide_eq_true_eq, List.mem_cons, forall_eq_or_imp, List.map_cons, List.nodup_cons, List.mem_map, not_exists, not_and, List.mem_append, List.mem_singleton]
    constructor
    · rintro ⟨⟨h1, h2⟩, h3, h4, h5⟩
      exact ⟨⟨h1, h3⟩, ⟨fun p hp he => h5 p hp x (.inr (.inl rfl)) he.symm, h4⟩, h2, fun p hp q hq => h5 p hp q (.inl hq)⟩
    · rintro ⟨⟨h1, h3⟩, ⟨h6, h4⟩, h2, h5⟩
      refine ⟨⟨h1, h2⟩, h3, h4, fun p hp q hq => ?_⟩
      rcases hq with hq | rfl | hq
      · exact h5 p hp q hq
      · exact fun e => h6 p hp e.symm
      · cases hq
theorem all_ids (s : Sc) : s.all.map Pr.id = s.ids := by
  unfold Sc.all Sc.ids
  split <;> simp
theorem all_cnt (s : Sc) : s.all.length = s.cnt := by
  unfold Sc.all Sc.cnt
  split <;> simp <;> omega
theorem all_mem (s : Sc) (P : Pr → Prop) : (∀ p ∈ s.all, P p) ↔ (∀ p ∈ s.ready, P p) ∧ (∀ p ∈ s.waits, P p) ∧ (s.busy = true → P s.cur) := by
  unfold Sc.all
  constructor
  · intro h
    refine ⟨fun p hp => h p (by simp [hp]), fun p hp => h p (by simp [hp]), fun hb => h _ (by simp [hb])⟩
  · rintro ⟨h1, h2, h3⟩ p hp
    simp only [List.mem_append] at hp
    rcases hp with (hp | hp) | hp
    · exact h1 p hp
    · exact h2 p hp
    · split at hp
      · rename_i hb
        rw [List.mem_singleton.1 hp]
        exact h3 hb
      · simp at hp
theorem ok_iff (s : Sc) : s.ok = true ↔ s.Inv := by
  have h3 := scan_iff s.all []
  have h4 := all_mem s (fun p => p.may = true)
  rw [all_ids] at h3
  have h5 := all_cnt s
  constructor
  · intro h
    simp only [Sc.ok, Bool.and_eq_true, Bool.or_eq_true, Bool.not_eq_true', decide_eq_true_eq, decide_eq_false_iff_not, List.any_eq_false] at h
    obtain ⟨⟨⟨⟨⟨⟨⟨a1, a2⟩, a3⟩, a4⟩, a5⟩, a6⟩, a7⟩, a8⟩ := h
    obtain ⟨b1, b2, _⟩ := h3.1 a6
    obtain ⟨c1, c2, c3⟩ := h4.1 b1
    exact ⟨a1, by omega, by omega, a4, a5, fun p hp => ⟨c1 p hp, by simpa using a8 p hp⟩, c2, c3, b2, by omega⟩
  · intro h
    simp only [Sc.ok, Bool.and_eq_true, Bool.or_eq_true, Bool.not_eq_true', decide_eq_true_eq, decide_eq_false_iff_not, List.any_eq_false]
    refine ⟨⟨⟨⟨⟨⟨⟨h.tk, by have := h.l1; omega⟩, by have := h.l2; omega⟩, h.cu⟩, h.cs⟩, h3.2 ⟨h4.2 ⟨fun p hp => (h.rd p hp).1, h.wt, h.cm⟩, h.nd, by simp⟩⟩, by have := h.ln; omega⟩, fun p hp => ?_⟩
    simp [(h.rd p hp).2]
theorem Sc.Inv.sm {s : Sc} (h : s.Inv) : s.Sm := by
  have := h.ln
  unfold Sc.cnt at this
  exact ⟨by omega, by omega⟩
theorem tickB_f {n : Int} : tickB n = false ↔ 1 ≤ n ∧ n ≤ 65536 := by
  simp only [tickB, Bool.or_eq_false_iff, decide_eq_false_iff_not]
  omega
theorem tickL_f {t : List Int} : tickL t = false ↔ t.length ≤ 256 ∧ ∀ n ∈ t, 1 ≤ n ∧ n ≤ 65536 := by
  simp only [tickL, Bool.or_eq_false_iff, decide_eq_false_iff_not, List.any_eq_false, Bool.not_eq_true, tickB_f]
  constructor
  · rintro ⟨h1, h2⟩; exact ⟨by omega, h2⟩
  · rintro ⟨h1, h2⟩; exact ⟨by omega, h2⟩
theorem tk_iff {l : List (List Int)} : tkOk l = true ↔ l.length ≤ 8 ∧ ∀ t ∈ l, t.length ≤ 256 ∧ ∀ n ∈ t, 1 ≤ n ∧ n ≤ 65536 := by
  simp only [tkOk, Bool.and_eq_true, decide_eq_true_eq, Bool.not_eq_true', List.any_eq_false, Bool.not_eq_true, tickL_f]
theorem tk_le {l : List (List Int)} (h : tkOk l = true) : l.length ≤ 8 ∧ ∀ t ∈ l, t.length ≤ 256 ∧ ∀ n ∈ t, 1 ≤ n ∧ n ≤ 65536 := tk_iff.1 h
theorem tk_of {l : List (List Int)} (h : l.length ≤ 8 ∧ ∀ t ∈ l, t.length ≤ 256 ∧ ∀ n ∈ t, 1 ≤ n ∧ n ≤ 65536) : tkOk l = true := tk_iff.2 h
theorem may_iff (p : Pr) : p.may = true ↔ 0 ≤ p.id ∧ p.id ≤ 9007199254740991 ∧ 0 ≤ p.lv ∧ p.lv < 8 ∧ 0 ≤ p.sem ∧ p.sem < 65536 := by
  simp only [Pr.may, Bool.and_eq_true, decide_eq_true_eq]
  constructor <;> intro h <;> omega
theorem Sc.Inv.oks {s : Sc} (h : s.Inv) : s.Ok := by
  have hs := h.sm
  have ht := tk_le h.tk
  refine ⟨⟨by have := hs.r; omega, by have := hs.w; omega, by omega⟩, h.l2, fun p hp => ?_, fun t hm n hn => ((ht.2 t hm).2 n hn).2⟩
  rcases List.mem_cons.1 hp with rfl | hp
  · rcases h.cu with hb | ⟨_, hb⟩
    · have := (may_iff _).1 (h.cm hb); omega
    · rw [hb]; show (0 : Int) ≤ 0; omega
  · have := (may_iff _).1 (h.rd p hp).1; omega
theorem Sc.Inv.tkf {s : Sc} (h : s.Inv) : TkFew s.ticks := by
  have ht := tk_le h.tk
  exact ⟨by omega, fun t hm => by have := (ht.2 t hm).1; omega⟩
/-! ### what is done keeps it -/
theorem inv_rest {s : Sc} (h : s.Inv) : s.rest.Inv := by
  refine ⟨h.tk, by show (-1 : Int) ≤ 0; omega, by show (0 : Int) ≤ 65536; omega, .inr ⟨rfl, rfl⟩, rfl, h.rd, h.wt, (fun hb => by cases hb), ?_, ?_⟩
  · have := h.nd
    unfold Sc.ids at this ⊢
    simp only [Sc.rest, Bool.false_eq_true, if_false, List.append_nil]
    exact (List.nodup_append.1 this).1
  · have := h.ln
    unfold Sc.cnt at this ⊢
    simp only [Sc.rest, Bool.false_eq_true, if_false]
    omega
theorem inv_add {s : Sc} (h : s.Inv) (id lv : Int) : (s.add id lv).2.Inv ∧ ((s.add id lv).1 = 0 → (s.add id lv).2.cnt = s.cnt + 1) ∧ ((s.add id lv).1 ≠ 0 → (s.add id lv).2 = s) := by
  unfold Sc.add
  split
  · exact ⟨h, (fun e => by cases e), fun _ => rfl⟩
  · rename_i hm
    split
    · exact ⟨h, (fun e => by cases e), fun _ => rfl⟩
    · rename_i h8
      simp only [Bool.or_eq_true, Bool.not_eq_true', not_or, Bool.not_eq_false, List.any_eq_true, decide_eq_true_eq, not_exists, not_and] at hm
      obtain ⟨hm, hn⟩ := hm
      have hc := all_cnt s
      have hcnt : ({ s with ready := s.ready ++ [⟨id, lv, 0⟩] } : Sc).cnt = s.cnt + 1 := by
        unfold Sc.cnt; simp; omega
      have hid : ({ s with ready := s.ready ++ [⟨id, lv, 0⟩] } : Sc).ids.Perm (id :: s.ids) := by
        unfold Sc.ids
        simp only [List.map_append, List.map_cons, List.map_nil, List.append_assoc, List.singleton_append]
        exact List.perm_middle
      refine ⟨⟨h.tk, h.l1, h.l2, h.cu, h.cs, fun p hp => ?_, h.wt, h.cm, ?_, by rw [hcnt]; omega⟩, fun _ => hcnt, fun e => absurd rfl e⟩
      · rcases List.mem_append.1 hp with hp | hp
        · exact h.rd p hp
        · rw [List.mem_singleton.1 hp]; exact ⟨hm, rfl⟩
      · refine hid.nodup_iff.2 (List.nodup_cons.2 ⟨?_, h.nd⟩)
        rw [← all_ids]
        intro hi
        obtain ⟨p, hp, he⟩ := List.mem_map.1 hi
        exact hn p hp he
theorem inv_wait {s : Sc} (h : s.Inv) (sem : Int) : (s.wait sem).2.Inv ∧ (s.wait sem).2.cnt = s.cnt := by
  unfold Sc.wait
  split
  · exact ⟨h, rfl⟩
  · split
    · rename_i hsm hb
      have hm := h.cm hb
      refine ⟨⟨h.tk, by show (-1 : Int) ≤ 0; omega, by show (0 : Int) ≤ 65536; omega, .inr ⟨rfl, rfl⟩, rfl, h.rd, fun p hp => ?_, (fun hb => by cases hb), ?_, ?_⟩, ?_⟩
      · simp only [Sc.rest, List.mem_append, List.mem_singleton] at hp
        rcases hp with hp | rfl
        · exact h.wt p hp
        · rw [may_iff] at hm ⊢
          simp only
          omega
      · have := h.nd
        unfold Sc.ids at this ⊢
        simp only [hb, if_true] at this
        simp only [Sc.rest, Bool.false_eq_true, if_false, List.append_nil, List.map_append, List.map_cons, List.map_nil]
        simpa using this
      · have := h.ln
        unfold Sc.cnt at this ⊢
        simp only [hb, if_true] at this
        simp only [Sc.rest, Bool.false_eq_true, if_false, List.length_append, List.length_singleton]
        omega
      · unfold Sc.cnt
        simp only [hb, Sc.rest, Bool.false_eq_true, if_false, if_true, List.length_append, List.length_singleton]
        omega
    · exact ⟨h, rfl⟩
theorem inv_fini {s : Sc} (h : s.Inv) : s.fini.2.Inv ∧ (s.fini.1 = 0 → s.fini.2.cnt + 1 = s.cnt) ∧ (s.fini.1 ≠ 0 → s.fini.2 = s) := by
  unfold Sc.fini
  split
  · rename_i hb
    refine ⟨inv_rest h, fun _ => ?_, fun e => absurd rfl e⟩
    unfold Sc.cnt
    simp only [hb, Sc.rest, Bool.false_eq_true, if_false, if_true]
    try omega
  · exact ⟨h, (fun e => by cases e), fun _ => rfl⟩
theorem cutF_perm (P : Pr → Bool) : ∀ (l : List Pr) (p : Pr) (r : List Pr), cutF P l = some (p, r) → l.Perm (p :: r)
  | [], p, r, h => by cases h
  | x :: l, p, r, h => by
    unfold cutF at h
    split at h
    · cases h; exact .refl _
    · simp only [Option.map_eq_some_iff, Prod.mk.injEq] at h
      obtain ⟨⟨q1, q2⟩, h1, rfl, rfl⟩ := h
      exact ((cutF_perm P l _ _ h1).cons x).trans (.swap _ _ _)
theorem inv_sig {s : Sc} (h : s.Inv) (sem : Int) : (s.sig sem).2.Inv ∧ (s.sig sem).2.cnt = s.cnt := by
  unfold Sc.sig
  split
  · exact ⟨h, rfl⟩
  · rename_i p r hc
    have hp := cutF_perm _ _ _ _ hc
    have hm := h.wt p (hp.mem_iff.2 (by simp))
    have hl := hp.length_eq
    simp only [List.length_cons] at hl
    refine ⟨⟨h.tk, h.l1, h.l2, h.cu, h.cs, fun q hq => ?_, fun q hq => h.wt q (hp.mem_iff.2 (by simp [hq])), h.cm, ?_, ?_⟩, ?_⟩
    · rcases List.mem_append.1 hq with hq | hq
      · exact h.rd q hq
      · rw [List.mem_singleton.1 hq]
        refine ⟨?_, rfl⟩
        rw [may_iff] at hm ⊢
        simp only
        omega
    · have := h.nd
      unfold Sc.ids at this ⊢
      refine (List.Perm.nodup_iff ?_).1 this
      refine List.Perm.append_right _ ?_
      simp only [List.map_append, List.map_cons, List.map_nil, List.append_assoc, List.singleton_append]
      exact List.Perm.append_left _ (hp.map Pr.id)
    · have := h.ln
      unfold Sc.cnt at this ⊢
      simp only [List.length_append, List.length_singleton]
      omega
    · unfold Sc.cnt
      simp only [List.length_append, List.length_singleton]
      omega
theorem inv_put {s : Sc} (h : s.Inv) (base : Bool) : (s.put base).Inv ∧ (s.put base).cnt = s.cnt := by
  unfold Sc.put
  split
  · rename_i hc
    simp only [Bool.and_eq_true, decide_eq_true_eq] at hc
    obtain ⟨⟨hb, _⟩, _⟩ := hc
    refine ⟨⟨h.tk, by show (-1 : Int) ≤ 0; omega, by show (0 : Int) ≤ 65536; omega, .inr ⟨rfl, rfl⟩, rfl, fun p hp => ?_, h.wt, (fun hb => by cases hb), ?_, ?_⟩, ?_⟩
    · simp only [Sc.rest, List.mem_append, List.mem_singleton] at hp
      rcases hp with hp | rfl
      · exact h.rd p hp
      · exact ⟨h.cm hb, h.cs⟩
    · have := h.nd
      unfold Sc.ids at this ⊢
      simp only [hb, if_true] at this
      simp only [Sc.rest, Bool.false_eq_true, if_false, List.append_nil, List.map_append, List.map_cons, List.map_nil]
      refine (List.Perm.nodup_iff ?_).1 this
      simp only [List.append_assoc]
      exact List.Perm.append_left _ List.perm_append_comm
    · have := h.ln
      unfold Sc.cnt at this ⊢
      simp only [hb, if_true] at this
      simp only [Sc.rest, Bool.false_eq_true, if_false, List.length_append, List.length_singleton]
      omega
    · unfold Sc.cnt
      simp only [hb, Sc.rest, Bool.false_eq_true, if_false, if_true, List.length_append, List.length_singleton]
      omega
  · exact ⟨h, rfl⟩
theorem inv_fin {s : Sc} (h : s.Inv) (hb : s.busy = true) (b : Bool) : (s.fin b).Inv ∧ (s.fin b).cnt = s.cnt := by
  unfold Sc.fin
  split
  · rename_i hc
    refine ⟨⟨h.tk, ?_, ?_, .inl hb, h.cs, h.rd, h.wt, h.cm, h.nd, h.ln⟩, rfl⟩
    · show -1 ≤ s.left - 1; omega
    · have := h.l2; show s.left - 1 ≤ 65536; omega
  · exact ⟨h, rfl⟩
theorem quant_ok (s : Sc) (lv : Int) (h : tkOk s.ticks = true) : -1 ≤ (s.quant lv).1 ∧ (s.quant lv).1 ≤ 65536 ∧ tkOk (s.quant lv).2.ticks = true ∧ ∃ t, (s.quant lv).2 = { s with ticks := t } := by
  have ht := tk_le h
  unfold Sc.quant
  split
  · rename_i t r hg
    have hm := List.mem_of_getElem? hg
    have h1 := (ht.2 _ hm).2 t (by simp)
    refine ⟨by simp only; omega, by simp only; omega, tk_of ⟨by simpa using ht.1, fun u hu => ?_⟩, _, rfl⟩
    rcases List.mem_or_eq_of_mem_set hu with hu | rfl
    · exact ht.2 u hu
    · have := ht.2 _ hm
      refine ⟨by have := this.1; simp at this; omega, fun n hn => this.2 n (by simp [hn])⟩
  · refine ⟨by simp only; omega, by simp only; omega, h, _, rfl⟩
theorem inv_next {s s2 : Sc} (h : s.Inv) (hb : s.busy = false) (hn : s.next = some s2) : s2.Inv ∧ s2.busy = true ∧ s2.cnt = s.cnt := by
  unfold Sc.next at hn
  split at hn
  · cases hn
  · rename_i p r hr
    obtain ⟨q1, q2, q3, t, q4⟩ := quant_ok { s with busy := true, cur := p, ready := r } p.lv h.tk
    simp only [Option.some.injEq] at hn
    generalize Sc.quant { s with busy := true, cur := p, ready := r } p.lv = q at *
    subst hn
    rw [q4] at q3 ⊢
    have hp := h.rd p (by rw [hr]; simp)
    refine ⟨⟨q3, q1, q2, .inl rfl, hp.2, fun x hx => h.rd x (by rw [hr]; simp [hx]), h.wt, fun _ => hp.1, ?_, ?_⟩, rfl, ?_⟩
    · have := h.nd
      unfold Sc.ids at this ⊢
      simp only [hb, hr, Bool.false_eq_true, if_false, List.append_nil, List.map_cons, List.cons_append] at this
      simp only [if_true]
      exact (List.Perm.nodup_iff List.perm_append_comm).1 (by simpa using this)
    · have := h.ln
      unfold Sc.cnt at this ⊢
      simp only [hb, hr, Bool.false_eq_true, if_false, List.length_cons] at this
      simp only [if_true]
      omega
    · unfold Sc.cnt
      simp only [hb, hr, Bool.false_eq_true, if_false, if_true, List.length_cons]
      omega
theorem inv_turn {s : Sc} (h : s.Inv) (base : Bool) : (s.turn base).2.Inv ∧ (s.turn base).2.cnt = s.cnt := by
  obtain ⟨h1, h2⟩ := inv_put h base
  unfold Sc.turn
  simp only
  split
  · rename_i hb
    obtain ⟨h3, h4⟩ := inv_fin h1 hb base
    exact ⟨h3, by rw [h4, h2]⟩
  · rename_i hb
    split
    · exact ⟨h1, h2⟩
    · rename_i s2 hn
      obtain ⟨h3, h4, h5⟩ := inv_next h1 (by simpa using hb) hn
      obtain ⟨h6, h7⟩ := inv_fin h3 h4 true
      exact ⟨h6, by rw [h7, h5, h2]⟩
end Go.Proofs.YtlhcgiegganbpaaDoorVs
set_option linter.unusedVariables false
set_option linter.unusedSimpArgs false
set_option maxRecDepth 100000
namespace Go.Proofs.YtlhcgiegganbpaaDoorVs
theorem s14 : Fix T 14 0 [] = some [[.bool true]] := closed 60 (by kernel_rfl)
theorem s42 (l : List Pr) (hl : l.length ≤ 400) : Fix T 42 0 [[prs 23 l]] = some [[prs 30 l]] := by
  refine e42_0 600 ?_
  have := lp_ind (S := Nat) (l := [1, 1, 1]) (g := F42_0_b0 (Fix T) 600 (prs 23 l)) (fun i => [prs 30 (l.take i), .unit, .int .i64 (i : Int)]) (fun i => i ≤ l.length) (fun i => l.length - i) (fun i => some (.exit 0 [1, 1, 1] [.unit, prs 30 l, .int .i64 l.length])) (fun i hi => by
    by_cases h : i < l.length
    · have hd : l.take (i + 1) = l.take i ++ [l[i]] := by simp
      have b1 : ((i : Int) < l.length) = True := eq_true (by omega)
      have hg := prs_get (List.getElem?_eq_getElem h)
      have hld : ∀ k : V → V → V → TR, opnV (Fix T) (.ldi 0 3 true [true, true, true]) [[.agg l[i].vs]] 3 k = _ := fun k => o_ldi3 (.inl rfl)
      have ha : ∀ f : V → TR, op1V (Fix T) (.app 30 24 false) [[.list 30 ((l.take i).map fun p => .agg p.vs)], [.list 30 [.agg (Pr.vs ⟨l[i].id, l[i].lv, l[i].sem⟩)]]] f = f (prs 30 (l.take i ++ [l[i]])) := fun f => o_appP (by simp; omega)
      refine .inl ⟨i + 1, ?_, by omega, by omega, rfl⟩
      rw [hd]
      simp only [F42_0_b0, prs, b1, hg, hld, o_mk3, ha, w_succ (show i < 4611686018427387904 by omega), List.length_map, VBs, reduceCtorEq, Nat.reduceEqDiff, Option.bind_some, Option.bind_none, List.getElem?_cons_zero, List.getElem?_cons_succ, if_true, if_false, ne_eq]
    · obtain rfl : i = l.length := by omega
      have b1 : ((l.length : Int) < l.length) = False := eq_false (by omega)
      refine .inr ⟨?_, trivial⟩
      simp only [F42_0_b0, prs, b1, List.take_length, List.length_map, VBs, reduceCtorEq, Nat.reduceEqDiff, Option.bind_some, Option.bind_none, List.getElem?_cons_zero, List.getElem?_cons_succ, if_true, if_false, ne_eq]) 600 0 (by omega) (by omega)
  simp only [List.take_zero, Int.natCast_zero, prs, List.map_nil] at this
  simp only [F42_0, prs, this, VBs, reduceCtorEq, Nat.reduceEqDiff, Option.bind_some, Option.bind_none, List.getElem?_cons_zero, List.getElem?_cons_succ, if_true, if_false, ne_eq]
theorem o_mkL {Φ : Funs} {e : TypeId} {x : V} {k : V → TR} : op1V Φ (.mk e [(false, [(0, 0)])]) [[.list 3 [x]]] k = k (.list e [.list 3 [x]]) := rfl
theorem o_mkV {Φ : Funs} {e : TypeId} {xs : List V} {k : V → TR} : op1V Φ (.mk e [(false, [(0, 0)])]) [[.list 3 xs]] k = k (.list e [.list 3 xs]) := rfl
theorem s19 (l : List (List Int)) (hl : TkFew l) : Fix T 19 0 [[tks l]] = some [[tks l]] := by
  refine e19_0 600 ?_
  have hlo := hl.o
  have := lp_ind (S := Nat) (l := [1, 1, 1]) (g := F19_0_b0 (Fix T) 600 (tks l)) (fun i => [tks (l.take i), .unit, .int .i64 (i : Int)]) (fun i => i ≤ l.length) (fun i => l.length - i) (fun i => some (.exit 0 [1, 1, 1] [.unit, tks l, .int .i64 l.length])) (fun i hi => by
    by_cases h : i < l.length
    · have hd : l.take (i + 1) = l.take i ++ [l[i]] := by simp
      have b1 : ((i : Int) < l.length) = True := eq_true (by omega)
      have hg := tks_get h
      have hli := hl.i l[i] (List.getElem_mem h)
      have hld : ∀ k : V → TR, op1V (Fix T) (.ldi 0 1 false [false]) [[ints l[i]]] k = k (ints l[i]) := fun k => o_ldiL (.inr rfl)
      have h1 : ∀ f : V → TR, op1V (Fix T) (.app 3 8 true) [[.list 3 []], [ints l[i]]] f = f (ints l[i]) := fun f => by
        have := o_appS (Φ := Fix T) (f := f) (e := 3) (bs := 8) (sc := true) (xs := []) (ys := l[i].map (V.int .i64)) (n := 500) (ints_scalar _ _) (by simp; omega) (by decide)
        simpa using this
      have h2 : ∀ f : V → TR, op1V (Fix T) (.app 63 24 false) [[tks (l.take i)], [.list 63 [ints l[i]]]] f = f (tks (l.take i ++ [l[i]])) := fun f => by
        have := o_appN (Φ := Fix T) (f := f) (e := 63) (bs := 24) (xs := (l.take i).map ints) (ys := [ints l[i]]) (n := 501) (by simp; omega) (by decide)
        rw [this, tks, List.map_append]; rfl
      refine .inl ⟨i + 1, ?_, by omega, by omega, rfl⟩
      rw [hd]
      simp only [ints, tks] at hg hld h1 h2
      simp only [F19_0_b0, tks, ints, b1, hg, hld, o_mk0, h1, o_mkV, h2, w_succ (show i < 4611686018427387904 by omega), List.length_map, VBs, reduceCtorEq, Nat.reduceEqDiff, Option.bind_some, Option.bind_none, List.getElem?_cons_zero, List.getElem?_cons_succ, if_true, if_false, ne_eq]
    · obtain rfl : i = l.length := by omega
      have b1 : ((l.length : Int) < l.length) = False := eq_false (by omega)
      refine .inr ⟨?_, trivial⟩
      simp only [F19_0_b0, tks, b1, List.take_length, List.length_map, VBs, reduceCtorEq, Nat.reduceEqDiff, Option.bind_some, Option.bind_none, List.getElem?_cons_zero, List.getElem?_cons_succ, if_true, if_false, ne_eq]) 600 0 (by omega) (by omega)
  simp only [List.take_zero, Int.natCast_zero, tks, List.map_nil] at this
  simp only [F19_0, tks, this, VBs, reduceCtorEq, Nat.reduceEqDiff, Option.bind_some, Option.bind_none, List.getElem?_cons_zero, List.getElem?_cons_succ, if_true, if_false, ne_eq]
theorem s15 (s : Sc) (h : s.Sm) (ht : TkFew s.ticks) : Fix T 15 0 [s.vs 23] = some [.bool true :: s.vs 30] := by
  refine e15_0 0 ?_
  have h1 := s42 s.ready (by have := h.r; omega)
  have h2 := s42 s.waits (by have := h.w; omega)
  have h3 := s19 s.ticks ht
  simp only [prs, tks] at h1 h2 h3
  simp only [F15_0, Sc.vs, prs, tks, h1, h2, h3, VBs, reduceCtorEq, Nat.reduceEqDiff, Option.bind_some, Option.bind_none, List.getElem?_cons_zero, List.getElem?_cons_succ, if_true, if_false, ne_eq]
theorem s28 (s : Sc) (h : s.Sm) : Fix T 28 0 [s.vs 30] = some [[.int .i64 (s.cnt : Int)]] := by
  refine e28_0 0 ?_
  have hr := h.r
  have hw := h.w
  obtain ⟨busy, cur, left, ready, waits, ticks⟩ := s
  simp only at hr hw
  have w1 : IntKind.i64.wrap ((ready.length : Int) + (waits.length : Int)) = ((ready.length + waits.length : Nat) : Int) := w_in (by omega) (by omega)
  have w2 := w_succ (i := ready.length + waits.length) (by omega)
  cases busy with
  | true => simp only [F28_0, Sc.vs, Sc.cnt, prs, w1, w2, List.length_map, if_true, VBs, reduceCtorEq, Nat.reduceEqDiff, Option.bind_some, Option.bind_none, List.getElem?_cons_zero, List.getElem?_cons_succ, if_true, if_false, ne_eq]
  | false => simp only [F28_0, Sc.vs, Sc.cnt, prs, w1, Nat.add_zero, List.length_map, VBs, reduceCtorEq, Nat.reduceEqDiff, Option.bind_some, Option.bind_none, List.getElem?_cons_zero, List.getElem?_cons_succ, if_true, if_false, ne_eq]
/-- are they too many to be looked at? -/
def bigT (l : List (List Int)) : Bool := (l.any fun t => decide (300 < t.length)) || decide (20 < l.length)
theorem s13 (l : List (List Int)) (h1 : l.length < 2 ^ 60) (h2 : ∀ t ∈ l, t.length < 2 ^ 60) : Fix T 13 0 [[tks l]] = some [[.bool (bigT l)]] := by
  refine e13_0 (l.length + 1) ?_
  have := lp_ind (S := Nat) (l := [1, 1]) (g := F13_0_b0 (Fix T) (l.length + 1) (tks l)) (fun i => [.bool false, .int .i64 (i : Int)]) (fun i => i ≤ l.length) (fun i => l.length - i) (fun i => if ((l.drop i).any fun t => decide (300 < t.length)) = true then some (.ret [[.bool true]]) else some (.exit 0 [1, 1] [.bool false, .int .i64 l.length])) (fun i hi => by
    by_cases h : i < l.length
    · have hd : l.drop i = l[i] :: l.drop (i + 1) := List.drop_eq_getElem_cons h
      have b1 : ((i : Int) < l.length) = True := eq_true (by omega)
      have hg := tks_get h
      have hld : ∀ k : V → TR, op1V (Fix T) (.ldi 0 1 false [false]) [[ints l[i]]] k = k (ints l[i]) := fun k => o_ldiL (.inr rfl)
      simp only [hd, List.any_cons]
      simp only [ints, tks] at hg hld
      by_cases hP : 300 < l[i].length
      · have b2 : ((300 : Int) < l[i].length) = True := eq_true (by omega)
        refine .inr ⟨?_, by simp only [hP, decide_true, Bool.true_or, if_true]; trivial⟩
        simp only [F13_0_b0, tks, ints, b1, b2, hg, hld, hP, decide_true, Bool.true_or, List.length_map, VBs, reduceCtorEq, Nat.reduceEqDiff, Option.bind_some, Option.bind_none, List.getElem?_cons_zero, List.getElem?_cons_succ, if_true, if_false, ne_eq]
      · have b2 : ((300 : Int) < l[i].length) = False := eq_false (by omega)
        refine .inl ⟨i + 1, ?_, by omega, by omega, by simp only [hP, decide_false, Bool.false_or]⟩
        simp only [F13_0_b0, tks, ints, b1, b2, hg, hld, w_succ (show i < 4611686018427387904 by omega), List.length_map, VBs, reduceCtorEq, Nat.reduceEqDiff, Option.bind_some, Option.bind_none, List.getElem?_cons_zero, List.getElem?_cons_succ, if_true, if_false, ne_eq]
    · obtain rfl : i = l.length := by omega
      have b1 : ((l.length : Int) < l.length) = False := eq_false (by omega)
      refine .inr ⟨?_, by simp only [List.drop_length, List.any_nil]; trivial⟩
      simp only [F13_0_b0, tks, b1, List.drop_length, List.any_nil, List.length_map, VBs, reduceCtorEq, Nat.reduceEqDiff, Option.bind_some, Option.bind_none, List.getElem?_cons_zero, List.getElem?_cons_succ, if_true, if_false, ne_eq]) (l.length + 1) 0 (by omega) (by omega)
  simp only [List.drop_zero, Int.natCast_zero] at this
  unfold bigT
  by_cases hA : (l.any fun t => decide (300 < t.length)) = true
  · rw [if_pos hA] at this
    simp only [tks] at this
    simp only [F13_0, tks, this, hA, VBs, reduceCtorEq, Nat.reduceEqDiff, Option.bind_some, Option.bind_none, List.getElem?_cons_zero, List.getElem?_cons_succ, if_true, if_false, ne_eq]
  · rw [if_neg hA] at this
    have hA' : (l.any fun t => decide (300 < t.length)) = false := by simpa using hA
    have b20 : ((20 : Int) < l.length) = (20 < l.length) := by rw [eq_iff_iff]; omega
    simp only [tks] at this
    simp only [F13_0, tks, this, hA', b20, List.length_map, VBs, reduceCtorEq, Nat.reduceEqDiff, Option.bind_some, Option.bind_none, List.getElem?_cons_zero, List.getElem?_cons_succ, if_true, if_false, ne_eq]
theorem big_few {l : List (List Int)} (h : bigT l = false) : TkFew l := by
  simp only [bigT, Bool.or_eq_false_iff, List.any_eq_false, decide_eq_true_eq, decide_eq_false_iff_not] at h
  exact ⟨by omega, fun t ht => by have := h.1 t ht; omega⟩
/-! ### what is done -/
structure Ac where
  kind : Int
  id : Int
  lv : Int
  sem : Int
  base : Bool
def Ac.vs (a : Ac) : List V := [.int .u8 a.kind, .int .i64 a.id, .int .i64 a.lv, .int .i64 a.sem, .bool a.base]
abbrev acs (l : List Ac) : V := .list 52 (l.map fun a => .agg a.vs)
def Sc.step (s : Sc) (a : Ac) : Sc := if a.kind = 0 then (s.add a.id a.lv).2 else if a.kind = 1 then (s.turn a.base).2 else if a.kind = 2 then (s.wait a.sem).2 else if a.kind = 3 then (s.sig a.sem).2 else s.fini.2
theorem inv_step {s : Sc} (h : s.Inv) (a : Ac) : (s.step a).Inv := by
  unfold Sc.step
  split
  · exact (inv_add h _ _).1
  · split
    · exact (inv_turn h _).1
    · split
      · exact (inv_wait h _).1
      · split
        · exact (inv_sig h _).1
        · exact (inv_fini h).1
theorem o_ldi5 {Φ : Funs} {m : List Bool} {a : Ac} {k : V → V → V → V → V → TR} (hm : m = [true, true, true, true, true] ∨ m = []) : opnV Φ (.ldi 0 5 true m) [[.agg a.vs]] 5 k = k (.int .u8 a.kind) (.int .i64 a.id) (.int .i64 a.lv) (.int .i64 a.sem) (.bool a.base) := by
  rw [o_n5]
  rcases hm with rfl | rfl <;> simp [VF.sem, vsub, k1, maskOk, Ac.vs, scalarE, scalarV] <;> rfl
def Sc.st4 (s : Sc) (i : Nat) : List V := [.bool s.busy, .int .i64 s.cur.id, .int .i64 s.cur.lv, .int .i64 s.cur.sem, .int .i64 s.left, .unit, .unit, .unit, prs 30 s.ready, prs 30 s.waits, tks s.ticks, .bool false, .int .i64 (i : Int)]
theorem s4_step (n : Nat) (l : List Ac) (i : Nat) (h : i < l.length) (h80 : i < 80) (s : Sc) (hs : s.Inv) : F4_0_b0 (Fix T) n (acs l) (.bool true) (s.st4 i) = some (.norm [8, 1, 1, 1, 1, 1] ((s.step l[i]).st4 (i + 1))) := by
  have b1 : ((i : Int) < l.length) = True := eq_true (by omega)
  have b2 : ((i : Int) < 80) = True := eq_true (by omega)
  have ws := w_succ (show i < 4611686018427387904 by omega)
  have hg : (l.map fun a => V.agg a.vs)[i]? = some (.agg l[i].vs) := by simp [h]
  have hld : ∀ k : V → V → V → V → V → TR, opnV (Fix T) (.ldi 0 5 true []) [[.agg l[i].vs]] 5 k = _ := fun k => o_ldi5 (.inr rfl)
  have h28 := s28 s hs.sm
  have hsn := inv_step hs l[i]
  have h28' := s28 _ hsn.sm
  have h16' := s16 _ hsn.sm hsn.tkf
  rw [if_pos ((ok_iff _).2 hsn)] at h16'
  have e0 : errV 0 = .nilI := rfl
  rw [e0] at h16'
  have hcnt8 := hs.ln
  generalize l[i] = a at *
  unfold Sc.step at *
  by_cases k0 : a.kind = 0
  · have c0 := eq_true k0
    rw [if_pos k0] at *
    have h9 := s9 s a.id a.lv hs.sm
    obtain ⟨_, hc1, hc2⟩ := inv_add hs a.id a.lv
    generalize s.add a.id a.lv = r at *
    obtain ⟨e, r⟩ := r
    simp only at *
    by_cases he : e = 0
    · subst he
      rw [e0] at h9
      have hc := hc1 rfl
      have wn := w_succ (i := s.cnt) (by omega)
      have bn : (((s.cnt + 1 : Nat) : Int) = ((s.cnt + 1 : Nat) : Int)) = True := eq_true rfl
      rw [hc] at h28'
      generalize s.cnt = cn at *
      obtain ⟨busy, cur, left, ready, waits, ticks⟩ := s
      obtain ⟨busy', cur', left', ready', waits', ticks'⟩ := r
      simp only [Sc.vs, Sc.st4, prs, tks, acs] at *
      simp only [F4_0_b0, b1, b2, ws, wn, bn, hg, hld, h28, h28', h16', h9, c0, List.length_map, VBs, reduceCtorEq, Nat.reduceEqDiff, Option.bind_some, Option.bind_none, List.getElem?_cons_zero, List.getElem?_cons_succ, if_true, if_false, ne_eq]
    · have hc := hc2 he
      subst hc
      have e1 : errV e = .iface 84 (.int .i64 e) := by unfold errV; rw [if_neg he]
      rw [e1] at h9
      obtain ⟨busy, cur, left, ready, waits, ticks⟩ := r
      simp only [Sc.vs, Sc.st4, prs, tks, acs] at *
      simp only [F4_0_b0, b1, b2, ws, hg, hld, h28, h16', h9, c0, List.length_map, VBs, reduceCtorEq, Nat.reduceEqDiff, Option.bind_some, Option.bind_none, List.getElem?_cons_zero, List.getElem?_cons_succ, if_true, if_false, ne_eq]
  · rw [if_neg k0] at *
    have c0 := eq_false k0
    by_cases k1 : a.kind = 1
    · have c1 := eq_true k1
      rw [if_pos k1] at *
      have h6 := s6 s a.base hs.oks
      have hc := (inv_turn hs a.base).2
      rw [hc] at h28'
      generalize s.turn a.base = r at *
      obtain ⟨⟨p, is⟩, r⟩ := r
      generalize s.cnt = cn at *
      obtain ⟨busy, cur, left, ready, waits, ticks⟩ := s
      obtain ⟨busy', cur', left', ready', waits', ticks'⟩ := r
      simp only [Sc.vs, Sc.st4, prs, tks, acs, Pr.vs] at *
      simp only [F4_0_b0, b1, b2, ws, hg, hld, h28, h28', h16', h6, c0, c1, List.length_map, VBs, reduceCtorEq, Nat.reduceEqDiff, Option.bind_some, Option.bind_none, List.getElem?_cons_zero, List.getElem?_cons_succ, if_true, if_false, ne_eq]
    · rw [if_neg k1] at *
      have c1 := eq_false k1
      by_cases k2 : a.kind = 2
      · have c2 := eq_true k2
        rw [if_pos k2] at *
        have h10 := s10 s a.sem hs.sm
        have hc := (inv_wait hs a.sem).2
        rw [hc] at h28'
        generalize s.wait a.sem = r at *
        obtain ⟨e, r⟩ := r
        generalize s.cnt = cn at *
        obtain ⟨busy, cur, left, ready, waits, ticks⟩ := s
        obtain ⟨busy', cur', left', ready', waits', ticks'⟩ := r
        simp only [Sc.vs, Sc.st4, prs, tks, acs, Pr.vs] at *
        by_cases h0 : e = 0
        · subst h0
          rw [e0] at h10
          simp only [F4_0_b0, b1, b2, ws, hg, hld, h28, h28', h16', h10, c0, c1, c2, List.length_map, VBs, reduceCtorEq, Nat.reduceEqDiff, Option.bind_some, Option.bind_none, List.getElem?_cons_zero, List.getElem?_cons_succ, if_true, if_false, ne_eq]
        · have e1 : errV e = .iface 84 (.int .i64 e) := by unfold errV; rw [if_neg h0]
          rw [e1] at h10
          simp only [F4_0_b0, b1, b2, ws, hg, hld, h28, h28', h16', h10, c0, c1, c2, List.length_map, VBs, reduceCtorEq, Nat.reduceEqDiff, Option.bind_some, Option.bind_none, List.getElem?_cons_zero, List.getElem?_cons_succ, if_true, if_false, ne_eq]
      · rw [if_neg k2] at *
        have c2 := eq_false k2
        by_cases k3 : a.kind = 3
        · have c3 := eq_true k3
          rw [if_pos k3] at *
          have h7 := s7 s a.sem hs.sm
          have hc := (inv_sig hs a.sem).2
          rw [hc] at h28'
          generalize s.sig a.sem = r at *
          obtain ⟨⟨p, is⟩, r⟩ := r
          generalize s.cnt = cn at *
          obtain ⟨busy, cur, left, ready, waits, ticks⟩ := s
          obtain ⟨busy', cur', left', ready', waits', ticks'⟩ := r
          simp only [Sc.vs, Sc.st4, prs, tks, acs, Pr.vs] at *
          simp only [F4_0_b0, b1, b2, ws, hg, hld, h28, h28', h16', h7, c0, c1, c2, c3, List.length_map, VBs, reduceCtorEq, Nat.reduceEqDiff, Option.bind_some, Option.bind_none, List.getElem?_cons_zero, List.getElem?_cons_succ, if_true, if_false, ne_eq]
        · rw [if_neg k3] at *
          have c3 := eq_false k3
          have h11 := s11 s
          obtain ⟨_, hc1, hc2⟩ := inv_fini hs
          generalize s.fini = r at *
          obtain ⟨e, r⟩ := r
          simp only at *
          by_cases he : e = 0
          · subst he
            rw [e0] at h11
            have hc := hc1 rfl
            have wn : IntKind.i64.wrap ((s.cnt : Int) - 1) = (r.cnt : Int) := by rw [← hc]; rw [w_i64 (by omega)]; omega
            generalize s.cnt = cn at *
            generalize r.cnt = cm at *
            obtain ⟨busy, cur, left, ready, waits, ticks⟩ := s
            obtain ⟨busy', cur', left', ready', waits', ticks'⟩ := r
            simp only [Sc.vs, Sc.st4, prs, tks, acs] at *
            simp only [F4_0_b0, b1, b2, ws, wn, hg, hld, h28, h28', h16', h11, c0, c1, c2, c3, List.length_map, VBs, reduceCtorEq, Nat.reduceEqDiff, Option.bind_some, Option.bind_none, List.getElem?_cons_zero, List.getElem?_cons_succ, if_true, if_false, ne_eq]
          · have hc := hc2 he
            subst hc
            have e1 : errV e = .iface 84 (.int .i64 e) := by unfold errV; rw [if_neg he]
            rw [e1] at h11
            obtain ⟨busy, cur, left, ready, waits, ticks⟩ := r
            simp only [Sc.vs, Sc.st4, prs, tks, acs] at *
            simp only [F4_0_b0, b1, b2, ws, hg, hld, h28, h16', h11, c0, c1, c2, c3, List.length_map, VBs, reduceCtorEq, Nat.reduceEqDiff, Option.bind_some, Option.bind_none, List.getElem?_cons_zero, List.getElem?_cons_succ, if_true, if_false, ne_eq]
theorem s4_loop (n : Nat) (l : List Ac) : ∀ (d i fuel : Nat) (s : Sc), min 80 l.length - i = d → i ≤ min 80 l.length → d < fuel → s.Inv → ∃ s' : Sc, lpV [8, 1, 1, 1, 1, 1] (F4_0_b0 (Fix T) n (acs l) (.bool true)) fuel (s.st4 i) = some (.exit 0 [1, 1, 8, 1, 1, 1] [.bool false, .int .i64 (min 80 l.length : Nat), .bool s'.busy, .int .i64 s'.cur.id, .int .i64 s'.cur.lv, .int .i64 s'.cur.sem, .int .i64 s'.left, .unit, .unit, .unit, prs 30 s'.ready, prs 30 s'.waits, tks s'.ticks]) := by
  intro d
  induction d with
  | zero =>
    intro i fuel s hd hi hf hs
    obtain ⟨fuel, rfl⟩ : ∃ m, fuel = m + 1 := ⟨fuel - 1, by omega⟩
    obtain rfl : i = min 80 l.length := by omega
    refine ⟨s, ?_⟩
    by_cases h : l.length ≤ 80
    · have e : min 80 l.length = l.length := by omega
      rw [e]
      have b1 : ((l.length : Int) < l.length) = False := eq_false (by omega)
      rw [lp_exit (j := 0) (l' := [1, 1, 8, 1, 1, 1]) (vs' := [.bool false, .int .i64 l.length, .bool s.busy, .int .i64 s.cur.id, .int .i64 s.cur.lv, .int .i64 s.cur.sem, .int .i64 s.left, .unit, .unit, .unit, prs 30 s.ready, prs 30 s.waits, tks s.ticks]) (by simp only [F4_0_b0, Sc.st4, acs, b1, List.length_map, VBs, reduceCtorEq, Nat.reduceEqDiff, Option.bind_some, Option.bind_none, List.getElem?_cons_zero, List.getElem?_cons_succ, if_true, if_false, ne_eq])]
    · have e : min 80 l.length = 80 := by omega
      rw [e]
      have b1 : (((80 : Nat) : Int) < l.length) = True := eq_true (by omega)
      have b2 : (((80 : Nat) : Int) < 80) = False := eq_false (by omega)
      rw [lp_exit (j := 0) (l' := [1, 1, 8, 1, 1, 1]) (vs' := [.bool false, .int .i64 (80 : Nat), .bool s.busy, .int .i64 s.cur.id, .int .i64 s.cur.lv, .int .i64 s.cur.sem, .int .i64 s.left, .unit, .unit, .unit, prs 30 s.ready, prs 30 s.waits, tks s.ticks]) (by simp only [F4_0_b0, Sc.st4, acs, b1, b2, List.length_map, VBs, reduceCtorEq, Nat.reduceEqDiff, Option.bind_some, Option.bind_none, List.getElem?_cons_zero, List.getElem?_cons_succ, if_true, if_false, ne_eq])]
  | succ d ih =>
    intro i fuel s hd hi hf hs
    obtain ⟨fuel, rfl⟩ : ∃ m, fuel = m + 1 := ⟨fuel - 1, by omega⟩
    have h : i < l.length := by omega
    obtain ⟨s', h'⟩ := ih (i + 1) fuel (s.step l[i]) (by omega) (by omega) (by omega) (inv_step hs _)
    exact ⟨s', by rw [lp_norm (s4_step n l i h (by omega) s hs), h']⟩
theorem ProcKeeps_ok (s : Sc) (l : List Ac) (h1 : s.ready.length < 2 ^ 60) (h2 : s.waits.length < 2 ^ 60) (h3 : s.ticks.length < 2 ^ 60) (h4 : ∀ t ∈ s.ticks, t.length < 2 ^ 60) (h5 : l.length < 2 ^ 60) : Fix T 4 0 [s.vs 23, [acs l]] = some [[.bool true]] := by
  refine e4_0 100 ?_
  have h14 := s14
  have h13 := s13 s.ticks h3 h4
  by_cases hr : 20 < s.ready.length
  · have b1 : ((20 : Int) < s.ready.length) = True := eq_true (by omega)
    obtain ⟨busy, cur, left, ready, waits, ticks⟩ := s
    simp only [Sc.vs, prs, tks] at *
    simp only [F4_0, prs, tks, b1, h14, List.length_map, VBs, reduceCtorEq, Nat.reduceEqDiff, Option.bind_some, Option.bind_none, List.getElem?_cons_zero, List.getElem?_cons_succ, if_true, if_false, ne_eq]
  · have b1 : ((20 : Int) < s.ready.length) = False := eq_false (by omega)
    by_cases hw : 20 < s.waits.length
    · have b2 : ((20 : Int) < s.waits.length) = True := eq_true (by omega)
      obtain ⟨busy, cur, left, ready, waits, ticks⟩ := s
      simp only [Sc.vs, prs, tks] at *
      simp only [F4_0, prs, tks, b1, b2, h14, List.length_map, VBs, reduceCtorEq, Nat.reduceEqDiff, Option.bind_some, Option.bind_none, List.getElem?_cons_zero, List.getElem?_cons_succ, if_true, if_false, ne_eq]
    · have b2 : ((20 : Int) < s.waits.length) = False := eq_false (by omega)
      cases hb : bigT s.ticks with
      | true =>
        rw [hb] at h13
        obtain ⟨busy, cur, left, ready, waits, ticks⟩ := s
        simp only [Sc.vs, prs, tks] at *
        simp only [F4_0, prs, tks, b1, b2, h13, h14, List.length_map, VBs, reduceCtorEq, Nat.reduceEqDiff, Option.bind_some, Option.bind_none, List.getElem?_cons_zero, List.getElem?_cons_succ, if_true, if_false, ne_eq]
      | false =>
        rw [hb] at h13
        have hf := big_few hb
        have hs : s.Sm := ⟨by omega, by omega⟩
        have h15 := s15 s hs hf
        have h16 := s16 s hs hf
        cases ho : s.ok with
        | false =>
          have e1 : errV (if s.ok = true then 0 else 1) = .iface 84 (.int .i64 1) := by rw [ho]; rfl
          rw [e1] at h16
          obtain ⟨busy, cur, left, ready, waits, ticks⟩ := s
          simp only [Sc.vs, prs, tks] at *
          simp only [F4_0, prs, tks, b1, b2, h13, h14, h15, h16, List.length_map, VBs, reduceCtorEq, Nat.reduceEqDiff, Option.bind_some, Option.bind_none, List.getElem?_cons_zero, List.getElem?_cons_succ, if_true, if_false, ne_eq]
        | true =>
          have e1 : errV (if s.ok = true then 0 else 1) = .nilI := by rw [ho]; rfl
          rw [e1] at h16
          obtain ⟨s', hl⟩ := s4_loop 100 l (min 80 l.length) 0 100 s (by omega) (by omega) (by omega) ((ok_iff s).1 ho)
          obtain ⟨busy, cur, left, ready, waits, ticks⟩ := s
          simp only [Sc.vs, Sc.st4, prs, tks, acs, Int.natCast_zero] at *
          simp only [F4_0, prs, tks, acs, b1, b2, h13, h14, h15, h16, hl, List.length_map, VBs, reduceCtorEq, Nat.reduceEqDiff, Option.bind_some, Option.bind_none, List.getElem?_cons_zero, List.getElem?_cons_succ, if_true, if_false, ne_eq]
end Go.Proofs.YtlhcgiegganbpaaDoorVs
set_option linter.unusedVariables false
set_option linter.unusedSimpArgs false
set_option maxRecDepth 100000
namespace Go.Proofs.YtlhcgiegganbpaaDoorVs
theorem s52 (l : List Pr) (p : Pr) (hl : l.length ≤ 400) : Fix T 52 0 [[prs 23 l], p.vs] = some [[prs 23 (l ++ [p])]] := by
  refine e52_0 0 ?_
  have h1 : ∀ f : V → TR, op1V (Fix T) (.app 23 24 true) [[.list 23 []], [prs 23 l]] f = f (prs 23 l) := fun f => by
    have := o_appS (Φ := Fix T) (f := f) (e := 23) (bs := 24) (sc := true) (xs := []) (ys := l.map fun p => .agg p.vs) (n := 1000) (prs_scalar l) (by simp; omega) (by decide)
    simpa using this
  have h2 : ∀ f : V → TR, op1V (Fix T) (.app 23 24 false) [[.list 23 (l.map fun p => .agg p.vs)], [.list 23 [.agg (Pr.vs ⟨p.id, p.lv, p.sem⟩)]]] f = f (prs 23 (l ++ [p])) := fun f => o_appP (by omega)
  simp only [prs] at h1
  simp only [Pr.vs, prs]
  have h2' := h2
  simp only [Pr.vs, prs] at h1 h2'
  have hm : ∀ k : V → TR, op1V (Fix T) (.mk 23 [(true, [(0, 0), (1, 1), (2, 2)])]) [[.int .i64 p.id, .int .i64 p.lv, .int .i64 p.sem], [.int .i64 p.id, .int .i64 p.lv, .int .i64 p.sem], [.int .i64 p.id, .int .i64 p.lv, .int .i64 p.sem]] k = k (.list 23 [.agg [.int .i64 p.id, .int .i64 p.lv, .int .i64 p.sem]]) := fun k => rfl
  simp only [F52_0, o_mk0, h1, hm, h2', VBs, reduceCtorEq, Nat.reduceEqDiff, Option.bind_some, Option.bind_none, List.getElem?_cons_zero, List.getElem?_cons_succ, if_true, if_false, ne_eq]
theorem is_loop (g : List V → TR) (id : Int) (l : List Pr) (n x : Nat) (hl : l.length ≤ 400) (hn : l.length < n)
    (hg : ∀ (b : Bool) (i : Nat), g [.bool b, .int .i64 (i : Int)] = match l[i]? with
      | some p => some (.norm [1, 1] [.bool (b || decide (p.id = id)), .int .i64 ((i + 1 : Nat) : Int)])
      | none => some (.exit x [1, 1] [.bool b, .int .i64 (i : Int)])) (b : Bool) : lpV [1, 1] g n [.bool b, .int .i64 0] = some (.exit x [1, 1] [.bool (b || l.any fun p => decide (p.id = id)), .int .i64 l.length]) := by
  have := lp_ind (S := Bool × Nat) (l := [1, 1]) (g := g) (fun s => [.bool s.1, .int .i64 (s.2 : Int)]) (fun s => s.2 ≤ l.length) (fun s => l.length - s.2) (fun s => some (.exit x [1, 1] [.bool (s.1 || (l.drop s.2).any fun p => decide (p.id = id)), .int .i64 l.length])) (fun s hi => by
    obtain ⟨b, i⟩ := s
    by_cases h : i < l.length
    · have hd : l.drop i = l[i] :: l.drop (i + 1) := List.drop_eq_getElem_cons h
      refine .inl ⟨(b || decide (l[i].id = id), i + 1), ?_, by simp only at hi ⊢; omega, by simp only; omega, ?_⟩
      · rw [hg, List.getElem?_eq_getElem h]
      · simp only [hd, List.any_cons, Bool.or_assoc]
    · obtain rfl : i = l.length := by simp only at hi; omega
      refine .inr ⟨?_, trivial⟩
      rw [hg, List.getElem?_eq_none (Nat.le_refl _)]
      simp) n (b, 0) (by simp) (by simp; omega)
  simpa using this
theorem o_ldi2 {Φ : Funs} {p : Pr} {k : V → TR} : op1V Φ (.ldi 2 1 false [true]) [[.agg p.vs]] k = k (.int .i64 p.sem) := by simp [op1V, VF.sem, vsub, k1, maskOk, Pr.vs, scalarV]
theorem o_ldi00 {Φ : Funs} {p : Pr} {k : V → TR} : op1V Φ (.ldi 0 1 false [true]) [[.agg p.vs]] k = k (.int .i64 p.id) := by simp [op1V, VF.sem, vsub, k1, maskOk, Pr.vs, scalarV]
def Sc.is (s : Sc) (id : Int) : Bool := ((s.busy && decide (s.cur.id = id)) || (s.ready.any fun p => decide (p.id = id))) || (s.waits.any fun p => decide (p.id = id))
theorem s50 (s : Sc) (id : Int) (h : s.Sm) : Fix T 50 0 [s.vs 23, [.int .i64 id]] = some [[.bool (s.is id)]] := by
  refine e50_0 600 ?_
  have hr := h.r
  have hw := h.w
  have hA := is_loop (F50_0_b0 (Fix T) 600 (prs 23 s.ready) (.int .i64 id)) id s.ready 600 0 (by omega) (by omega) (fun b i => by
    by_cases hi : i < s.ready.length
    · have hg := prs_get (List.getElem?_eq_getElem hi)
      have b1 : ((i : Int) < s.ready.length) = True := eq_true (by omega)
      rw [List.getElem?_eq_getElem hi]
      cases b <;> simp only [F50_0_b0, prs, b1, hg, o_ldi00, w_succ (show i < 4611686018427387904 by omega), List.length_map, VBs, reduceCtorEq, Nat.reduceEqDiff, Option.bind_some, Option.bind_none, List.getElem?_cons_zero, List.getElem?_cons_succ, if_true, if_false, ne_eq]
    · have b1 : ((i : Int) < s.ready.length) = False := eq_false (by omega)
      rw [List.getElem?_eq_none (by omega)]
      simp only [F50_0_b0, prs, b1, List.length_map, VBs, reduceCtorEq, Nat.reduceEqDiff, Option.bind_some, Option.bind_none, List.getElem?_cons_zero, List.getElem?_cons_succ, if_true, if_false, ne_eq]) (s.busy && decide (s.cur.id = id))
  have hB := is_loop (F50_0_b1 (Fix T) 600 (prs 23 s.waits) (.int .i64 id)) id s.waits 600 2 (by omega) (by omega) (fun b i => by
    by_cases hi : i < s.waits.length
    · have hg := prs_get (List.getElem?_eq_getElem hi)
      have b1 : ((i : Int) < s.waits.length) = True := eq_true (by omega)
      rw [List.getElem?_eq_getElem hi]
      cases b <;> simp only [F50_0_b1, prs, b1, hg, o_ldi00, w_succ (show i < 4611686018427387904 by omega), List.length_map, VBs, reduceCtorEq, Nat.reduceEqDiff, Option.bind_some, Option.bind_none, List.getElem?_cons_zero, List.getElem?_cons_succ, if_true, if_false, ne_eq]
    · have b1 : ((i : Int) < s.waits.length) = False := eq_false (by omega)
      rw [List.getElem?_eq_none (by omega)]
      simp only [F50_0_b1, prs, b1, List.length_map, VBs, reduceCtorEq, Nat.reduceEqDiff, Option.bind_some, Option.bind_none, List.getElem?_cons_zero, List.getElem?_cons_succ, if_true, if_false, ne_eq]) ((s.busy && decide (s.cur.id = id)) || (s.ready.any fun p => decide (p.id = id)))
  unfold Sc.is
  obtain ⟨busy, cur, left, ready, waits, ticks⟩ := s
  simp only [Sc.vs, prs] at *
  simp only [F50_0, hA, hB, VBs, reduceCtorEq, Nat.reduceEqDiff, Option.bind_some, Option.bind_none, List.getElem?_cons_zero, List.getElem?_cons_succ, if_true, if_false, ne_eq]
theorem is_all (s : Sc) (id : Int) : s.is id = s.all.any fun p => decide (p.id = id) := by
  unfold Sc.is Sc.all
  cases s.busy <;> simp [Bool.or_comm, Bool.or_left_comm, Bool.or_assoc]
theorem s51 (s : Sc) (h : s.Sm) : Fix T 51 0 [s.vs 23] = some [[.int .i64 (s.cnt : Int)]] := by
  refine e51_0 0 ?_
  have hr := h.r
  have hw := h.w
  obtain ⟨busy, cur, left, ready, waits, ticks⟩ := s
  simp only at hr hw
  have w1 : IntKind.i64.wrap ((ready.length : Int) + (waits.length : Int)) = ((ready.length + waits.length : Nat) : Int) := w_in (by omega) (by omega)
  have w2 := w_succ (i := ready.length + waits.length) (by omega)
  cases busy with
  | true => simp only [F51_0, Sc.vs, Sc.cnt, prs, w1, w2, List.length_map, if_true, VBs, reduceCtorEq, Nat.reduceEqDiff, Option.bind_some, Option.bind_none, List.getElem?_cons_zero, List.getElem?_cons_succ, if_true, if_false, ne_eq]
  | false => simp only [F51_0, Sc.vs, Sc.cnt, prs, w1, Nat.add_zero, List.length_map, VBs, reduceCtorEq, Nat.reduceEqDiff, Option.bind_some, Option.bind_none, List.getElem?_cons_zero, List.getElem?_cons_succ, if_true, if_false, ne_eq]
theorem s22 (s : Sc) (id lv : Int) (h : s.Sm) : Fix T 22 1 [s.vs 23, [.int .i64 id], [.int .i64 lv]] = some [(s.add id lv).2.vs 23, [.int .i64 (s.add id lv).1]] := by
  refine e22_1 0 ?_
  have h47 := s47 ⟨id, lv, 0⟩
  have h50 := s50 s id h
  rw [is_all] at h50
  have h51 := s51 s h
  have h52 := s52 s.ready ⟨id, lv, 0⟩ (by have := h.r; omega)
  unfold Sc.add
  rw [all_cnt]
  generalize Pr.may ⟨id, lv, 0⟩ = m at *
  generalize (s.all.any fun p => decide (p.id = id)) = q at *
  generalize s.cnt = cn at *
  obtain ⟨busy, cur, left, ready, waits, ticks⟩ := s
  simp only [Pr.vs] at h47 h52
  simp only [prs, Sc.vs] at *
  by_cases hm : (!m || q) = true
  · rw [if_pos hm]
    rcases m with _ | _
    · simp only [F22_1, h47, h50, VBs, reduceCtorEq, Nat.reduceEqDiff, Option.bind_some, Option.bind_none, List.getElem?_cons_zero, List.getElem?_cons_succ, if_true, if_false, ne_eq]
    · have hq : q = true := by simpa using hm
      subst hq
      simp only [F22_1, h47, h50, VBs, reduceCtorEq, Nat.reduceEqDiff, Option.bind_some, Option.bind_none, List.getElem?_cons_zero, List.getElem?_cons_succ, if_true, if_false, ne_eq]
  · rw [if_neg hm]
    obtain ⟨rfl, rfl⟩ : m = true ∧ q = false := by simpa using hm
    by_cases h8 : 8 ≤ cn
    · have b1 : ((8 : Int) ≤ cn) = True := eq_true (by omega)
      rw [if_pos h8]
      simp only [F22_1, h47, h50, h51, b1, VBs, reduceCtorEq, Nat.reduceEqDiff, Option.bind_some, Option.bind_none, List.getElem?_cons_zero, List.getElem?_cons_succ, if_true, if_false, ne_eq]
    · have b1 : ((8 : Int) ≤ cn) = False := eq_false (by omega)
      rw [if_neg h8]
      simp only [F22_1, h47, h50, h51, h52, b1, VBs, reduceCtorEq, Nat.reduceEqDiff, Option.bind_some, Option.bind_none, List.getElem?_cons_zero, List.getElem?_cons_succ, if_true, if_false, ne_eq]
theorem s24 (s : Sc) (sem : Int) (h : s.Sm) : Fix T 24 1 [s.vs 23, [.int .i64 sem]] = some [(s.wait sem).2.vs 23, [.int .i64 (s.wait sem).1]] := by
  refine e24_1 0 ?_
  have h52 := s52 s.waits ⟨s.cur.id, s.cur.lv, sem⟩ (by have := h.w; omega)
  obtain ⟨busy, cur, left, ready, waits, ticks⟩ := s
  simp only [Pr.vs] at h52
  simp only [prs, Sc.vs] at *
  unfold Sc.wait
  have e2 : (65535 < sem) = (65536 ≤ sem) := by rw [eq_iff_iff]; omega
  by_cases h1 : sem < 0
  · have b1 := eq_true h1
    rw [if_pos (.inl h1)]
    simp only [F24_1, b1, VBs, reduceCtorEq, Nat.reduceEqDiff, Option.bind_some, Option.bind_none, List.getElem?_cons_zero, List.getElem?_cons_succ, if_true, if_false, ne_eq]
  · have b1 := eq_false h1
    by_cases h2 : 65536 ≤ sem
    · have b2 := eq_true h2
      rw [if_pos (.inr h2)]
      simp only [F24_1, b1, e2, b2, VBs, reduceCtorEq, Nat.reduceEqDiff, Option.bind_some, Option.bind_none, List.getElem?_cons_zero, List.getElem?_cons_succ, if_true, if_false, ne_eq]
    · have b2 := eq_false h2
      rw [if_neg (by omega)]
      cases busy with
      | true =>
        simp only [F24_1, b1, e2, b2, h52, VBs, reduceCtorEq, Nat.reduceEqDiff, Option.bind_some, Option.bind_none, List.getElem?_cons_zero, List.getElem?_cons_succ, if_true, if_false, ne_eq]
        try rfl
      | false =>
        simp only [F24_1, b1, e2, b2, VBs, reduceCtorEq, Nat.reduceEqDiff, Option.bind_some, Option.bind_none, List.getElem?_cons_zero, List.getElem?_cons_succ, if_true, if_false, ne_eq]
        try rfl
theorem s26 (s : Sc) : Fix T 26 1 [s.vs 23] = some [s.fini.2.vs 23, [.int .i64 s.fini.1]] := by
  refine e26_1 0 ?_
  obtain ⟨busy, cur, left, ready, waits, ticks⟩ := s
  simp only [prs, Sc.vs, Sc.rest] at *
  unfold Sc.fini
  cases busy with
  | true => simp only [F26_1, VBs, reduceCtorEq, Nat.reduceEqDiff, Option.bind_some, Option.bind_none, List.getElem?_cons_zero, List.getElem?_cons_succ, if_true, if_false, ne_eq]; try rfl
  | false => simp only [F26_1, VBs, reduceCtorEq, Nat.reduceEqDiff, Option.bind_some, Option.bind_none, List.getElem?_cons_zero, List.getElem?_cons_succ, if_true, if_false, ne_eq]; try rfl
end Go.Proofs.YtlhcgiegganbpaaDoorVs
set_option linter.unusedVariables false
set_option linter.unusedSimpArgs false
set_option maxRecDepth 100000
namespace Go.Proofs.YtlhcgiegganbpaaDoorVs
/-! ### lists with one changed -/
theorem s23_loop (ts : List (List Int)) (j n : Nat) (hj : j < ts.length) (hne : ts[j] ≠ []) (hl : ts.length ≤ 500) (hn : ts.length < n) : lpV [1, 1, 1] (F23_0_b0 (Fix T) n (tks ts) (.int .i64 (j : Int))) n [.list 63 [], .unit, .int .i64 0] = some (.exit 0 [1, 1, 1] [.unit, tks (ts.set j (ts[j].drop 1)), .int .i64 ts.length]) := by
  have := lp_ind (S := Nat) (l := [1, 1, 1]) (g := F23_0_b0 (Fix T) n (tks ts) (.int .i64 (j : Int))) (fun i => [tks ((ts.set j (ts[j].drop 1)).take i), .unit, .int .i64 (i : Int)]) (fun i => i ≤ ts.length) (fun i => ts.length - i) (fun i => some (.exit 0 [1, 1, 1] [.unit, tks (ts.set j (ts[j].drop 1)), .int .i64 ts.length])) (fun i hi => by
    by_cases h : i < ts.length
    · have h' : i < (ts.set j (ts[j].drop 1)).length := by simpa using h
      have hd : (ts.set j (ts[j].drop 1)).take (i + 1) = (ts.set j (ts[j].drop 1)).take i ++ [(ts.set j (ts[j].drop 1))[i]] := by simp
      have b1 : ((i : Int) < ts.length) = True := eq_true (by omega)
      have hg := tks_get h
      have hld : ∀ k : V → TR, op1V (Fix T) (.ldi 0 1 false []) [[ints ts[i]]] k = k (ints ts[i]) := fun k => o_ldiL (.inl rfl)
      have h2 : ∀ (q : List Int) (f : V → TR), op1V (Fix T) (.app 63 24 false) [[tks ((ts.set j (ts[j].drop 1)).take i)], [.list 63 [ints q]]] f = f (tks ((ts.set j (ts[j].drop 1)).take i ++ [q])) := fun q f => by
        have := o_appN (Φ := Fix T) (f := f) (e := 63) (bs := 24) (xs := ((ts.set j (ts[j].drop 1)).take i).map ints) (ys := [ints q]) (n := 501) (by simp; omega) (by decide)
        rw [this, tks, List.map_append]; rfl
      refine .inl ⟨i + 1, ?_, by omega, by omega, rfl⟩
      rw [hd]
      by_cases hij : i = j
      · subst hij
        have b2 : ((i : Int) = (i : Int)) = True := eq_true rfl
        have he : (ts.set i (ts[i].drop 1))[i] = ts[i].drop 1 := by simp
        have hsl : ∀ k : V → TR, op1V (Fix T) (.slc 3 true false) [[ints ts[i]], [.int .i64 1]] k = k (ints (ts[i].drop 1)) := fun k => by
          cases hti : ts[i] with
          | nil => exact absurd hti hne
          | cons a r =>
            simp only [ints, List.map_cons, List.drop_succ_cons, List.drop_zero]
            exact o_slc1
        rw [he]
        have h3 := h2 (ts[i].drop 1)
        generalize ts[i].drop 1 = u at *
        simp only [ints, tks] at hg hld hsl h3 ⊢
        simp only [F23_0_b0, tks, ints, b1, b2, hg, hld, hsl, o_mkV, h3, w_succ (show i < 4611686018427387904 by omega), List.length_map, VBs, reduceCtorEq, Nat.reduceEqDiff, Option.bind_some, Option.bind_none, List.getElem?_cons_zero, List.getElem?_cons_succ, if_true, if_false, ne_eq]
      · have b2 : ((i : Int) = (j : Int)) = False := eq_false (by omega)
        have he : (ts.set j (ts[j].drop 1))[i] = ts[i] := by rw [List.getElem_set_ne (fun e => hij e.symm)]
        rw [he]
        have h3 := h2 ts[i]
        generalize ts[j].drop 1 = u at *
        simp only [ints, tks] at hg hld h3 ⊢
        simp only [F23_0_b0, tks, ints, b1, b2, hg, hld, o_mkV, h3, w_succ (show i < 4611686018427387904 by omega), List.length_map, VBs, reduceCtorEq, Nat.reduceEqDiff, Option.bind_some, Option.bind_none, List.getElem?_cons_zero, List.getElem?_cons_succ, if_true, if_false, ne_eq]
    · obtain rfl : i = ts.length := by omega
      have b1 : ((ts.length : Int) < ts.length) = False := eq_false (by omega)
      have ht : (ts.set j (ts[j].drop 1)).take ts.length = ts.set j (ts[j].drop 1) := List.take_of_length_le (by simp)
      refine .inr ⟨?_, trivial⟩
      rw [ht]
      simp only [F23_0_b0, tks, b1, List.length_map, VBs, reduceCtorEq, Nat.reduceEqDiff, Option.bind_some, Option.bind_none, List.getElem?_cons_zero, List.getElem?_cons_succ, if_true, if_false, ne_eq]) n 0 (by omega) (by omega)
  simpa [tks] using this
theorem s52' (l : List Pr) (a b c : Int) (hl : l.length ≤ 400) : Fix T 52 0 [[.list 23 (l.map fun p => V.agg p.vs)], [.int .i64 a, .int .i64 b, .int .i64 c]] = some [[.list 23 ((l ++ [Pr.mk a b c]).map fun p => V.agg p.vs)]] := s52 l ⟨a, b, c⟩ hl
noncomputable abbrev Sc.F23 (s : Sc) (n : Nat) (base : Bool) : TR := F23_0 (Fix T) n (.bool s.busy) (.int .i64 s.cur.id) (.int .i64 s.cur.lv) (.int .i64 s.cur.sem) (.int .i64 s.left) (prs 23 s.ready) (prs 23 s.waits) (tks s.ticks) (.bool base)
theorem s23A (s : Sc) (n : Nat) (hb : s.busy = true) (hl : s.left = 0) (hr : s.ready.length ≤ 400) : s.F23 n true = ({ s with busy := false, ready := s.ready ++ [s.cur] } : Sc).F23 n true := by
  obtain ⟨busy, cur, left, ready, waits, ticks⟩ := s
  simp only at hb hl hr
  subst hb; subst hl
  have h52 := s52' ready cur.id cur.lv cur.sem hr
  have h0 : ((0 : Int) = 0) = True := eq_true rfl
  simp only [Sc.F23, prs, F23_0, h52, h0, VBs, reduceCtorEq, Nat.reduceEqDiff, Option.bind_some, Option.bind_none, List.getElem?_cons_zero, List.getElem?_cons_succ, if_true, if_false, ne_eq]
theorem s23B (s : Sc) (n : Nat) (base : Bool) (hb : s.busy = true) (hl : ¬ (base = true ∧ s.left = 0)) (hlr : s.left ≤ 9223372036854775807) : s.F23 n base = some (.ret [(s.fin base).vs 23, (s.fin base).cur.vs, [.bool true]]) := by
  obtain ⟨busy, cur, left, ready, waits, ticks⟩ := s
  simp only at hb hl hlr
  subst hb
  by_cases hbase : base = true
  · subst hbase
    have h0 : (left = 0) = False := eq_false (fun h => hl ⟨rfl, h⟩)
    by_cases hp : 0 < left
    · have bp := eq_true hp
      have w1 : IntKind.i64.wrap (left - 1) = left - 1 := w_i64 (by omega)
      simp only [Sc.F23, F23_0, Sc.fin, Sc.vs, Pr.vs, prs, h0, bp, w1, and_self, if_true, VBs, reduceCtorEq, Nat.reduceEqDiff, Option.bind_some, Option.bind_none, List.getElem?_cons_zero, List.getElem?_cons_succ, if_true, if_false, ne_eq]
    · have bp := eq_false hp
      simp only [Sc.F23, F23_0, Sc.fin, Sc.vs, Pr.vs, prs, h0, bp, and_false, if_false, VBs, reduceCtorEq, Nat.reduceEqDiff, Option.bind_some, Option.bind_none, List.getElem?_cons_zero, List.getElem?_cons_succ, if_true, if_false, ne_eq]
  · have hbase : base = false := by simpa using hbase
    subst hbase
    simp only [Sc.F23, F23_0, Sc.fin, Sc.vs, Pr.vs, prs, false_and, if_false, VBs, reduceCtorEq, Nat.reduceEqDiff, Option.bind_some, Option.bind_none, List.getElem?_cons_zero, List.getElem?_cons_succ, if_true, if_false, ne_eq]
theorem s23N (s : Sc) (n : Nat) (base : Bool) (hb : s.busy = false) (hr : s.ready = []) : s.F23 n base = some (.ret [s.rest.vs 23, nilP.vs, [.bool false]]) := by
  obtain ⟨busy, cur, left, ready, waits, ticks⟩ := s
  simp only at hb hr
  subst hb; subst hr
  simp only [Sc.F23, F23_0, Sc.vs, Sc.rest, Pr.vs, nilP, prs, List.map_nil, List.length_nil, Int.natCast_zero, VBs, reduceCtorEq, Nat.reduceEqDiff, Option.bind_some, Option.bind_none, List.getElem?_cons_zero, List.getElem?_cons_succ, if_true, if_false, ne_eq]
theorem s23C (s : Sc) (n : Nat) (base : Bool) (hb : s.busy = false) (p : Pr) (r : List Pr) (hr : s.ready = p :: r) (hlv : 0 ≤ p.lv) (s2 : Sc) (h2 : s.rest.next = some s2) (hlr : s2.left ≤ 9223372036854775807) (ht : s.ticks.length ≤ 500) (hn : s.ticks.length < n) : s.F23 n base = some (.ret [(s2.fin true).vs 23, (s2.fin true).cur.vs, [.bool true]]) := by
  obtain ⟨busy, cur, left, ready, waits, ticks⟩ := s
  simp only at hb hr ht hn
  subst hb; subst hr
  obtain ⟨pid, plv, psem⟩ := p
  simp only at hlv
  obtain ⟨m, rfl⟩ := Int.eq_ofNat_of_zero_le hlv
  have h0 : (((r.length + 1 : Nat) : Int) = 0) = False := eq_false (by omega)
  have hl3 : ∀ (k : V → V → V → TR), opnV (Fix T) (.ldi 0 3 true []) [[.agg (Pr.vs ⟨pid, m, psem⟩)]] 3 k = k (.int .i64 pid) (.int .i64 m) (.int .i64 psem) := fun k => o_ldi3 (.inr rfl)
  have hi0 : ∀ k : V → TR, op1V (Fix T) (.idx 23) [[.list 23 (V.agg (Pr.vs ⟨pid, m, psem⟩) :: r.map fun p => V.agg p.vs)], [.int .i64 0]] k = k (.agg (Pr.vs ⟨pid, m, psem⟩)) := fun k => o_idxN (j := 0)
  simp only [Sc.next, Sc.rest, Option.some.injEq] at h2
  by_cases hmt : m < ticks.length
  · have b1 : ((m : Int) < ticks.length) = True := eq_true (by omega)
    have hg := tks_get hmt
    have hgm := List.getElem?_eq_getElem hmt
    have hld : ∀ k : V → TR, op1V (Fix T) (.ldi 0 1 false []) [[ints ticks[m]]] k = k (ints ticks[m]) := fun k => o_ldiL (.inl rfl)
    have hlp := fun hne => s23_loop ticks m n hmt hne ht hn
    cases ht : ticks[m] with
    | nil =>
      have hq : Sc.quant { busy := true, cur := ⟨pid, m, psem⟩, left := 0, ready := r, waits, ticks } m = (-1, { busy := true, cur := ⟨pid, m, psem⟩, left := 0, ready := r, waits, ticks }) := by
        unfold Sc.quant
        simp only [Int.toNat_natCast, hgm, ht]
      rw [hq] at h2
      subst h2
      rw [ht] at hg hld
      have bp : ((0 : Int) < -1) = False := eq_false (by decide)
      have b0 : ((0 : Int) < 0) = False := eq_false (by decide)
      simp only [ints, List.map_nil, tks] at hg hld
      simp only [Sc.F23, F23_0, Sc.fin, Sc.vs, prs, tks, List.map_cons, List.length_cons, List.length_map, h0, hi0, hl3, o_slc1, b1, hg, hld, bp, b0, List.length_nil, Int.natCast_zero, and_false, if_false, VBs, reduceCtorEq, Nat.reduceEqDiff, Option.bind_some, Option.bind_none, List.getElem?_cons_zero, List.getElem?_cons_succ, if_true, if_false, ne_eq] <;> rfl
    | cons a u =>
      have hq : Sc.quant { busy := true, cur := ⟨pid, m, psem⟩, left := 0, ready := r, waits, ticks } m = (a, { busy := true, cur := ⟨pid, m, psem⟩, left := 0, ready := r, waits, ticks := ticks.set m u }) := by
        unfold Sc.quant
        simp only [Int.toNat_natCast, hgm, ht]
      rw [hq] at h2
      subst h2
      simp only at hlr
      have hlp := hlp (by rw [ht]; simp)
      rw [ht] at hg hld hlp
      simp only [List.drop_succ_cons, List.drop_zero] at hlp
      have bu : ((0 : Int) < ((u.length + 1 : Nat) : Int)) = True := eq_true (by omega)
      have hia : ∀ k : V → TR, op1V (Fix T) (.idx 3) [[.list 3 (V.int .i64 a :: u.map (V.int .i64))], [.int .i64 0]] k = k (.int .i64 a) := fun k => o_idxN (j := 0)
      have hla : ∀ k : V → TR, op1V (Fix T) (.ldi 0 1 false []) [[.int .i64 a]] k = k (.int .i64 a) := fun k => o_ldiN (.inl rfl)
      have hsu : (((0 : Int) ≤ 1 ∧ (1 : Int) ≤ 1)) = True := eq_true (by decide)
      simp only [ints, List.map_cons, tks] at hg hld hlp
      by_cases hp : 0 < a
      · have bp := eq_true hp
        have w1 : IntKind.i64.wrap (a - 1) = a - 1 := w_i64 (by omega)
        simp only [Sc.F23, F23_0, Sc.fin, Sc.vs, prs, tks, List.map_cons, List.length_cons, List.length_map, h0, hi0, hl3, o_slc1, b1, hg, hld, hlp, bp, bu, hia, hla, w1, List.length_map, List.length_cons, and_self, if_true, VBs, reduceCtorEq, Nat.reduceEqDiff, Option.bind_some, Option.bind_none, List.getElem?_cons_zero, List.getElem?_cons_succ, if_true, if_false, ne_eq] <;> rfl
      · have bp := eq_false hp
        simp only [Sc.F23, F23_0, Sc.fin, Sc.vs, prs, tks, List.map_cons, List.length_cons, List.length_map, h0, hi0, hl3, o_slc1, b1, hg, hld, hlp, bp, bu, hia, hla, List.length_map, List.length_cons, and_false, if_false, VBs, reduceCtorEq, Nat.reduceEqDiff, Option.bind_some, Option.bind_none, List.getElem?_cons_zero, List.getElem?_cons_succ, if_true, if_false, ne_eq] <;> rfl
  · have b1 : ((m : Int) < ticks.length) = False := eq_false (by omega)
    have hgm : ticks[m]? = none := by simp; omega
    have hq : Sc.quant { busy := true, cur := ⟨pid, m, psem⟩, left := 0, ready := r, waits, ticks } m = (-1, { busy := true, cur := ⟨pid, m, psem⟩, left := 0, ready := r, waits, ticks }) := by
      unfold Sc.quant
      simp only [Int.toNat_natCast, hgm]
    rw [hq] at h2
    subst h2
    have bp : ((0 : Int) < -1) = False := eq_false (by decide)
    simp only [Sc.F23, F23_0, Sc.fin, Sc.vs, prs, tks, List.map_cons, List.length_cons, List.length_map, h0, hi0, hl3, o_slc1, b1, bp, and_false, if_false, VBs, reduceCtorEq, Nat.reduceEqDiff, Option.bind_some, Option.bind_none, List.getElem?_cons_zero, List.getElem?_cons_succ, if_true, if_false, ne_eq] <;> rfl
end Go.Proofs.YtlhcgiegganbpaaDoorVs
set_option linter.unusedVariables false
set_option linter.unusedSimpArgs false
set_option maxRecDepth 100000
namespace Go.Proofs.YtlhcgiegganbpaaDoorVs
theorem rest_next (s : Sc) (hb : s.busy = false) (hl : s.left = 0) (hc : s.cur = nilP) : s.rest = s := by
  obtain ⟨busy, cur, left, ready, waits, ticks⟩ := s
  simp only at hb hl hc
  subst hb; subst hl; subst hc
  rfl
theorem s23' (s : Sc) (n : Nat) (base : Bool) (hi : s.Inv) (hp : s.put base = s) (hs : s.busy = false ∨ ¬ (base = true ∧ s.left = 0)) (hn : 10 < n) (s0 : Sc) (h0 : s0 = s ∨ s.busy = false ∧ s0.busy = false ∧ s0.ready = s.ready ∧ s0.waits = s.waits ∧ s0.ticks = s.ticks) : s0.F23 n base = some (.ret [(s.turn base).2.vs 23, (s.turn base).1.1.vs, [.bool (s.turn base).1.2]]) := by
  by_cases hb : s.busy = true
  · obtain rfl : s0 = s := by
      rcases h0 with h | ⟨h, _⟩
      · exact h
      · rw [h] at hb; cases hb
    have hs' : ¬ (base = true ∧ s0.left = 0) := by
      rcases hs with h | h
      · rw [h] at hb; cases hb
      · exact h
    rw [s23B s0 n base hb hs' (by have := hi.l2; omega)]
    simp only [Sc.turn, hp, hb, if_true]
  · have hb : s.busy = false := by simpa using hb
    obtain ⟨hl, hc⟩ := hi.cu.resolve_left (by simp [hb])
    have hr1 := rest_next s hb hl hc
    have hr0 : s0.rest = s := by
      rcases h0 with rfl | ⟨h1, h2, h3, h4, h5⟩
      · exact hr1
      · obtain ⟨busy, cur, left, ready, waits, ticks⟩ := s
        obtain ⟨busy', cur', left', ready', waits', ticks'⟩ := s0
        simp only at *
        subst h1 h2 h3 h4 h5 hl hc
        rfl
    have hb0 : s0.busy = false := by
      rcases h0 with rfl | ⟨h1, h2, _⟩
      · exact hb
      · exact h2
    have hr : s0.ready = s.ready := by rw [← hr0]; rfl
    have ht : s0.ticks = s.ticks := by rw [← hr0]; rfl
    have htl := tk_le hi.tk
    cases hrd : s.ready with
    | nil =>
      rw [s23N s0 n base hb0 (by rw [hr, hrd]), hr0]
      simp only [Sc.turn, hp, hb, Sc.next, hrd]
      rfl
    | cons p r =>
      have hq := quant_le { s with busy := true, cur := p, ready := r } p.lv (fun t hm x hx => ((htl.2 t hm).2 x hx).2)
      have hm := (may_iff _).1 (hi.rd p (by rw [hrd]; simp)).1
      rw [s23C s0 n base hb0 p r (by rw [hr, hrd]) (by omega) _ (by rw [hr0]; simp only [Sc.next, hrd]; rfl) (by simp only; omega) (by rw [ht]; omega) (by rw [ht]; omega)]
      simp only [Sc.turn, hp, hb, Sc.next, hrd]
      rfl
theorem s23 (s : Sc) (base : Bool) (h : s.Inv) : Fix T 23 0 [s.vs 23, [.bool base]] = some [(s.turn base).2.vs 23, (s.turn base).1.1.vs, [.bool (s.turn base).1.2]] := by
  refine e23_0 20 ?_
  show s.F23 20 base = _
  by_cases hc : s.busy = true ∧ base = true ∧ s.left = 0
  · obtain ⟨hb, rfl, hl⟩ := hc
    have hp : s.put true = Sc.rest { s with ready := s.ready ++ [s.cur] } := by simp [Sc.put, hb, hl]
    have hput2 : (s.put true).put true = s.put true := by rw [hp]; rfl
    rw [s23A s 20 hb hl (by have := h.sm.r; omega), s23' (s.put true) 20 true (inv_put h true).1 hput2 (.inl (by rw [hp]; rfl)) (by omega) _ (.inr ⟨by rw [hp]; rfl, rfl, by rw [hp]; rfl, by rw [hp]; rfl, by rw [hp]; rfl⟩)]
    have : (s.put true).turn true = s.turn true := by
      unfold Sc.turn
      rw [hput2]
    rw [this]
  · have hs : s.busy = false ∨ ¬ (base = true ∧ s.left = 0) := by
      by_cases hb : s.busy = true
      · exact .inr fun h => hc ⟨hb, h⟩
      · exact .inl (by simpa using hb)
    have hput : s.put base = s := by
      unfold Sc.put
      rw [if_neg]
      simp only [Bool.and_eq_true, decide_eq_true_eq]
      rintro ⟨⟨h1, h2⟩, h3⟩
      exact hc ⟨h1, h2, h3⟩
    exact s23' s 20 base h hput hs (by omega) s (.inl rfl)
/-! ### Signal -/
theorem s25_loop (s : Sc) (sem : Int) (n : Nat) (hr : s.ready.length ≤ 250) (hw : s.waits.length ≤ 250) (hn : s.waits.length < n) (x0 x1 x2 x3 x4 x5 x6 x7 x8 x9 x10 x11 x12 : V) :
    lpV [8, 8, 3, 1, 1, 1] (F25_1_b0 (Fix T) n (.int .i64 sem)) n (s.vs 23 ++ [x0, x1, x2, x3, x4, x5, x6, x7, x8, x9, x10, x11, x12, .int .i64 0]) = match cutF (fun p => decide (p.sem = sem)) s.waits with
      | some (p, r) => some (.ret [({ s with waits := r, ready := s.ready ++ [{ p with sem := 0 }] } : Sc).vs 23, Pr.vs { p with sem := 0 }, [.bool true]])
      | none => some (.exit 0 [1, 1, 8, 8, 1, 3] ([x11, .int .i64 s.waits.length] ++ s.vs 23 ++ [x0, x1, x2, x3, x4, x5, x6, x7, x12, x8, x9, x10])) := by
  have := lp_ind (S := Nat) (l := [8, 8, 3, 1, 1, 1]) (g := F25_1_b0 (Fix T) n (.int .i64 sem)) (fun i => s.vs 23 ++ [x0, x1, x2, x3, x4, x5, x6, x7, x8, x9, x10, x11, x12, .int .i64 (i : Int)]) (fun i => i ≤ s.waits.length) (fun i => s.waits.length - i) (fun i => match cutF (fun p => decide (p.sem = sem)) (s.waits.drop i) with
      | some (p, r) => some (.ret [({ s with waits := s.waits.take i ++ r, ready := s.ready ++ [{ p with sem := 0 }] } : Sc).vs 23, Pr.vs { p with sem := 0 }, [.bool true]])
      | none => some (.exit 0 [1, 1, 8, 8, 1, 3] ([x11, .int .i64 s.waits.length] ++ s.vs 23 ++ [x0, x1, x2, x3, x4, x5, x6, x7, x12, x8, x9, x10]))) (fun i hi => by
    obtain ⟨busy, cur, left, ready, waits, ticks⟩ := s
    simp only at *
    by_cases h : i < waits.length
    · have hd : waits.drop i = waits[i] :: waits.drop (i + 1) := List.drop_eq_getElem_cons h
      have b1 : ((i : Int) < waits.length) = True := eq_true (by omega)
      have hg := prs_get (List.getElem?_eq_getElem h)
      have htk : waits.take (i + 1) = waits.take i ++ [waits[i]] := by simp
      rw [hd]
      generalize waits[i] = p at *
      have hl3 : ∀ (k : V → V → V → TR), opnV (Fix T) (.ldi 0 3 true []) [[.agg p.vs]] 3 k = k (.int .i64 p.id) (.int .i64 p.lv) (.int .i64 p.sem) := fun k => o_ldi3 (.inr rfl)
      have ws := w_succ (i := i) (by omega)
      by_cases hP : p.sem = sem
      · have bP := eq_true hP
        have h1 : ∀ f : V → TR, op1V (Fix T) (.slc 23 false true) [[.list 23 (waits.map fun p => V.agg p.vs)], [.int .i64 (i : Int)]] f = f (prs 23 (waits.take i)) := fun f => by rw [o_slcH, if_pos (by simp; omega), Int.toNat_natCast, prs, List.map_take]
        have h2 : ∀ f : V → TR, op1V (Fix T) (.slc 23 true false) [[.list 23 (waits.map fun p => V.agg p.vs)], [.int .i64 ((i + 1 : Nat) : Int)]] f = f (prs 23 (waits.drop (i + 1))) := fun f => by rw [o_slcL, if_pos (by simp; omega), Int.toNat_natCast, prs, List.map_drop]
        have h3 : ∀ f : V → TR, op1V (Fix T) (.app 23 24 false) [[.list 23 []], [prs 23 (waits.take i)]] f = f (prs 23 (waits.take i)) := fun f => by
          have := o_appN (Φ := Fix T) (f := f) (e := 23) (bs := 24) (xs := []) (ys := (waits.take i).map fun p => V.agg p.vs) (n := 1000) (by simp; omega) (by decide)
          simpa [prs] using this
        have h4 : ∀ f : V → TR, op1V (Fix T) (.app 23 24 false) [[prs 23 (waits.take i)], [prs 23 (waits.drop (i + 1))]] f = f (prs 23 (waits.take i ++ waits.drop (i + 1))) := fun f => by
          have := o_appN (Φ := Fix T) (f := f) (e := 23) (bs := 24) (xs := (waits.take i).map fun p => V.agg p.vs) (ys := (waits.drop (i + 1)).map fun p => V.agg p.vs) (n := 1000) (by simp; omega) (by decide)
          rw [this, prs, List.map_append]
        have h52 := s52' ready p.id p.lv 0 (by omega)
        refine .inr ⟨?_, by simp only [cutF, hP, decide_true, if_true]; trivial⟩
        simp only [cutF, hP, decide_true, if_true]
        simp only [prs] at h1 h2 h3 h4
        simp only [F25_1_b0, Sc.vs, prs, List.cons_append, List.nil_append, b1, hg, hl3, bP, h1, h2, h3, h4, o_mk0, ws, h52, List.length_map, VBs, reduceCtorEq, Nat.reduceEqDiff, Option.bind_some, Option.bind_none, List.getElem?_cons_zero, List.getElem?_cons_succ, if_true, if_false, ne_eq]
        rfl
      · have bP := eq_false hP
        refine .inl ⟨i + 1, ?_, by omega, by omega, ?_⟩
        · simp only [F25_1_b0, Sc.vs, prs, List.cons_append, List.nil_append, b1, hg, hl3, bP, ws, List.length_map, VBs, reduceCtorEq, Nat.reduceEqDiff, Option.bind_some, Option.bind_none, List.getElem?_cons_zero, List.getElem?_cons_succ, if_true, if_false, ne_eq]
        · simp only [cutF, hP, decide_false, Bool.false_eq_true, if_false]
          cases cutF (fun p => decide (p.sem = sem)) (waits.drop (i + 1)) with
          | none => rfl
          | some q => simp [htk]
    · obtain rfl : i = waits.length := by omega
      have b1 : ((waits.length : Int) < waits.length) = False := eq_false (by omega)
      refine .inr ⟨?_, by simp only [List.drop_length, cutF]; trivial⟩
      simp only [F25_1_b0, Sc.vs, prs, List.cons_append, List.nil_append, b1, List.drop_length, cutF, List.length_map, VBs, reduceCtorEq, Nat.reduceEqDiff, Option.bind_some, Option.bind_none, List.getElem?_cons_zero, List.getElem?_cons_succ, if_true, if_false, ne_eq]) n 0 (by omega) (by omega)
  simp only [Int.natCast_zero, List.drop_zero, List.take_zero, List.nil_append] at this
  exact this
theorem s25 (s : Sc) (sem : Int) (h : s.Sm) : Fix T 25 1 [s.vs 23, [.int .i64 sem]] = some [(s.sig sem).2.vs 23, (s.sig sem).1.1.vs, [.bool (s.sig sem).1.2]] := by
  refine e25_1 600 ?_
  have hlp := s25_loop s sem 600 h.r h.w (by have := h.w; omega) (.bool false) (.int .i64 0) (.int .i64 0) (.int .i64 0) (.int .i64 0) .unit .unit .unit (.int .i64 0) (.int .i64 0) (.int .i64 0) (.bool false) (.list 23 [])
  unfold Sc.sig
  cases hc : cutF (fun p => decide (p.sem = sem)) s.waits with
  | none =>
    rw [hc] at hlp
    obtain ⟨busy, cur, left, ready, waits, ticks⟩ := s
    simp only [Sc.vs, prs, List.cons_append, List.nil_append] at hlp ⊢
    simp only [F25_1, hlp, prs, VBs, reduceCtorEq, Nat.reduceEqDiff, Option.bind_some, Option.bind_none, List.getElem?_cons_zero, List.getElem?_cons_succ, if_true, if_false, ne_eq]
    rfl
  | some q =>
    rw [hc] at hlp
    obtain ⟨p, r⟩ := q
    obtain ⟨busy, cur, left, ready, waits, ticks⟩ := s
    simp only [Sc.vs, prs, List.cons_append, List.nil_append] at hlp ⊢
    simp only [F25_1, hlp, prs, VBs, reduceCtorEq, Nat.reduceEqDiff, Option.bind_some, Option.bind_none, List.getElem?_cons_zero, List.getElem?_cons_succ, if_true, if_false, ne_eq]
end Go.Proofs.YtlhcgiegganbpaaDoorVs
set_option linter.unusedVariables false
set_option linter.unusedSimpArgs false
set_option maxRecDepth 100000
namespace Go.Proofs.YtlhcgiegganbpaaDoorVs
theorem o_mk1i {Φ : Funs} {e : TypeId} {a : Int} {k : V → TR} : op1V Φ (.mk e [(false, [(0, 0)])]) [[.int .i64 a]] k = k (.list e [.int .i64 a]) := rfl
theorem o_appI {Φ : Funs} {l : List Int} {a : Int} {f : V → TR} (h : l.length ≤ 1000) : op1V Φ (.app 3 8 false) [[.list 3 (l.map (V.int .i64))], [.list 3 [.int .i64 a]]] f = f (.list 3 ((l ++ [a]).map (V.int .i64))) := by
  have := o_appN (Φ := Φ) (f := f) (e := 3) (bs := 8) (xs := l.map (V.int .i64)) (ys := [.int .i64 a]) (n := 1001) (by simp; omega) (by decide)
  rw [this, List.map_append]; rfl
theorem s17A (l : List Pr) (n : Nat) (hl : l.length ≤ 250) (hn : l.length < n) (ok : Bool) (ids : List Int) (hi : ids.length ≤ 300) : lpV [1, 1, 1, 1] (F17_0_b0 (Fix T) n (prs 23 l)) n [.bool ok, ints ids, .unit, .int .i64 0] = some (.exit 0 [1, 1, 1, 1] [.unit, ints (ids ++ l.map Pr.id), .bool (ok && l.all fun p => p.may && decide (p.sem = 0)), .int .i64 l.length]) := by
  have := lp_ind (S := Bool × Nat) (l := [1, 1, 1, 1]) (g := F17_0_b0 (Fix T) n (prs 23 l)) (fun s => [.bool s.1, ints (ids ++ (l.take s.2).map Pr.id), .unit, .int .i64 (s.2 : Int)]) (fun s => s.2 ≤ l.length) (fun s => l.length - s.2) (fun s => some (.exit 0 [1, 1, 1, 1] [.unit, ints (ids ++ l.map Pr.id), .bool (s.1 && (l.drop s.2).all fun p => p.may && decide (p.sem = 0)), .int .i64 l.length])) (fun s hi => by
    obtain ⟨b, i⟩ := s
    simp only at hi
    by_cases h : i < l.length
    · have hd : l.drop i = l[i] :: l.drop (i + 1) := List.drop_eq_getElem_cons h
      have htk : l.take (i + 1) = l.take i ++ [l[i]] := by simp
      have b1 : ((i : Int) < l.length) = True := eq_true (by omega)
      have hg := prs_get (List.getElem?_eq_getElem h)
      simp only [hd, htk, List.map_append, List.map_cons, List.map_nil]
      generalize l[i] = p at *
      have hl3 : ∀ (k : V → V → V → TR), opnV (Fix T) (.ldi 0 3 true [true, true, true]) [[.agg p.vs]] 3 k = k (.int .i64 p.id) (.int .i64 p.lv) (.int .i64 p.sem) := fun k => o_ldi3 (.inl rfl)
      have h47 := s47 p
      have ha : ∀ f : V → TR, op1V (Fix T) (.app 3 8 false) [[.list 3 ((ids ++ (l.take i).map Pr.id).map (V.int .i64))], [.list 3 [.int .i64 p.id]]] f = f (.list 3 (((ids ++ (l.take i).map Pr.id) ++ [p.id]).map (V.int .i64))) := fun f => o_appI (by simp; omega)
      have ws := w_succ (i := i) (by omega)
      refine .inl ⟨(b && (p.may && decide (p.sem = 0)), i + 1), ?_, by simp only; omega, by simp only; omega, ?_⟩
      · simp only [Pr.vs] at h47
        simp only [htk, List.map_append, List.map_cons, List.map_nil, ← List.append_assoc]
        simp only [List.map_append] at ha
        generalize p.may = m at *
        by_cases hs : p.sem = 0
        · have bs := eq_true hs
          cases b <;> cases m <;> simp only [F17_0_b0, prs, ints, b1, hg, hl3, h47, o_ldi2, o_ldi00, o_mk1i, ha, ws, bs, List.length_map, List.map_append, List.map_cons, List.map_nil, Bool.and_self, VBs, reduceCtorEq, Nat.reduceEqDiff, Option.bind_some, Option.bind_none, List.getElem?_cons_zero, List.getElem?_cons_succ, if_true, if_false, ne_eq]
        · have bs := eq_false hs
          cases b <;> cases m <;> simp only [F17_0_b0, prs, ints, b1, hg, hl3, h47, o_ldi2, o_ldi00, o_mk1i, ha, ws, bs, List.length_map, List.map_append, List.map_cons, List.map_nil, Bool.and_false, VBs, reduceCtorEq, Nat.reduceEqDiff, Option.bind_some, Option.bind_none, List.getElem?_cons_zero, List.getElem?_cons_succ, if_true, if_false, ne_eq]
      · simp only [List.all_cons, Bool.and_assoc]
    · obtain rfl : i = l.length := by omega
      have b1 : ((l.length : Int) < l.length) = False := eq_false (by omega)
      refine .inr ⟨?_, trivial⟩
      simp only [F17_0_b0, prs, b1, List.take_length, List.drop_length, List.all_nil, List.length_map, VBs, reduceCtorEq, Nat.reduceEqDiff, Option.bind_some, Option.bind_none, List.getElem?_cons_zero, List.getElem?_cons_succ, if_true, if_false, ne_eq]) n (ok, 0) (by simp) (by simp; omega)
  simpa using this
theorem s17B (l : List Pr) (n : Nat) (hl : l.length ≤ 250) (hn : l.length < n) (ok : Bool) (ids : List Int) (hi : ids.length ≤ 600) : lpV [1, 1, 1, 1] (F17_0_b1 (Fix T) n (prs 23 l)) n [.bool ok, ints ids, .unit, .int .i64 0] = some (.exit 2 [1, 1, 1, 1] [.unit, ints (ids ++ l.map Pr.id), .bool (ok && l.all fun p => p.may), .int .i64 l.length]) := by
  have := lp_ind (S := Bool × Nat) (l := [1, 1, 1, 1]) (g := F17_0_b1 (Fix T) n (prs 23 l)) (fun s => [.bool s.1, ints (ids ++ (l.take s.2).map Pr.id), .unit, .int .i64 (s.2 : Int)]) (fun s => s.2 ≤ l.length) (fun s => l.length - s.2) (fun s => some (.exit 2 [1, 1, 1, 1] [.unit, ints (ids ++ l.map Pr.id), .bool (s.1 && (l.drop s.2).all fun p => p.may), .int .i64 l.length])) (fun s hi => by
    obtain ⟨b, i⟩ := s
    simp only at hi
    by_cases h : i < l.length
    · have hd : l.drop i = l[i] :: l.drop (i + 1) := List.drop_eq_getElem_cons h
      have htk : l.take (i + 1) = l.take i ++ [l[i]] := by simp
      have b1 : ((i : Int) < l.length) = True := eq_true (by omega)
      have hg := prs_get (List.getElem?_eq_getElem h)
      simp only [hd, htk, List.map_append, List.map_cons, List.map_nil]
      generalize l[i] = p at *
      have hl3 : ∀ (k : V → V → V → TR), opnV (Fix T) (.ldi 0 3 true [true, true, true]) [[.agg p.vs]] 3 k = k (.int .i64 p.id) (.int .i64 p.lv) (.int .i64 p.sem) := fun k => o_ldi3 (.inl rfl)
      have h47 := s47 p
      have ha : ∀ f : V → TR, op1V (Fix T) (.app 3 8 false) [[.list 3 ((ids ++ (l.take i).map Pr.id).map (V.int .i64))], [.list 3 [.int .i64 p.id]]] f = f (.list 3 (((ids ++ (l.take i).map Pr.id) ++ [p.id]).map (V.int .i64))) := fun f => o_appI (by simp; omega)
      have ws := w_succ (i := i) (by omega)
      refine .inl ⟨(b && p.may, i + 1), ?_, by simp only; omega, by simp only; omega, ?_⟩
      · simp only [Pr.vs] at h47
        simp only [htk, List.map_append, List.map_cons, List.map_nil, ← List.append_assoc]
        simp only [List.map_append] at ha
        generalize p.may = m at *
        cases b <;> cases m <;> simp only [F17_0_b1, prs, ints, b1, hg, hl3, h47, o_ldi2, o_ldi00, o_mk1i, ha, ws, List.length_map, List.map_append, List.map_cons, List.map_nil, Bool.and_self, VBs, reduceCtorEq, Nat.reduceEqDiff, Option.bind_some, Option.bind_none, List.getElem?_cons_zero, List.getElem?_cons_succ, if_true, if_false, ne_eq]
      · simp only [List.all_cons, Bool.and_assoc]
    · obtain rfl : i = l.length := by omega
      have b1 : ((l.length : Int) < l.length) = False := eq_false (by omega)
      refine .inr ⟨?_, trivial⟩
      simp only [F17_0_b1, prs, b1, List.take_length, List.drop_length, List.all_nil, List.length_map, VBs, reduceCtorEq, Nat.reduceEqDiff, Option.bind_some, Option.bind_none, List.getElem?_cons_zero, List.getElem?_cons_succ, if_true, if_false, ne_eq]) n (ok, 0) (by simp) (by simp; omega)
  simpa using this
/-- each is another one than those ahead -/
def dist : List Int → List Int → Bool
  | _, [] => true
  | pre, x :: r => (pre.all fun y => decide (y ≠ x)) && dist (pre ++ [x]) r
theorem s17C (ids : List Int) (n j : Nat) (hj : j < ids.length) (hl : ids.length ≤ 1000) (hn : ids.length < n) (ok : Bool) : lpV [1, 1] (F17_0_b2 (Fix T) n .unit (ints ids) (.int .i64 (j : Int))) n [.bool ok, .int .i64 0] = some (.exit 6 [1, 1] [.bool (ok && (ids.take j).all fun y => decide (y ≠ ids[j])), .int .i64 (j : Int)]) := by
  have := lp_ind (S := Bool × Nat) (l := [1, 1]) (g := F17_0_b2 (Fix T) n .unit (ints ids) (.int .i64 (j : Int))) (fun s => [.bool s.1, .int .i64 (s.2 : Int)]) (fun s => s.2 ≤ j) (fun s => j - s.2) (fun s => some (.exit 6 [1, 1] [.bool (s.1 && ((ids.take j).drop s.2).all fun y => decide (y ≠ ids[j])), .int .i64 (j : Int)])) (fun s hi => by
    obtain ⟨b, i⟩ := s
    simp only at hi
    by_cases h : i < j
    · have hlt : i < (ids.take j).length := by simp; omega
      have hd : (ids.take j).drop i = ids[i] :: (ids.take j).drop (i + 1) := by
        rw [List.drop_eq_getElem_cons hlt]; simp
      have b1 : ((i : Int) < (j : Int)) = True := eq_true (by omega)
      have ws := w_succ (i := i) (by omega)
      have x1 : ∀ (q : Nat) (hq : q < ids.length) (k : V → TR), op1V (Fix T) (.eix 3) [[.list 3 (ids.map (V.int .i64))], [.int .i64 (q : Int)]] k = k (.int .i64 (q : Int)) := fun q hq k => by rw [o_eix, if_pos (by simp; omega)]
      have x2 : ∀ (q : Nat) (hq : q < ids.length) (k : V → TR), op1V (Fix T) (.ldo 0 1 false) [[.int .i64 (q : Int)], [.list 3 (ids.map (V.int .i64))]] k = k (.int .i64 ids[q]) := fun q hq k => by
        simp [op1V, VF.sem, vsub, hq, k1]
      have xi1 := x1 i (by omega)
      have xi2 := x2 i (by omega)
      have xj1 := x1 j hj
      have xj2 := x2 j hj
      simp only [hd, List.all_cons]
      refine .inl ⟨(b && decide (ids[i] ≠ ids[j]), i + 1), ?_, by simp only; omega, by simp only; omega, ?_⟩
      · by_cases he : ids[i] = ids[j]
        · have be := eq_true he
          cases b <;> simp only [F17_0_b2, ints, b1, xi1, xi2, xj1, xj2, be, ws, VBs, reduceCtorEq, Nat.reduceEqDiff, Option.bind_some, Option.bind_none, List.getElem?_cons_zero, List.getElem?_cons_succ, if_true, if_false, ne_eq]
        · have be := eq_false he
          cases b <;> simp only [F17_0_b2, ints, b1, xi1, xi2, xj1, xj2, be, ws, VBs, reduceCtorEq, Nat.reduceEqDiff, Option.bind_some, Option.bind_none, List.getElem?_cons_zero, List.getElem?_cons_succ, if_true, if_false, ne_eq]
      · simp only [Bool.and_assoc]
    · obtain rfl : i = j := by omega
      have b1 : ((i : Int) < i) = False := eq_false (by omega)
      have hd : (ids.take i).drop i = [] := by simp
      refine .inr ⟨?_, trivial⟩
      simp only [F17_0_b2, b1, hd, List.all_nil, VBs, reduceCtorEq, Nat.reduceEqDiff, Option.bind_some, Option.bind_none, List.getElem?_cons_zero, List.getElem?_cons_succ, if_true, if_false, ne_eq]) n (ok, 0) (by simp) (by simp; omega)
  simpa using this
theorem s17D (ids : List Int) (n : Nat) (h8 : ids.length ≤ 8) (hn : 20 < n) (ok : Bool) : lpV [1, 1] (F17_0_b3 (Fix T) n .unit (ints ids)) n [.bool ok, .int .i64 0] = some (.exit 4 [1, 1] [.bool (ok && dist [] ids), .int .i64 ids.length]) := by
  have := lp_ind (S := Bool × Nat) (l := [1, 1]) (g := F17_0_b3 (Fix T) n .unit (ints ids)) (fun s => [.bool s.1, .int .i64 (s.2 : Int)]) (fun s => s.2 ≤ ids.length) (fun s => ids.length - s.2) (fun s => some (.exit 4 [1, 1] [.bool (s.1 && dist (ids.take s.2) (ids.drop s.2)), .int .i64 ids.length])) (fun s hi => by
    obtain ⟨b, i⟩ := s
    simp only at hi
    have b8 : ((ids.length : Int) ≤ 8) = True := eq_true (by omega)
    by_cases h : i < ids.length
    · have hd : ids.drop i = ids[i] :: ids.drop (i + 1) := List.drop_eq_getElem_cons h
      have htk : ids.take i ++ [ids[i]] = ids.take (i + 1) := by simp
      have b1 : ((i : Int) < ids.length) = True := eq_true (by omega)
      have hC := s17C ids n i h (by omega) (by omega) b
      have ws := w_succ (i := i) (by omega)
      simp only [hd, dist, htk]
      refine .inl ⟨(b && (ids.take i).all fun y => decide (y ≠ ids[i]), i + 1), ?_, by simp only; omega, by simp only; omega, ?_⟩
      · simp only [ints] at hC
        simp only [F17_0_b3, ints, b1, b8, hC, ws, List.length_map, Bool.and_self, VBs, reduceCtorEq, Nat.reduceEqDiff, Option.bind_some, Option.bind_none, List.getElem?_cons_zero, List.getElem?_cons_succ, if_true, if_false, ne_eq]
      · simp only [Bool.and_assoc]
    · obtain rfl : i = ids.length := by omega
      have b1 : ((ids.length : Int) < ids.length) = False := eq_false (by omega)
      refine .inr ⟨?_, trivial⟩
      simp only [F17_0_b3, ints, b1, b8, List.drop_length, dist, List.length_map, VBs, reduceCtorEq, Nat.reduceEqDiff, Option.bind_some, Option.bind_none, List.getElem?_cons_zero, List.getElem?_cons_succ, if_true, if_false, ne_eq]) n (ok, 0) (by simp) (by simp; omega)
  simpa using this
theorem s17E (ids : List Int) (n : Nat) (h8 : 8 < ids.length) (hn : 0 < n) (ok : Bool) : lpV [1, 1] (F17_0_b3 (Fix T) n .unit (ints ids)) n [.bool ok, .int .i64 0] = some (.exit 4 [1, 1] [.bool ok, .int .i64 0]) := by
  obtain ⟨m, rfl⟩ : ∃ m, n = m + 1 := ⟨n - 1, by omega⟩
  have b8 : ((ids.length : Int) ≤ 8) = False := eq_false (by omega)
  have b1 : ((0 : Int) < ids.length) = True := eq_true (by omega)
  rw [lp_exit (j := 4) (l' := [1, 1]) (vs' := [.bool ok, .int .i64 0]) (by simp only [F17_0_b3, ints, b1, b8, List.length_map, VBs, reduceCtorEq, Nat.reduceEqDiff, Option.bind_some, Option.bind_none, List.getElem?_cons_zero, List.getElem?_cons_succ, if_true, if_false, ne_eq])]
def Sc.mids (s : Sc) : List Int := (if s.busy = true then [s.cur.id] else []) ++ s.ready.map Pr.id ++ s.waits.map Pr.id
def Sc.ok0 (s : Sc) : Bool := tkOk s.ticks && decide (-1 ≤ s.left) && decide (s.left ≤ 65536) && decide (s.cur.sem = 0) && (if s.busy = true then s.cur.may else decide (s.cur.id = 0) && decide (s.cur.lv = 0) && decide (s.left = 0))
def Sc.ok' (s : Sc) : Bool := s.ok0 && (s.ready.all fun p => p.may && decide (p.sem = 0)) && (s.waits.all fun p => p.may) && (if s.mids.length ≤ 8 then dist [] s.mids else false)
theorem s17 (s : Sc) (h : s.Sm) (ht : TkFew s.ticks) : Fix T 17 0 [s.vs 23] = some [[.bool s.ok']] := by
  refine e17_0 600 ?_
  have hr := h.r
  have hw := h.w
  have h46 := s46 s.ticks ht
  have h47 := s47 s.cur
  have hA : ∀ (ok : Bool) (ids : List Int), ids.length ≤ 300 → _ := fun ok ids hi => s17A s.ready 600 hr (by omega) ok ids hi
  have hB : ∀ (ok : Bool) (ids : List Int), ids.length ≤ 600 → _ := fun ok ids hi => s17B s.waits 600 hw (by omega) ok ids hi
  have hl1 : (if s.busy = true then [s.cur.id] else []).length ≤ 1 := by split <;> simp
  have hA' := hA s.ok0 (if s.busy = true then [s.cur.id] else []) (by omega)
  have hB' := hB (s.ok0 && s.ready.all fun p => p.may && decide (p.sem = 0)) ((if s.busy = true then [s.cur.id] else []) ++ s.ready.map Pr.id) (by simp only [List.length_append, List.length_map]; omega)
  have hD : ∀ ok : Bool, ∃ x, lpV [1, 1] (F17_0_b3 (Fix T) 600 .unit (ints s.mids)) 600 [.bool ok, .int .i64 0] = some (.exit 4 [1, 1] [.bool (ok && (if s.mids.length ≤ 8 then dist [] s.mids else true)), .int .i64 x]) := by
    intro ok
    by_cases h8 : s.mids.length ≤ 8
    · exact ⟨_, by rw [s17D s.mids 600 h8 (by omega) ok, if_pos h8]⟩
    · exact ⟨0, by rw [s17E s.mids 600 (by omega) (by omega) ok, if_neg h8, Bool.and_true]⟩
  obtain ⟨x, hD'⟩ := hD ((s.ok0 && s.ready.all fun p => p.may && decide (p.sem = 0)) && s.waits.all fun p => p.may)
  have b8 : ((s.mids.length : Int) ≤ 8) = (s.mids.length ≤ 8) := by rw [eq_iff_iff]; omega
  have hm : (if s.busy = true then [s.cur.id] else []) ++ s.ready.map Pr.id ++ s.waits.map Pr.id = s.mids := rfl
  rw [hm] at hB'
  have e : s.ok' = ((((s.ok0 && s.ready.all fun p => p.may && decide (p.sem = 0)) && s.waits.all fun p => p.may) && (if s.mids.length ≤ 8 then dist [] s.mids else true)) && decide (s.mids.length ≤ 8)) := by
    unfold Sc.ok'
    by_cases h8 : s.mids.length ≤ 8 <;> simp [h8]
  rw [e]
  generalize hk1 : (s.ok0 && s.ready.all fun p => p.may && decide (p.sem = 0)) = k1 at *
  clear hk1 e hA hB hD
  generalize hk2 : (k1 && s.waits.all fun p => p.may) = k2 at *
  generalize (k2 && if s.mids.length ≤ 8 then dist [] s.mids else true) = k3 at *
  generalize hmi : s.mids = mi at *
  have ha1 : ∀ f : V → TR, op1V (Fix T) (.app 3 8 false) [[.list 3 []], [.list 3 [.int .i64 s.cur.id]]] f = f (.list 3 [.int .i64 s.cur.id]) := fun f => o_appI (l := []) (by simp)
  unfold Sc.ok0 at hA'
  obtain ⟨busy, cur, left, ready, waits, ticks⟩ := s
  simp only [Pr.vs] at h47
  simp only [Sc.vs, prs, tks, ints] at *
  cases busy with
  | true =>
    simp only [if_true, List.map_cons, List.map_nil] at hA' hB'
    simp only [F17_0, prs, tks, h46, h47, o_mk1i, ha1, hA', hB', hD', b8, List.length_map, VBs, reduceCtorEq, Nat.reduceEqDiff, Option.bind_some, Option.bind_none, List.getElem?_cons_zero, List.getElem?_cons_succ, if_true, if_false, ne_eq]
  | false =>
    simp only [Bool.false_eq_true, if_false, List.map_nil, ← Bool.and_assoc] at hA' hB'
    simp only [F17_0, prs, tks, h46, hA', hB', hD', b8, List.length_map, VBs, reduceCtorEq, Nat.reduceEqDiff, Option.bind_some, Option.bind_none, List.getElem?_cons_zero, List.getElem?_cons_succ, if_true, if_false, ne_eq]
theorem dist_iff : ∀ (l pre : List Int), dist pre l = true ↔ l.Nodup ∧ ∀ p ∈ l, ∀ q ∈ pre, q ≠ p
  | [], pre => by simp [dist]
  | x :: r, pre => by
    unfold dist
    simp only [Bool.and_eq_true, dist_iff r (pre ++ [x]), List.all_eq_true, decide_eq_true_eq, List.nodup_cons, List.mem_cons, forall_eq_or_imp, List.mem_append, List.mem_singleton]
    constructor
    · rintro ⟨h1, h2, h3⟩
      exact ⟨⟨fun hx => h3 x hx x (.inr (.inl rfl)) rfl, h2⟩, h1, fun p hp q hq => h3 p hp q (.inl hq)⟩
    · rintro ⟨⟨h1, h2⟩, h3, h4⟩
      refine ⟨h3, h2, fun p hp q hq => ?_⟩
      rcases hq with hq | rfl | hq
      · exact h4 p hp q hq
      · rintro rfl; exact h1 hp
      · cases hq
theorem mids_perm (s : Sc) : s.mids.Perm s.ids := by
  unfold Sc.mids Sc.ids
  rw [List.append_assoc]
  exact List.perm_append_comm
theorem ids_len (s : Sc) : s.ids.length = s.cnt := by rw [← all_ids, List.length_map, all_cnt]
theorem ok_same (s : Sc) : s.ok' = s.ok := by
  rw [Bool.eq_iff_iff, ok_iff]
  have hp := mids_perm s
  have hlen := hp.length_eq
  rw [ids_len] at hlen
  have hcur : s.cur = nilP ↔ s.cur.id = 0 ∧ s.cur.lv = 0 ∧ s.cur.sem = 0 := by
    obtain ⟨busy, ⟨a, b, c⟩, left, ready, waits, ticks⟩ := s
    simp [nilP, Pr.mk.injEq]
  constructor
  · intro h
    unfold Sc.ok' at h
    split at h
    · rename_i h8
      simp only [Sc.ok0, Bool.and_eq_true, decide_eq_true_eq, List.all_eq_true, dist_iff] at h
      obtain ⟨⟨⟨⟨⟨⟨⟨a1, a2⟩, a3⟩, a4⟩, a5⟩, a6⟩, a7⟩, a8, _⟩ := h
      refine ⟨a1, a2, a3, ?_, a4, a6, a7, fun hb => ?_, hp.nodup_iff.1 a8, by omega⟩
      · by_cases hb : s.busy = true
        · exact .inl hb
        · rw [if_neg hb] at a5
          simp only [Bool.and_eq_true, decide_eq_true_eq] at a5
          exact .inr ⟨a5.2, hcur.2 ⟨a5.1.1, a5.1.2, a4⟩⟩
      · rw [if_pos hb] at a5; exact a5
    · simp at h
  · intro h
    unfold Sc.ok'
    rw [if_pos (by have := h.ln; omega)]
    simp only [Sc.ok0, Bool.and_eq_true, decide_eq_true_eq, List.all_eq_true, dist_iff]
    refine ⟨⟨⟨⟨⟨⟨⟨h.tk, h.l1⟩, h.l2⟩, h.cs⟩, ?_⟩, fun p hp => h.rd p hp⟩, h.wt⟩, hp.nodup_iff.2 h.nd, by simp⟩
    by_cases hb : s.busy = true
    · rw [if_pos hb]; exact h.cm hb
    · rw [if_neg hb]
      obtain ⟨h1, h2⟩ := h.cu.resolve_left hb
      have := hcur.1 h2
      simp [h1, this]
end Go.Proofs.YtlhcgiegganbpaaDoorVs
set_option linter.unusedVariables false
set_option linter.unusedSimpArgs false
set_option maxRecDepth 100000
namespace Go.Proofs.YtlhcgiegganbpaaDoorVs
theorem s48 (t : List Int) (h : t.length ≤ 500) : Fix T 48 0 [[ints t]] = some [[ints t]] := by
  refine gv48 ?_
  simp only [cloneφ, ints]
  rw [if_pos]
  refine ⟨⟨?_, ?_⟩, ?_⟩ <;> first | trivial | (intro _; exact ints_scalar _ _) | (simp; omega)
def newS (l : List (List Int)) : Sc := ⟨false, nilP, 0, [], [], l⟩
theorem s18 (l : List (List Int)) (hl : TkFew l) : Fix T 18 0 [[tks l]] = some (if tkOk l = true then [.bool true :: (newS l).vs 30, [.nilI]] else [[.bool false, .unit, .unit, .unit, .unit, .unit, .unit, .unit, .unit], [errV 1]]) := by
  refine e18_0 600 ?_
  have hlo := hl.o
  have h43 := s43 l hl
  have := lp_ind (S := Nat) (l := [1, 8, 1]) (g := F18_0_b0 (Fix T) 600 (tks l) (.int .i64 l.length)) (fun i => [tks (l.take i), .bool false, .int .i64 0, .int .i64 0, .int .i64 0, .int .i64 0, .unit, .unit, .unit, .int .i64 (i : Int)]) (fun i => i ≤ l.length) (fun i => l.length - i) (fun i => some (.exit 0 [1, 8, 1] [.int .i64 l.length, .bool false, .int .i64 0, .int .i64 0, .int .i64 0, .int .i64 0, .unit, .unit, .unit, tks l])) (fun i hi => by
    by_cases h : i < l.length
    · have hd : l.take (i + 1) = l.take i ++ [l[i]] := by simp
      have b1 : ((i : Int) < l.length) = True := eq_true (by omega)
      have hg := tks_get h
      have hli := hl.i l[i] (List.getElem_mem h)
      have hld : ∀ k : V → TR, op1V (Fix T) (.ldi 0 1 false [false]) [[ints l[i]]] k = k (ints l[i]) := fun k => o_ldiL (.inr rfl)
      have h48 := s48 l[i] hli
      have h2 : ∀ f : V → TR, op1V (Fix T) (.app 63 24 false) [[tks (l.take i)], [.list 63 [ints l[i]]]] f = f (tks (l.take i ++ [l[i]])) := fun f => by
        have := o_appN (Φ := Fix T) (f := f) (e := 63) (bs := 24) (xs := (l.take i).map ints) (ys := [ints l[i]]) (n := 501) (by simp; omega) (by decide)
        rw [this, tks, List.map_append]; rfl
      refine .inl ⟨i + 1, ?_, by omega, by omega, rfl⟩
      rw [hd]
      simp only [ints, tks] at hg hld h48 h2
      simp only [F18_0_b0, tks, ints, b1, hg, hld, h48, o_mkV, h2, w_succ (show i < 4611686018427387904 by omega), List.length_map, VBs, reduceCtorEq, Nat.reduceEqDiff, Option.bind_some, Option.bind_none, List.getElem?_cons_zero, List.getElem?_cons_succ, if_true, if_false, ne_eq]
    · obtain rfl : i = l.length := by omega
      have b1 : ((l.length : Int) < l.length) = False := eq_false (by omega)
      refine .inr ⟨?_, trivial⟩
      simp only [F18_0_b0, tks, b1, List.take_length, List.length_map, VBs, reduceCtorEq, Nat.reduceEqDiff, Option.bind_some, Option.bind_none, List.getElem?_cons_zero, List.getElem?_cons_succ, if_true, if_false, ne_eq]) 600 0 (by omega) (by omega)
  simp only [List.take_zero, Int.natCast_zero, tks, List.map_nil] at this
  cases ho : tkOk l with
  | true =>
    rw [ho] at h43
    simp only [tks] at h43
    simp only [F18_0, tks, this, h43, List.length_map, if_true, VBs, reduceCtorEq, Nat.reduceEqDiff, Option.bind_some, Option.bind_none, List.getElem?_cons_zero, List.getElem?_cons_succ, if_true, if_false, ne_eq]
    rfl
  | false =>
    rw [ho] at h43
    simp only [tks] at h43
    simp only [F18_0, tks, h43, VBs, reduceCtorEq, Nat.reduceEqDiff, Option.bind_some, Option.bind_none, List.getElem?_cons_zero, List.getElem?_cons_succ, if_true, if_false, ne_eq]
    rfl
theorem s20 (l : List (List Int)) (hl : TkFew l) : Fix T 20 1 [[tks l]] = some [(if tkOk l = true then newS l else newS []).vs 23, [.int .i64 (if tkOk l = true then 0 else 1)]] := by
  refine e20_1 0 ?_
  have h46 := s46 l hl
  cases ho : tkOk l with
  | true =>
    rw [ho] at h46
    simp only [tks] at h46
    simp only [F20_1, tks, h46, if_true, VBs, reduceCtorEq, Nat.reduceEqDiff, Option.bind_some, Option.bind_none, List.getElem?_cons_zero, List.getElem?_cons_succ, if_true, if_false, ne_eq]
    rfl
  | false =>
    rw [ho] at h46
    simp only [tks] at h46
    simp only [F20_1, tks, h46, VBs, reduceCtorEq, Nat.reduceEqDiff, Option.bind_some, Option.bind_none, List.getElem?_cons_zero, List.getElem?_cons_succ, if_true, if_false, ne_eq]
    rfl
theorem s49 (l : List Pr) (hl : l.length ≤ 400) : Fix T 49 0 [[prs 30 l], [prs 23 l]] = some [[.bool true]] := by
  refine e49_0 600 ?_
  have := lp_ind (S := Nat) (l := [1, 1]) (g := F49_0_b0 (Fix T) 600 (prs 30 l) (prs 23 l)) (fun i => [.bool false, .int .i64 (i : Int)]) (fun i => i ≤ l.length) (fun i => l.length - i) (fun i => some (.exit 0 [1, 1] [.bool false, .int .i64 l.length])) (fun i hi => by
    by_cases h : i < l.length
    · have b1 : ((i : Int) < l.length) = True := eq_true (by omega)
      have hg := prs_get (List.getElem?_eq_getElem h)
      generalize l[i] = p at *
      have hl3 : ∀ (k : V → V → V → TR), opnV (Fix T) (.ldi 0 3 true [true, true, true]) [[.agg p.vs]] 3 k = k (.int .i64 p.id) (.int .i64 p.lv) (.int .i64 p.sem) := fun k => o_ldi3 (.inl rfl)
      have hq : ∀ f : V → TR, op1V (Fix T) (.eqA [0, 0, 0] true) [[.int .i64 p.id, .int .i64 p.lv, .int .i64 p.sem], [.int .i64 p.id, .int .i64 p.lv, .int .i64 p.sem]] f = f (.bool false) := fun f => by rw [o_eqA3]; simp
      refine .inl ⟨i + 1, ?_, by omega, by omega, rfl⟩
      simp only [F49_0_b0, prs, b1, hg, hl3, hq, w_succ (show i < 4611686018427387904 by omega), List.length_map, VBs, reduceCtorEq, Nat.reduceEqDiff, Option.bind_some, Option.bind_none, List.getElem?_cons_zero, List.getElem?_cons_succ, if_true, if_false, ne_eq]
    · obtain rfl : i = l.length := by omega
      have b1 : ((l.length : Int) < l.length) = False := eq_false (by omega)
      refine .inr ⟨?_, trivial⟩
      simp only [F49_0_b0, prs, b1, List.length_map, VBs, reduceCtorEq, Nat.reduceEqDiff, Option.bind_some, Option.bind_none, List.getElem?_cons_zero, List.getElem?_cons_succ, if_true, if_false, ne_eq]) 600 0 (by omega) (by omega)
  simp only [Int.natCast_zero, prs] at this
  have bl : ((l.length : Int) = l.length) = True := eq_true rfl
  simp only [F49_0, prs, this, bl, List.length_map, VBs, reduceCtorEq, Nat.reduceEqDiff, Option.bind_some, Option.bind_none, List.getElem?_cons_zero, List.getElem?_cons_succ, if_true, if_false, ne_eq]
theorem s21L (l : List (List Int)) (n j : Nat) (hj : j < l.length) (hs : l[j].length ≤ 500) (hn : 600 ≤ n) : lpV [1, 1] (F21_0_b0 (Fix T) n (tks l) (tks l) (.int .i64 (j : Int))) n [.bool false, .int .i64 0] = some (.exit 2 [1, 1] [.bool false, .int .i64 l[j].length]) := by
  have := lp_ind (S := Nat) (l := [1, 1]) (g := F21_0_b0 (Fix T) n (tks l) (tks l) (.int .i64 (j : Int))) (fun i => [.bool false, .int .i64 (i : Int)]) (fun i => i ≤ l[j].length) (fun i => l[j].length - i) (fun i => some (.exit 2 [1, 1] [.bool false, .int .i64 l[j].length])) (fun i hi => by
    have hg := tks_get hj
    have hlL : ∀ (k : V → TR), op1V (Fix T) (.ldi 0 1 false [false]) [[ints l[j]]] k = k (ints l[j]) := fun k => o_ldiL (.inr rfl)
    generalize l[j] = t at *
    simp only [ints] at hlL hg
    by_cases h : i < t.length
    · have b1 : ((i : Int) < t.length) = True := eq_true (by omega)
      have hgi := ints_get h
      have b2 : (t[i] = t[i]) = True := eq_true rfl
      have hl1 : ∀ (n : Int) (k : V → TR), op1V (Fix T) (.ldi 0 1 false [true]) [[.int .i64 n]] k = k (.int .i64 n) := fun n k => o_ldiN (.inr rfl)
      refine .inl ⟨i + 1, ?_, by omega, by omega, rfl⟩
      simp only [F21_0_b0, tks, ints, hg, hlL, b1, b2, hgi, hl1, w_succ (show i < 4611686018427387904 by omega), List.length_map, VBs, reduceCtorEq, Nat.reduceEqDiff, Option.bind_some, Option.bind_none, List.getElem?_cons_zero, List.getElem?_cons_succ, if_true, if_false, ne_eq]
    · obtain rfl : i = t.length := by omega
      have b1 : ((t.length : Int) < t.length) = False := eq_false (by omega)
      refine .inr ⟨?_, trivial⟩
      simp only [F21_0_b0, tks, ints, hg, hlL, b1, List.length_map, VBs, reduceCtorEq, Nat.reduceEqDiff, Option.bind_some, Option.bind_none, List.getElem?_cons_zero, List.getElem?_cons_succ, if_true, if_false, ne_eq]) n 0 (by omega) (by omega)
  simpa using this
theorem s21 (s : Sc) (h : s.Sm) (ht : TkFew s.ticks) : Fix T 21 0 [s.vs 30, s.vs 23] = some [[.bool true]] := by
  refine e21_0 600 ?_
  have h1 := s49 s.ready (by have := h.r; omega)
  have h2 := s49 s.waits (by have := h.w; omega)
  have hto := ht.o
  have := lp_ind (S := Nat) (l := [1, 1]) (g := F21_0_b1 (Fix T) 600 (tks s.ticks) (tks s.ticks)) (fun i => [.bool false, .int .i64 (i : Int)]) (fun i => i ≤ s.ticks.length) (fun i => s.ticks.length - i) (fun i => some (.exit 0 [1, 1] [.bool false, .int .i64 s.ticks.length])) (fun i hi => by
    generalize s.ticks = l at *
    by_cases h : i < l.length
    · have b1 : ((i : Int) < l.length) = True := eq_true (by omega)
      have hg := tks_get h
      have hli := ht.i l[i] (List.getElem_mem h)
      have hld : ∀ k : V → TR, op1V (Fix T) (.ldi 0 1 false [false]) [[ints l[i]]] k = k (ints l[i]) := fun k => o_ldiL (.inr rfl)
      have hL := s21L l 600 i h hli (by omega)
      have b2 : ((l[i].length : Int) = l[i].length) = True := eq_true rfl
      refine .inl ⟨i + 1, ?_, by omega, by omega, rfl⟩
      simp only [ints, tks] at hg hld hL
      simp only [F21_0_b1, tks, ints, b1, b2, hg, hld, hL, w_succ (show i < 4611686018427387904 by omega), List.length_map, VBs, reduceCtorEq, Nat.reduceEqDiff, Option.bind_some, Option.bind_none, List.getElem?_cons_zero, List.getElem?_cons_succ, if_true, if_false, ne_eq]
    · obtain rfl : i = l.length := by omega
      have b1 : ((l.length : Int) < l.length) = False := eq_false (by omega)
      refine .inr ⟨?_, trivial⟩
      simp only [F21_0_b1, tks, b1, List.length_map, VBs, reduceCtorEq, Nat.reduceEqDiff, Option.bind_some, Option.bind_none, List.getElem?_cons_zero, List.getElem?_cons_succ, if_true, if_false, ne_eq]) 600 0 (by omega) (by omega)
  simp only [Int.natCast_zero] at this
  obtain ⟨busy, ⟨id, lv, sem⟩, left, ready, waits, ticks⟩ := s
  simp only [Sc.vs, prs, tks] at *
  have hq : ∀ f : V → TR, op1V (Fix T) (.eqA [0, 0, 0] true) [[.int .i64 id, .int .i64 lv, .int .i64 sem], [.int .i64 id, .int .i64 lv, .int .i64 sem]] f = f (.bool false) := fun f => by rw [o_eqA3]; simp
  have bb : (!(busy == busy)) = false := by simp
  have b1 : (left = left) = True := eq_true rfl
  have b2 : ((ticks.length : Int) = ticks.length) = True := eq_true rfl
  simp only [F21_0, prs, tks, h1, h2, hq, bb, b1, b2, this, List.length_map, VBs, reduceCtorEq, Nat.reduceEqDiff, Option.bind_some, Option.bind_none, List.getElem?_cons_zero, List.getElem?_cons_succ, if_true, if_false, ne_eq]
end Go.Proofs.YtlhcgiegganbpaaDoorVs
set_option linter.unusedVariables false
set_option linter.unusedSimpArgs false
set_option maxRecDepth 100000
namespace Go.Proofs.YtlhcgiegganbpaaDoorVs
theorem n6 : Fix T 6 1 [[], [.bool true]] = some [[.int .i64 0, .int .i64 0, .int .i64 0], [.bool false]] := closed 60 (by kernel_rfl)
theorem n7 : Fix T 7 1 [[], [.int .i64 0]] = some [[.int .i64 0, .int .i64 0, .int .i64 0], [.bool false]] := closed 60 (by kernel_rfl)
theorem n9 : Fix T 9 1 [[], [.int .i64 0], [.int .i64 0]] = some [[.iface 84 (.int .i64 1)]] := closed 60 (by kernel_rfl)
theorem n10 : Fix T 10 1 [[], [.int .i64 0]] = some [[.iface 84 (.int .i64 1)]] := closed 60 (by kernel_rfl)
theorem n11 : Fix T 11 1 [[]] = some [[.iface 84 (.int .i64 1)]] := closed 60 (by kernel_rfl)
theorem n12 : Fix T 12 1 [[]] = some [[.bool false]] := closed 60 (by kernel_rfl)
theorem n8 (n : Int) : Fix T 8 0 [[.iface 84 (.int .i64 n)]] = some [[.int .i64 n]] := gv8 rfl
theorem n8' : Fix T 8 0 [[.nilI]] = some [[.int .i64 0]] := gv8 rfl
def Sc.st3 (s : Sc) (code : Int) (i : Nat) : List V := [.bool s.busy, .int .i64 s.cur.id, .int .i64 s.cur.lv, .int .i64 s.cur.sem, .int .i64 s.left, .unit, .unit, .unit, prs 30 s.ready, prs 30 s.waits, tks s.ticks,
  .bool s.busy, .int .i64 s.cur.id, .int .i64 s.cur.lv, .int .i64 s.cur.sem, .int .i64 s.left, prs 23 s.ready, prs 23 s.waits, tks s.ticks, .int .i64 code, .bool false, .int .i64 (i : Int)]
/-- the code that stays behind -/
def Sc.code (s : Sc) (a : Ac) : Int := if a.kind = 0 then (s.add a.id a.lv).1 else if a.kind = 1 then 0 else if a.kind = 2 then (s.wait a.sem).1 else if a.kind = 3 then 0 else s.fini.1
theorem o_errV {Φ : Funs} {e : Int} {r : TR} : chkV 2 (errV e) r = r := by unfold errV; split <;> rfl
set_option maxHeartbeats 1000000 in
theorem s3_step (n : Nat) (l : List Ac) (i : Nat) (h : i < l.length) (h80 : i < 80) (s : Sc) (hs : s.Inv) (c0 : Int) : F3_0_b0 (Fix T) n (acs l) (.bool true) (s.st3 c0 i) = some (.norm [8, 1, 1, 1, 8, 1, 1, 1] ((s.step l[i]).st3 (s.code l[i]) (i + 1))) := by
  have b1 : ((i : Int) < l.length) = True := eq_true (by omega)
  have b2 : ((i : Int) < 80) = True := eq_true (by omega)
  have ws := w_succ (show i < 4611686018427387904 by omega)
  have hg : (l.map fun a => V.agg a.vs)[i]? = some (.agg l[i].vs) := by simp [h]
  have hld : ∀ k : V → V → V → V → V → TR, opnV (Fix T) (.ldi 0 5 true []) [[.agg l[i].vs]] 5 k = k (.int .u8 l[i].kind) (.int .i64 l[i].id) (.int .i64 l[i].lv) (.int .i64 l[i].sem) (.bool l[i].base) := fun k => o_ldi5 (.inr rfl)
  have hsn := inv_step hs l[i]
  have h12 := s12 (s.step l[i])
  have h27 := s27 (s.step l[i])
  have h21 := s21 _ hsn.sm hsn.tkf
  have hq0 : ∀ (a b c : Int) (f : V → TR), op1V (Fix T) (.eqA [0, 0, 0] true) [[.int .i64 a, .int .i64 b, .int .i64 c], [.int .i64 a, .int .i64 b, .int .i64 c]] f = f (.bool false) := fun a b c f => by rw [o_eqA3]; simp
  have bself : ∀ x : Int, (x = x) = True := fun x => eq_true rfl
  have bbs : ∀ x : Bool, (!(x == x)) = false := fun x => by simp
  generalize l[i] = a at *
  unfold Sc.step Sc.code at *
  by_cases k0 : a.kind = 0
  · have c0 := eq_true k0
    rw [if_pos k0] at *
    rw [if_pos k0]
    have h9 := s9 s a.id a.lv hs.sm
    have h22 := s22 s a.id a.lv hs.sm
    generalize s.add a.id a.lv = r at *
    obtain ⟨e, r⟩ := r
    have h8 := s8 e
    obtain ⟨busy, cur, left, ready, waits, ticks⟩ := s
    obtain ⟨busy', cur', left', ready', waits', ticks'⟩ := r
    simp only at *
    by_cases he : e = 0
    · subst he
      simp only [errV, if_true] at h9 h8
      simp only [Sc.vs, Sc.st3, prs, tks, acs] at *
      simp only [F3_0_b0, b1, b2, ws, hg, hld, h9, h22, h8, h12, h27, h21, c0, hq0, bbs, bself, List.length_map, VBs, reduceCtorEq, Nat.reduceEqDiff, Option.bind_some, Option.bind_none, List.getElem?_cons_zero, List.getElem?_cons_succ, if_true, if_false, ne_eq]
    · simp only [errV, if_neg he] at h9 h8
      simp only [Sc.vs, Sc.st3, prs, tks, acs] at *
      simp only [F3_0_b0, b1, b2, ws, hg, hld, h9, h22, h8, h12, h27, h21, c0, hq0, bbs, bself, List.length_map, VBs, reduceCtorEq, Nat.reduceEqDiff, Option.bind_some, Option.bind_none, List.getElem?_cons_zero, List.getElem?_cons_succ, if_true, if_false, ne_eq]
  · rw [if_neg k0] at *
    rw [if_neg k0]
    have c0 := eq_false k0
    by_cases k1 : a.kind = 1
    · have c1 := eq_true k1
      rw [if_pos k1] at *
      rw [if_pos k1]
      have h6 := s6 s a.base hs.oks
      have h23 := s23 s a.base hs
      have h8 := n8'
      generalize s.turn a.base = r at *
      obtain ⟨⟨p, is⟩, r⟩ := r
      obtain ⟨busy, cur, left, ready, waits, ticks⟩ := s
      obtain ⟨busy', cur', left', ready', waits', ticks'⟩ := r
      obtain ⟨pi, pl, ps⟩ := p
      simp only at *
      have h6' : Fix T 6 0 [[.bool busy, .int .i64 cur.id, .int .i64 cur.lv, .int .i64 cur.sem, .int .i64 left, prs 30 ready, prs 30 waits, tks ticks], [.bool a.base]] = some [[.int .i64 pi, .int .i64 pl, .int .i64 ps], [.bool is], [.bool busy', .int .i64 cur'.id, .int .i64 cur'.lv, .int .i64 cur'.sem, .int .i64 left', prs 30 ready', prs 30 waits', tks ticks']] := h6
      have h23' : Fix T 23 0 [[.bool busy, .int .i64 cur.id, .int .i64 cur.lv, .int .i64 cur.sem, .int .i64 left, prs 23 ready, prs 23 waits, tks ticks], [.bool a.base]] = some [[.bool busy', .int .i64 cur'.id, .int .i64 cur'.lv, .int .i64 cur'.sem, .int .i64 left', prs 23 ready', prs 23 waits', tks ticks'], [.int .i64 pi, .int .i64 pl, .int .i64 ps], [.bool is]] := h23
      clear h6 h23
      simp only [Sc.vs, Sc.st3, prs, tks, acs] at *
      simp only [F3_0_b0, b1, b2, ws, hg, hld, h6', h23', h8, h12, h27, h21, c0, c1, hq0, bbs, bself, List.length_map, VBs, reduceCtorEq, Nat.reduceEqDiff, Option.bind_some, Option.bind_none, List.getElem?_cons_zero, List.getElem?_cons_succ, if_true, if_false, ne_eq]
    · rw [if_neg k1] at *
      rw [if_neg k1]
      have c1 := eq_false k1
      by_cases k2 : a.kind = 2
      · have c2 := eq_true k2
        rw [if_pos k2] at *
        rw [if_pos k2]
        have h10 := s10 s a.sem hs.sm
        have h24 := s24 s a.sem hs.sm
        generalize s.wait a.sem = r at *
        obtain ⟨e, r⟩ := r
        have h8 := s8 e
        obtain ⟨busy, cur, left, ready, waits, ticks⟩ := s
        obtain ⟨busy', cur', left', ready', waits', ticks'⟩ := r
        simp only at *
        by_cases he : e = 0
        · subst he
          simp only [errV, if_true] at h10 h8
          simp only [Sc.vs, Sc.st3, prs, tks, acs] at *
          simp only [F3_0_b0, b1, b2, ws, hg, hld, h10, h24, h8, h12, h27, h21, c0, c1, c2, hq0, bbs, bself, List.length_map, VBs, reduceCtorEq, Nat.reduceEqDiff, Option.bind_some, Option.bind_none, List.getElem?_cons_zero, List.getElem?_cons_succ, if_true, if_false, ne_eq]
        · simp only [errV, if_neg he] at h10 h8
          simp only [Sc.vs, Sc.st3, prs, tks, acs] at *
          simp only [F3_0_b0, b1, b2, ws, hg, hld, h10, h24, h8, h12, h27, h21, c0, c1, c2, hq0, bbs, bself, List.length_map, VBs, reduceCtorEq, Nat.reduceEqDiff, Option.bind_some, Option.bind_none, List.getElem?_cons_zero, List.getElem?_cons_succ, if_true, if_false, ne_eq]
      · rw [if_neg k2] at *
        rw [if_neg k2]
        have c2 := eq_false k2
        by_cases k3 : a.kind = 3
        · have c3 := eq_true k3
          rw [if_pos k3] at *
          rw [if_pos k3]
          have h7 := s7 s a.sem hs.sm
          have h25 := s25 s a.sem hs.sm
          have h8 := n8'
          generalize s.sig a.sem = r at *
          obtain ⟨⟨p, is⟩, r⟩ := r
          obtain ⟨busy, cur, left, ready, waits, ticks⟩ := s
          obtain ⟨busy', cur', left', ready', waits', ticks'⟩ := r
          obtain ⟨pi, pl, ps⟩ := p
          simp only at *
          have h7' : Fix T 7 0 [[.bool busy, .int .i64 cur.id, .int .i64 cur.lv, .int .i64 cur.sem, .int .i64 left, prs 30 ready, prs 30 waits, tks ticks], [.int .i64 a.sem]] = some [[.int .i64 pi, .int .i64 pl, .int .i64 ps], [.bool is], [.bool busy', .int .i64 cur'.id, .int .i64 cur'.lv, .int .i64 cur'.sem, .int .i64 left', prs 30 ready', prs 30 waits', tks ticks']] := h7
          have h25' : Fix T 25 1 [[.bool busy, .int .i64 cur.id, .int .i64 cur.lv, .int .i64 cur.sem, .int .i64 left, prs 23 ready, prs 23 waits, tks ticks], [.int .i64 a.sem]] = some [[.bool busy', .int .i64 cur'.id, .int .i64 cur'.lv, .int .i64 cur'.sem, .int .i64 left', prs 23 ready', prs 23 waits', tks ticks'], [.int .i64 pi, .int .i64 pl, .int .i64 ps], [.bool is]] := h25
          clear h7 h25
          simp only [Sc.vs, Sc.st3, prs, tks, acs] at *
          simp only [F3_0_b0, b1, b2, ws, hg, hld, h7', h25', h8, h12, h27, h21, c0, c1, c2, c3, hq0, bbs, bself, List.length_map, VBs, reduceCtorEq, Nat.reduceEqDiff, Option.bind_some, Option.bind_none, List.getElem?_cons_zero, List.getElem?_cons_succ, if_true, if_false, ne_eq]
        · rw [if_neg k3] at *
          rw [if_neg k3]
          have c3 := eq_false k3
          have h11 := s11 s
          have h26 := s26 s
          generalize s.fini = r at *
          obtain ⟨e, r⟩ := r
          have h8 := s8 e
          obtain ⟨busy, cur, left, ready, waits, ticks⟩ := s
          obtain ⟨busy', cur', left', ready', waits', ticks'⟩ := r
          simp only at *
          by_cases he : e = 0
          · subst he
            simp only [errV, if_true] at h11 h8
            simp only [Sc.vs, Sc.st3, prs, tks, acs] at *
            simp only [F3_0_b0, b1, b2, ws, hg, hld, h11, h26, h8, h12, h27, h21, c0, c1, c2, c3, hq0, bbs, bself, List.length_map, VBs, reduceCtorEq, Nat.reduceEqDiff, Option.bind_some, Option.bind_none, List.getElem?_cons_zero, List.getElem?_cons_succ, if_true, if_false, ne_eq]
          · simp only [errV, if_neg he] at h11 h8
            simp only [Sc.vs, Sc.st3, prs, tks, acs] at *
            simp only [F3_0_b0, b1, b2, ws, hg, hld, h11, h26, h8, h12, h27, h21, c0, c1, c2, c3, hq0, bbs, bself, List.length_map, VBs, reduceCtorEq, Nat.reduceEqDiff, Option.bind_some, Option.bind_none, List.getElem?_cons_zero, List.getElem?_cons_succ, if_true, if_false, ne_eq]
theorem s3_loop (n : Nat) (l : List Ac) : ∀ (d i fuel : Nat) (s : Sc) (c0 : Int), min 80 l.length - i = d → i ≤ min 80 l.length → d < fuel → s.Inv → ∃ (s' : Sc) (c : Int), s'.Inv ∧ lpV [8, 1, 1, 1, 8, 1, 1, 1] (F3_0_b0 (Fix T) n (acs l) (.bool true)) fuel (s.st3 c0 i) =
    some (.exit 0 [1, 1, 1, 8, 8, 1, 1, 1] [.bool false, .int .i64 c, .int .i64 (min 80 l.length : Nat), .bool s'.busy, .int .i64 s'.cur.id, .int .i64 s'.cur.lv, .int .i64 s'.cur.sem, .int .i64 s'.left, prs 23 s'.ready, prs 23 s'.waits, tks s'.ticks, .bool s'.busy, .int .i64 s'.cur.id, .int .i64 s'.cur.lv, .int .i64 s'.cur.sem, .int .i64 s'.left, .unit, .unit, .unit, prs 30 s'.ready, prs 30 s'.waits, tks s'.ticks]) := by
  intro d
  induction d with
  | zero =>
    intro i fuel s c0 hd hi hf hs
    obtain ⟨fuel, rfl⟩ : ∃ m, fuel = m + 1 := ⟨fuel - 1, by omega⟩
    obtain rfl : i = min 80 l.length := by omega
    refine ⟨s, c0, hs, ?_⟩
    by_cases h : l.length ≤ 80
    · have e : min 80 l.length = l.length := by omega
      rw [e]
      have b1 : ((l.length : Int) < l.length) = False := eq_false (by omega)
      rw [lp_exit (j := 0) (l' := [1, 1, 1, 8, 8, 1, 1, 1]) (vs' := [.bool false, .int .i64 c0, .int .i64 l.length, .bool s.busy, .int .i64 s.cur.id, .int .i64 s.cur.lv, .int .i64 s.cur.sem, .int .i64 s.left, prs 23 s.ready, prs 23 s.waits, tks s.ticks, .bool s.busy, .int .i64 s.cur.id, .int .i64 s.cur.lv, .int .i64 s.cur.sem, .int .i64 s.left, .unit, .unit, .unit, prs 30 s.ready, prs 30 s.waits, tks s.ticks]) (by simp only [F3_0_b0, Sc.st3, acs, b1, List.length_map, VBs, reduceCtorEq, Nat.reduceEqDiff, Option.bind_some, Option.bind_none, List.getElem?_cons_zero, List.getElem?_cons_succ, if_true, if_false, ne_eq])]
    · have e : min 80 l.length = 80 := by omega
      rw [e]
      have b1 : (((80 : Nat) : Int) < l.length) = True := eq_true (by omega)
      have b2 : (((80 : Nat) : Int) < 80) = False := eq_false (by omega)
      rw [lp_exit (j := 0) (l' := [1, 1, 1, 8, 8, 1, 1, 1]) (vs' := [.bool false, .int .i64 c0, .int .i64 (80 : Nat), .bool s.busy, .int .i64 s.cur.id, .int .i64 s.cur.lv, .int .i64 s.cur.sem, .int .i64 s.left, prs 23 s.ready, prs 23 s.waits, tks s.ticks, .bool s.busy, .int .i64 s.cur.id, .int .i64 s.cur.lv, .int .i64 s.cur.sem, .int .i64 s.left, .unit, .unit, .unit, prs 30 s.ready, prs 30 s.waits, tks s.ticks]) (by simp only [F3_0_b0, Sc.st3, acs, b1, b2, List.length_map, VBs, reduceCtorEq, Nat.reduceEqDiff, Option.bind_some, Option.bind_none, List.getElem?_cons_zero, List.getElem?_cons_succ, if_true, if_false, ne_eq])]
  | succ d ih =>
    intro i fuel s c0 hd hi hf hs
    obtain ⟨fuel, rfl⟩ : ∃ m, fuel = m + 1 := ⟨fuel - 1, by omega⟩
    have h : i < l.length := by omega
    obtain ⟨s', c, h1, h'⟩ := ih (i + 1) fuel (s.step l[i]) (s.code l[i]) (by omega) (by omega) (by omega) (inv_step hs _)
    exact ⟨s', c, h1, by rw [lp_norm (s3_step n l i h (by omega) s hs c0), h']⟩
theorem newS_sm (l : List (List Int)) : (newS l).Sm := ⟨by simp [newS], by simp [newS]⟩
theorem errV1 : errV 1 = .iface 84 (.int .i64 1) := rfl
theorem errV0 : errV 0 = .nilI := rfl
set_option maxHeartbeats 1000000 in
theorem ProcRuns_ok (s : Sc) (l : List Ac) (h1 : s.ready.length < 2 ^ 60) (h2 : s.waits.length < 2 ^ 60) (h3 : s.ticks.length < 2 ^ 60) (h4 : ∀ t ∈ s.ticks, t.length < 2 ^ 60) (h5 : l.length < 2 ^ 60) : Fix T 3 0 [s.vs 23, [acs l]] = some [[.bool true]] := by
  refine e3_0 100 ?_
  have h14 := s14
  have h13 := s13 s.ticks h3 h4
  have n1 := n8 1
  have n0 := n8'
  have o1 : ((1 : Int) = 1) = True := eq_true rfl
  have o2 : ((0 : Int) = 0) = True := eq_true rfl
  have o3 : ((1 : Int) = 0) = False := eq_false (by decide)
  have o4 : ((1 : Int) < 1) = False := eq_false (by decide)
  have o5 : ((1 : Int) < 0) = False := eq_false (by decide)
  have q1 : (true == true) = true := rfl
  have q2 : (false == false) = true := rfl
  by_cases hr : 20 < s.ready.length
  · have b1 : ((20 : Int) < s.ready.length) = True := eq_true (by omega)
    obtain ⟨busy, cur, left, ready, waits, ticks⟩ := s
    simp only [Sc.vs, prs, tks] at *
    simp only [F3_0, prs, tks, n6, n7, n9, n10, n11, n12, n1, o1, b1, h14, List.length_map, VBs, reduceCtorEq, Nat.reduceEqDiff, Option.bind_some, Option.bind_none, List.getElem?_cons_zero, List.getElem?_cons_succ, if_true, if_false, ne_eq]
  · have b1 : ((20 : Int) < s.ready.length) = False := eq_false (by omega)
    by_cases hw : 20 < s.waits.length
    · have b2 : ((20 : Int) < s.waits.length) = True := eq_true (by omega)
      obtain ⟨busy, cur, left, ready, waits, ticks⟩ := s
      simp only [Sc.vs, prs, tks] at *
      simp only [F3_0, prs, tks, n6, n7, n9, n10, n11, n12, n1, o1, b1, b2, h14, List.length_map, VBs, reduceCtorEq, Nat.reduceEqDiff, Option.bind_some, Option.bind_none, List.getElem?_cons_zero, List.getElem?_cons_succ, if_true, if_false, ne_eq]
    · have b2 : ((20 : Int) < s.waits.length) = False := eq_false (by omega)
      cases hb : bigT s.ticks with
      | true =>
        rw [hb] at h13
        obtain ⟨busy, cur, left, ready, waits, ticks⟩ := s
        simp only [Sc.vs, prs, tks] at *
        simp only [F3_0, prs, tks, n6, n7, n9, n10, n11, n12, n1, o1, b1, b2, h13, h14, List.length_map, VBs, reduceCtorEq, Nat.reduceEqDiff, Option.bind_some, Option.bind_none, List.getElem?_cons_zero, List.getElem?_cons_succ, if_true, if_false, ne_eq]
      | false =>
        rw [hb] at h13
        have hf := big_few hb
        have hs : s.Sm := ⟨by omega, by omega⟩
        have h15 := s15 s hs hf
        have h16 := s16 s hs hf
        have h17 := s17 s hs hf
        rw [ok_same] at h17
        have h19 := s19 s.ticks hf
        have h18 := s18 s.ticks hf
        have h20 := s20 s.ticks hf
        have h21 := s21 (newS s.ticks) (newS_sm _) hf
        cases ho : s.ok with
        | false =>
          rw [ho] at h17
          have e1 : errV (if s.ok = true then 0 else 1) = .iface 84 (.int .i64 1) := by rw [ho]; rfl
          rw [e1] at h16
          cases ht : tkOk s.ticks with
          | true =>
            rw [ht] at h18 h20
            obtain ⟨busy, cur, left, ready, waits, ticks⟩ := s
            simp only [newS, Sc.vs, prs, tks, if_true, List.map_nil] at *
            simp only [F3_0, prs, tks, n6, n7, n9, n10, n11, n12, n1, n0, o1, o2, o3, o4, q1, q2, b1, b2, h13, h14, h15, h16, h17, h18, h19, h20, h21, List.length_map, VBs, reduceCtorEq, Nat.reduceEqDiff, Option.bind_some, Option.bind_none, List.getElem?_cons_zero, List.getElem?_cons_succ, if_true, if_false, ne_eq]
          | false =>
            rw [ht] at h18 h20
            obtain ⟨busy, cur, left, ready, waits, ticks⟩ := s
            simp only [newS, errV1, Sc.vs, prs, tks, if_false, List.map_nil, Bool.false_eq_true] at *
            simp only [F3_0, prs, tks, n6, n7, n9, n10, n11, n12, n1, n0, o1, o2, o3, o4, q1, q2, b1, b2, h13, h14, h15, h16, h17, h18, h19, h20, h21, g_u, List.length_map, VBs, reduceCtorEq, Nat.reduceEqDiff, Option.bind_some, Option.bind_none, List.getElem?_cons_zero, List.getElem?_cons_succ, if_true, if_false, ne_eq]
        | true =>
          rw [ho] at h17
          have e1 : errV (if s.ok = true then 0 else 1) = .nilI := by rw [ho]; rfl
          rw [e1] at h16
          have hi := (ok_iff s).1 ho
          obtain ⟨s', c, hi', hl⟩ := s3_loop 100 l (min 80 l.length) 0 100 s 0 (by omega) (by omega) (by omega) hi
          have h16' := s16 s' hi'.sm hi'.tkf
          rw [if_pos ((ok_iff _).2 hi'), errV0] at h16'
          rw [hi.tk] at h18 h20
          obtain ⟨busy, cur, left, ready, waits, ticks⟩ := s
          simp only [newS, Sc.vs, Sc.st3, prs, tks, acs, if_true, List.map_nil, Int.natCast_zero] at *
          simp only [F3_0, prs, tks, acs, n6, n7, n9, n10, n11, n12, n1, n0, o1, o2, o3, o4, o5, q1, q2, b1, b2, h13, h14, h15, h16, h17, h18, h19, h20, h21, hl, h16', List.length_map, VBs, reduceCtorEq, Nat.reduceEqDiff, Option.bind_some, Option.bind_none, List.getElem?_cons_zero, List.getElem?_cons_succ, if_true, if_false, ne_eq]
end Go.Proofs.YtlhcgiegganbpaaDoorVs
set_option linter.unusedVariables false
set_option linter.unusedSimpArgs false
namespace Go.Proofs.YtlhcgiegganbpaaDoorVs
section
variable {P : Program} {t : TypeId} {wf : List V → Prop} {H : Type} {enc : TypeId × Value → H} {w : World} {spare : Nat → Bool} {held : Bool} {v : Value} {D : DataW H} {ps : List MemPlace}
theorem blkG_no : ∀ (ms : List PM) (cs : List Value), ms.all (· != .own) = true → blkG ms cs = []
  | [], _, _ => rfl
  | m :: ms, cs, h => by
    simp only [List.all_cons, Bool.and_eq_true, bne_iff_ne] at h
    cases m with
    | own => exact absurd rfl h.1
    | _ => cases cs with
      | nil => rfl
      | cons c cs => exact blkG_no ms cs h.2
theorem pcell_rd {F : Nat → Prop} {m : PM} {x : V} {c : Value} (hm : m ≠ .own) (h : Rd P F w x c) : PCell P F F w m x c := by
  cases m with
  | own => exact absurd rfl hm
  | _ => exact h
/-- a parameter of one cell -/
theorem prm_one (he : ROp P t wf) (m : PM) (hm : m ≠ .own) (hv : v.cells = #[v]) (h : DataW.Trod enc P w 0 spare held t v D ps) (hz : Wt P t D) :
    ∃ ys, wf ys ∧ PArg P (fun b => b < w.heap.size) (fun b => b < w.heap.size) w (.one m) ys v ∧ argB w (.one m) v = [] := by
  obtain ⟨y, h1, h2, h3⟩ := rd_param he hv h hz
  refine ⟨[y], h3, .cons h1 (pcell_rd hm h2) .nil, ?_⟩
  cases m with
  | own => exact absurd rfl hm
  | _ => rfl
/-- a parameter of several -/
theorem prm_agg (he : ROp P t wf) (ms : List PM) (hm : ms.all (· != .own) = true) {cs : Array Value} (hc : cs.size = ms.length) (h : DataW.Trod enc P w 0 spare held t (.agg cs) D ps) (hz : Wt P t D) :
    ∃ ys, wf ys ∧ PArg P (fun b => b < w.heap.size) (fun b => b < w.heap.size) w (.agg ms) ys (.agg cs) ∧ argB w (.agg ms) (.agg cs) = [] := by
  obtain ⟨fuel, hf⟩ := h
  obtain ⟨ys, h1, h2⟩ := he.op hf hz
  have h1' : Cs P w ys cs.toList := h1
  refine ⟨ys, h2, ⟨cs, rfl, by simp [hc], h1'.1, fun i hi hi1 hi2 => ⟨(h1'.2 i hi1 hi2).1, pcell_rd (fun e => ?_) (h1'.2 i hi1 hi2).2⟩⟩, blkG_no ms _ hm⟩
  have := List.all_eq_true.1 hm _ (List.getElem_mem hi)
  rw [e] at this
  cases this
/-- rows of what is told by a reading -/
theorem rop_map1 {e : TypeId} {β : Type} {en : β → V} {ok : β → Prop} (ht : P.underlying t = some (.slice e)) {B : Nat} (hB : P.bytesOf e = B) (hk : P.cellsOf e = 1) (ha : agT P e = some false) (hs : szOf P e = some 1) (he : ROp P e (fun ys => ∃ x, ys = [en x] ∧ ok x)) :
    ROp P t (fun ys => ∃ l : List β, ys = [.list e (l.map en)] ∧ (l.length ≤ maxLen ∧ l.length * B ≤ 140737488351232) ∧ ∀ x ∈ l, ok x) := by
  refine (rop_slice1 ht hB hk ha hs he).weaken ?_
  rintro ys ⟨xs, rfl, h1, h2, h3⟩
  obtain ⟨l, rfl, hl⟩ : ∃ l : List β, xs = l.map en ∧ ∀ x ∈ l, ok x := by
    clear h1 h2
    induction xs with
    | nil => exact ⟨[], rfl, by simp⟩
    | cons x r ih =>
      obtain ⟨l, rfl, hl⟩ := ih (fun y hy => h3 y (List.mem_cons_of_mem _ hy))
      obtain ⟨z, e, hz⟩ := h3 x (List.mem_cons_self ..)
      obtain rfl : x = en z := by simpa using e
      refine ⟨z :: l, rfl, fun y hy => ?_⟩
      rcases List.mem_cons.1 hy with rfl | hy
      · exact hz
      · exact hl y hy
  simp only [List.length_map] at h1 h2
  exact ⟨l, rfl, ⟨h1, h2⟩, hl⟩
theorem rop_mapA {e : TypeId} {β : Type} {en : β → List V} {ok : β → Prop} (ht : P.underlying t = some (.slice e)) {B : Nat} (hB : P.bytesOf e = B) {k : Nat} (hk : P.cellsOf e = k) (hp : 0 < k) (ha : agT P e = some true) (hs : szOf P e = some k) (he : ROp P e (fun ys => ∃ x, ys = en x ∧ ok x)) :
    ROp P t (fun ys => ∃ l : List β, ys = [.list e (l.map fun x => .agg (en x))] ∧ (l.length ≤ maxLen ∧ l.length * B ≤ 140737488351232) ∧ ∀ x ∈ l, ok x) := by
  refine (rop_sliceA ht hB hk hp ha hs he).weaken ?_
  rintro ys ⟨xs, rfl, h1, h2, h3⟩
  obtain ⟨l, rfl, hl⟩ : ∃ l : List β, xs = l.map en ∧ ∀ x ∈ l, ok x := by
    clear h1 h2
    induction xs with
    | nil => exact ⟨[], rfl, by simp⟩
    | cons x r ih =>
      obtain ⟨l, rfl, hl⟩ := ih (fun y hy => h3 y (List.mem_cons_of_mem _ hy))
      obtain ⟨_, z, rfl, hz⟩ := h3 x (List.mem_cons_self ..)
      refine ⟨z :: l, rfl, fun y hy => ?_⟩
      rcases List.mem_cons.1 hy with rfl | hy
      · exact hz
      · exact hl y hy
  simp only [List.length_map] at h1 h2
  exact ⟨l, by simp [Function.comp_def], ⟨h1, h2⟩, hl⟩
theorem rop_i64 (ht : P.underlying t = some (.int .i64)) : ROp P t (fun ys => ∃ n, ys = [.int .i64 n] ∧ (-9223372036854775808 ≤ n ∧ n ≤ 9223372036854775807)) := by
  refine (rop_int .i64 ht).weaken ?_
  rintro ys ⟨n, rfl, h1, h2⟩
  have e1 : IntKind.min .i64 = -9223372036854775808 := by decide
  have e2 : IntKind.max .i64 = 9223372036854775807 := by decide
  exact ⟨n, rfl, by omega, by omega⟩
theorem rop_u8 (ht : P.underlying t = some (.int .u8)) : ROp P t (fun ys => ∃ n, ys = [.int .u8 n] ∧ (0 ≤ n ∧ n < 256)) := by
  refine (rop_int .u8 ht).weaken ?_
  rintro ys ⟨n, rfl, h1, h2⟩
  have e1 : IntKind.min .u8 = 0 := by decide
  have e2 : IntKind.max .u8 = 255 := by decide
  exact ⟨n, rfl, by omega, by omega⟩
theorem rop_u16 (ht : P.underlying t = some (.int .u16)) : ROp P t (fun ys => ∃ n, ys = [.int .u16 n] ∧ (0 ≤ n ∧ n < 65536)) := by
  refine (rop_int .u16 ht).weaken ?_
  rintro ys ⟨n, rfl, h1, h2⟩
  have e1 : IntKind.min .u16 = 0 := by decide
  have e2 : IntKind.max .u16 = 65535 := by decide
  exact ⟨n, rfl, by omega, by omega⟩
theorem rop_u32 (ht : P.underlying t = some (.int .u32)) : ROp P t (fun ys => ∃ n, ys = [.int .u32 n] ∧ (0 ≤ n ∧ n < 4294967296)) := by
  refine (rop_int .u32 ht).weaken ?_
  rintro ys ⟨n, rfl, h1, h2⟩
  have e1 : IntKind.min .u32 = 0 := by decide
  have e2 : IntKind.max .u32 = 4294967295 := by decide
  exact ⟨n, rfl, by omega, by omega⟩
end
end Go.Proofs.YtlhcgiegganbpaaDoorVs
