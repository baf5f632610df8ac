/-
  The arguments of a call. Conditions: each lemma's own premises.
-/
import Derived.Test.YtogfkdpgkloljaaDoorVsT
set_option linter.unusedVariables false
set_option linter.unusedSimpArgs false
namespace Go.Proofs.YtogfkdpgkloljaaDoorVs
/-- a key's block -/
def Lay.keyB (L : Lay) (k b : Nat) : Prop := (∃ t r, k = tkK t ∧ L.row t = some r ∧ r.blk = some b) ∨ ∃ u, k = bxK u ∧ L.box u = some (b, false)
def backP (L : Lay) (A : Arg) : List (Nat × List PM) := match A.back with
  | none => []
  | some (u, ms) => ((L.box u).map fun x => (x.1, ms.map bkM)).toList
structure ArgOK (P : Program) (L : Lay) (w : World) (p : PSh) (A : Arg) (fz : List Nat) (ka : List (Nat × Nat)) (zs : List Nat) (xs : List V) (c : Value) : Prop where
  pm : A.keys.Perm (ka.map (·.1) ++ (fz.map tkK ++ zs))
  row : ∀ t, t ∈ fz → ∃ r, L.row t = some r
  kb : ∀ q, q ∈ ka → L.keyB q.1 q.2
  sn : ka.map (·.2) = argB w p c
  kk : ∀ k, k ∈ A.kill → ∃ t, k = tkK t
  ok : ∀ F1 S1 : Nat → Prop, (∀ b, L.F b → F1 b) → (∀ b, L.blks fz b → F1 b) → (∀ b, L.S b → S1 b) → (∀ k b, k ∈ A.ln → L.keyB k b → S1 b) → PArg P F1 S1 w p xs c
  bk : ∀ ps cs, backsOf (p :: ps) (c :: cs) = backP L A ++ backsOf ps cs
  bx : ∀ u ms, A.back = some (u, ms) → ∃ b, L.box u = some (b, false) ∧ bxK u ∈ ka.map (·.1)
section
variable {P : Program} {w0 : World} {M : Nat → Prop} {N : Fr} {α : Al} {ν ν' : Env} {L : Lay} {a : Act} {w w' : World} {Φ : Funs} {o : Oper} {d : Nat} {E : Eff}
def Lay.kaOf (L : Lay) (gn : List Nat) : List (Nat × Nat) := gn.flatMap fun t => (L.tB t).map fun b => (tkK t, b)
def Lay.zsOf (L : Lay) (gn : List Nat) : List Nat := gn.flatMap fun t => if L.tB t = [] then [tkK t] else []
theorem ka_snd (L : Lay) (gn : List Nat) : (L.kaOf gn).map (·.2) = gn.flatMap L.tB := by
  induction gn with
  | nil => rfl
  | cons t r ih => simp [Lay.kaOf, List.map_append] at ih ⊢; rw [← ih]; simp [Function.comp_def]
theorem ka_perm (L : Lay) (gn : List Nat) : (gn.map tkK).Perm ((L.kaOf gn).map (·.1) ++ L.zsOf gn) := by
  induction gn with
  | nil => simp [Lay.kaOf, Lay.zsOf]
  | cons t r ih =>
    simp only [List.map_cons, Lay.kaOf, Lay.zsOf, List.flatMap_cons, List.map_append, List.map_map] at ih ⊢
    cases h : L.tB t with
    | nil =>
      simp only [List.map_nil, List.nil_append, if_true, List.singleton_append]
      exact (ih.cons (tkK t)).trans List.perm_middle.symm
    | cons b r' =>
      have : r' = [] := by
        simp only [Lay.tB] at h
        cases h2 : (L.row t).bind Row.blk with
        | none => rw [h2] at h; cases h
        | some b' => rw [h2] at h; simp at h; exact h.2
      subst this
      simp only [List.map_cons, List.map_nil, Function.comp, List.cons_append, List.nil_append, reduceCtorEq, if_false]
      exact ih.cons (tkK t)
theorem ka_key (L : Lay) (gn : List Nat) : ∀ q ∈ L.kaOf gn, L.keyB q.1 q.2 := by
  intro q hq
  simp only [Lay.kaOf, List.mem_flatMap, List.mem_map] at hq
  obtain ⟨t, ht, b, hb, rfl⟩ := hq
  simp only [Lay.tB, Option.mem_toList, Option.bind_eq_some_iff] at hb
  obtain ⟨r, h1, h2⟩ := hb
  exact .inl ⟨t, r, rfl, h1, h2⟩
theorem lnOf_tk {m : PM} {a1 : At} {k : Nat} (h : k ∈ lnOf m a1) : ∃ t, k = tkK t := by
  unfold lnOf at h
  split at h <;> simp at h
  · exact ⟨_, h⟩
  · exact ⟨_, h⟩
theorem CellsOK.arg {ms : List PM} {as : List At} {q : Pcs} {fz gn : List Nat} {xs : List V} {cs : List Value} (C : CellsOK P L w ms as q fz gn xs cs) :
    q.kill.Perm ((L.kaOf gn).map (·.1) ++ (fz.map tkK ++ L.zsOf gn)) ∧ (∀ t, t ∈ fz → ∃ r, L.row t = some r) ∧ (L.kaOf gn).map (·.2) = blkG ms cs ∧ (∀ k, k ∈ q.kill → ∃ t, k = tkK t) ∧
    ∀ F1 S1 : Nat → Prop, (∀ b, L.F b → F1 b) → (∀ b, L.blks fz b → F1 b) → (∀ b, L.S b → S1 b) → (∀ k b, k ∈ lnL ms as → L.keyB k b → S1 b) → PCells P F1 S1 w ms xs cs := by
  refine ⟨?_, fun t h => C.row t (.inl h), by rw [ka_snd, C.blk], fun k hk => ?_, fun F1 S1 h1 h2 h3 h4 => C.ok F1 S1 h1 h2 h3 (fun t r b h5 h6 h7 => h4 _ b h5 (.inl ⟨t, r, rfl, h6, h7⟩))⟩
  · refine C.pm.trans ?_
    rw [List.map_append]
    refine ((ka_perm L gn).append_left _).trans ?_
    rw [← List.append_assoc, ← List.append_assoc]
    exact List.perm_append_comm.append_right _
  · have := (C.pm.mem_iff).1 hk
    obtain ⟨t, _, rfl⟩ := List.mem_map.1 this
    exact ⟨t, rfl⟩
theorem passBox_ok (R : Rel P w0 M N α ν L a w) {ro : Bool} {ms : List PM} {u b : Nat} {ro' : Bool} {c0 a0 : List (Nat × Nat)} {A : Arg} (h : RM.out α (passBox ro ms u c0 a0 (α.box u)) A) (hu : L.box u = some (b, ro')) (hk : A.chk.all (unitAt ν) = true) {xs : List V} (hx : Pieces ν A.ps xs) :
    ∃ fz ka zs, ArgOK P L w (.ptr ro ms) A fz ka zs xs (.pointer (some ⟨b, 0, none⟩)) := by
  simp only [passBox, out_bind, out_opt, out_need, out_ok] at h
  obtain ⟨x, hbx, _, hro, q, hq, rfl⟩ := h
  simp only [List.all_append, Bool.and_eq_true] at hk
  obtain ⟨hxro, HB⟩ := R.boxes u b ro' hu x hbx
  obtain ⟨C, ty, fz0, hh, hfz, hras⟩ := HB.cells
  have hcell : cellsAt w b = C.toList := by simp [cellsAt, hh]
  obtain ⟨fz, gn, CO⟩ := passL_ok R ms x.as 0 q C.toList hq hras.1 hras.at hk.2 xs hx
  obtain ⟨p1, p2, p3, p4, p5⟩ := CO.arg
  cases ro with
  | true =>
    simp only [if_true] at hro
    have hno : ∀ (ms : List PM) (cs : List Value), ms.all (· != .own) = true → blkG ms cs = [] := by
      intro ms
      induction ms with
      | nil => intro cs _; rfl
      | cons m r ih =>
        intro cs h
        simp only [List.all_cons, Bool.and_eq_true, bne_iff_ne] at h
        cases m with
        | own => exact absurd rfl h.1
        | _ => cases cs with
          | nil => rfl
          | cons c cs => exact ih cs h.2
    have hka : L.kaOf gn = [] := by
      have : (L.kaOf gn).map (·.2) = [] := by rw [p3, hno ms _ hro]
      simpa using this
    refine ⟨fz, L.kaOf gn, L.zsOf gn, ?_, p2, ka_key L gn, by simp [hka, argB], p4, fun F1 S1 h1 h2 h3 h4 => ⟨b, rfl, ⟨C, ty, fz0, hh, hfz⟩, by rw [hcell]; exact p5 F1 S1 h1 h2 h3 (fun k g hk => h4 k g (by simp [hk])), fun _ => ⟨?_, hro⟩⟩, fun ps cs => by simp [backsOf, backP], fun v ms' h => by cases h⟩
    · simpa [Arg.keys] using p1
    · cases ro' with
      | true => exact h3 b (R.boxro u b hu)
      | false => exact h4 (bxK u) b (by simp) (.inr ⟨u, rfl, hu⟩)
  | false =>
    simp only [Bool.false_eq_true, if_false, Bool.not_eq_true'] at hro
    have : ro' = false := by rw [← hxro]; exact hro
    subst this
    refine ⟨fz, (bxK u, b) :: L.kaOf gn, L.zsOf gn, ?_, p2, ?_, by simp [argB, hcell, p3], p4, fun F1 S1 h1 h2 h3 h4 => ⟨b, rfl, ⟨C, ty, fz0, hh, hfz⟩, by rw [hcell]; exact p5 F1 S1 h1 h2 h3 (fun k g hk => h4 k g (by simp [hk])), fun h => by cases h⟩, fun ps cs => ?_, fun v ms' h => ?_⟩
    · simpa [Arg.keys] using p1
    · intro q hq
      rcases List.mem_cons.1 hq with rfl | hq
      · exact .inr ⟨u, rfl, hu⟩
      · exact ka_key L gn q hq
    · simp [backsOf, backP, hu]
    · simp only [Bool.false_eq_true, if_false, Option.some.injEq, Prod.mk.injEq] at h
      obtain ⟨rfl, rfl⟩ := h
      exact ⟨b, hu, by simp⟩
theorem passArg_ok (R : Rel P w0 M N α ν L a w) {p : PSh} {sh : Sh} {g : VArg} {A : Arg} {c : Value} (h : RM.out α (passArg p sh g) A) (H : RSl P L w sh (g.get ν) c) (hk : A.chk.all (unitAt ν) = true) (hs : A.asr.all (trueAt ν) = true) {xs : List V} (hx : Pieces ν A.ps xs) :
    ∃ fz ka zs, ArgOK P L w p A fz ka zs xs c := by
  unfold passArg at h
  split at h
  · rename_i m a1
    simp only [out_bind, out_opt, out_ok] at h
    obtain ⟨q, hq, rfl⟩ := h
    have hras : RAs P L w [a1] (g.get ν) [c] := by
      cases a1 <;> first | exact H | (simp [passL, pass1] at hq; cases m <;> simp [frz1, lnd1, own1] at hq; done)
    obtain ⟨fz, gn, CO⟩ := passL_ok R [m] [a1] 0 q [c] hq hras.1 hras.at hk xs hx
    obtain ⟨p1, p2, p3, p4, p5⟩ := CO.arg
    exact ⟨fz, L.kaOf gn, L.zsOf gn, by simpa [Arg.keys] using p1, p2, ka_key L gn, by simp [argB, p3], p4, p5, fun ps cs => by simp [backsOf, backP], fun v ms' h => by cases h⟩
  · rename_i ms as
    simp only [out_bind, out_opt, out_ok] at h
    obtain ⟨q, hq, rfl⟩ := h
    obtain ⟨cs, rfl, hras⟩ := H
    obtain ⟨fz, gn, CO⟩ := passL_ok R ms as 0 q cs.toList hq hras.1 hras.at hk xs hx
    obtain ⟨p1, p2, p3, p4, p5⟩ := CO.arg
    exact ⟨fz, L.kaOf gn, L.zsOf gn, by simpa [Arg.keys] using p1, p2, ka_key L gn, by simp [argB, p3], p4, fun F1 S1 h1 h2 h3 h4 => ⟨cs, rfl, p5 F1 S1 h1 h2 h3 h4⟩, fun ps cs => by simp [backsOf, backP], fun v ms' h => by cases h⟩
  · rw [out_ok] at h
    subst h
    obtain ⟨x, hp, hr⟩ := RAs.single H
    have hp' : x = .unit := by simpa [VArg.get, eq_comm] using hp
    subst hp'
    rcases hr with hr | ⟨hc, _⟩
    · cases hr
    subst hc
    exact ⟨[], [], [], by simp [Arg.keys], by simp, by simp, by simp [argB], by simp, fun F1 S1 _ _ _ _ => rfl, fun ps cs => by simp [backsOf, backP], fun v ms' h => by cases h⟩
  · rename_i i
    rw [out_ok] at h
    subst h
    obtain ⟨x, hp, hr⟩ := RAs.single H
    have hun := unit_chk hk (List.mem_singleton.2 rfl) hp rfl
    subst hun
    rcases hr with hr | ⟨hc, _⟩
    · cases hr
    subst hc
    exact ⟨[], [], [], by simp [Arg.keys], by simp, by simp, by simp [argB], by simp, fun F1 S1 _ _ _ _ => rfl, fun ps cs => by simp [backsOf, backP], fun v ms' h => by cases h⟩
  · rename_i ro ms u i
    rw [out_bx] at h
    obtain ⟨x, hp, hr⟩ := RAs.single H
    have hch : (i, 0) ∈ A.chk := by
      simp only [passBox, out_bind, out_opt, out_need, out_ok] at h
      obtain ⟨_, _, _, _, q, _, rfl⟩ := h
      simp
    have hun := unit_chk hk hch hp rfl
    subst hun
    rcases hr with hr | ⟨_, b, ro', hu, rfl⟩
    · cases hr
    exact passBox_ok R h hu hk hx
  · rename_i ro ms u i
    rw [out_bx] at h
    obtain ⟨x, hp, hr⟩ := RAs.single H
    have hch : (i, 0) ∈ A.asr := by
      simp only [passBox, out_bind, out_opt, out_need, out_ok] at h
      obtain ⟨_, _, _, _, q, _, rfl⟩ := h
      simp
    have htr := List.all_eq_true.1 hs _ hch
    simp only [get_c] at hp
    simp only [trueAt, hp, List.getElem?_cons_zero] at htr
    rcases hr with rfl | ⟨rfl, _⟩ | ⟨rfl, b, ro', hu, rfl⟩
    · cases htr
    · cases htr
    · exact passBox_ok R h hu hk hx
  · rw [out_no] at h; exact h.elim
end
end Go.Proofs.YtogfkdpgkloljaaDoorVs
