/-
  Regions. Conditions: each lemma's own premises.
-/
import Derived.Test.YtogfkdpgkloljaaDoorVtB
set_option linter.unusedVariables false
set_option linter.unusedSimpArgs false
namespace Go.Proofs.YtogfkdpgkloljaaDoorVs
/-- what stood when an operation was told in the text's order, what it came to, where it looked -/
structure SR where
  al : Al
  G : List Nat
  vg : VG
  eff : Eff
  lk : List Nat
def dstOk (N : Nat × List Nat) (o : Oper) : Bool := match o.dst with
  | some d => decide (d < N.1) && !N.2.contains d
  | none => true
def regT (P : Program) (sg : Sigs) (N : Nat × List Nat) (hs : Nat → Nat) (ops : Array Oper) : Nat → List Oper → Al → List Nat → Option (List SR × Al)
  | _, [], α, _ => some ([], α)
  | i, o :: r, α, G => if dstOk N o then ((stepOp P sg (hs i) ops G o).run α).bind fun q =>
      (regT P sg N hs ops (i + 1) r (q.1.2.apF α o.dst) (stepG G o)).map fun p => (⟨α, G, q.1.1, q.1.2, q.2⟩ :: p.1, p.2)
    else none
/-- the open order: what is left in the text's order, and what is known -/
def cutAt (i : Nat) : List Nat → Option (List Nat × List Nat)
  | [] => none
  | j :: r => if j = i then some ([], r) else (cutAt i r).map fun p => (j :: p.1, p.2)
def vgAt (rs : List SR) (i : Nat) : VG := match rs[i]? with
  | some r => r.vg
  | none => { is := [] }
def look (α : Al) (c : Nat) : Sh ⊕ Option Bx := if c % 3 = 0 then .inl (α.slot (c / 3)) else .inr (α.box (c / 3))
def sameG (ops : Array Oper) (o : Oper) (G G' : List Nat) : Bool := match o.guard with
  | none => true
  | some (j, _) => match (ops[j]?).bind (·.dst) with
    | none => true
    | some gs => G.contains gs == G'.contains gs
def isMove (o : Oper) : Bool := match o.op with
  | .move _ => true
  | _ => false
def sameAl (α β : Al) : Bool := decide (α.sl = β.sl) && (α.bx ++ β.bx).all fun p => decide (α.box p.1 = β.box p.1)
def anyR (ops : Array Oper) (rs : List SR) (αf : Al) : Nat → Array Bool → List Nat → Al → List Nat → Bool
  | fuel, listed, rem, α, G =>
    let rd := Region.ready .any ops listed
    if rd.isEmpty then rem.isEmpty && sameAl α αf else
    match fuel with
    | 0 => false
    | fuel + 1 =>
      let st := fun i => match rs[i]?, ops[i]?, cutAt i rem with
        | some r, some o, some (pre, post) => r.lk.all (fun c => decide (look α c = look r.al c)) && sameG ops o G r.G && pre.all (fun j => (vgAt rs j).comm r.vg) &&
            anyR ops rs αf fuel (listed.setIfInBounds i true) (pre ++ post) (r.eff.apF α o.dst) (stepG G o)
        | _, _, _ => false
      match rd.find? (fun i => (ops[i]?).any isMove && Region.free .any ops listed i) with
      | some i => st i
      | none => rd.all st
section
variable {P : Program} {w0 : World} {M : Nat → Prop} {N : Fr} {α α' : Al} {ν ν' : Env} {L : Lay} {a : Act} {w w' : World} {Φ : Funs} {o : Oper} {d : Nat} {E : Eff} {sg : Sigs} {hs : Nat → Nat} {ops : Array Oper} {Q : Exit → Act → World → Prop}
theorem dstOk_ok (h : dstOk N.st o = true) : ∀ d, o.dst = some d → N.W d := by
  intro d hd
  simp only [dstOk, hd, Fr.st, Bool.and_eq_true, decide_eq_true_eq, Bool.not_eq_true'] at h
  exact ⟨of_decide_eq_true h.1, fun hm => by rw [List.contains_iff_mem.2 hm] at h; simp at h⟩
theorem regT_ok (hsims : Sims P w0 M sg Φ) : ∀ (os : List Oper) (i : Nat) {α : Al} {G : List Nat} {ν : Env} {L : Lay} {a : Act} {w : World} {rs : List SR}, (∀ j, j < os.length → ops[i + j]? = os[j]?) → regT P sg N.st hs ops i os α G = some (rs, α') → Rel P w0 M N α ν L a w → GInv G ν a → runGs Φ (rs.map (·.vg)) ν = some ν' →
    (∀ a' w' L', Rel P w0 M N α' ν' L' a' w' → Q .normal a' w') → wpOps P ops Q (List.range' i os.length) a w
  | [], i, α, G, ν, L, a, w, rs, hops, h, R, hG, hv, hQ => by
    simp only [regT, Option.some.injEq, Prod.mk.injEq] at h
    obtain ⟨rfl, rfl⟩ := h
    simp only [List.map_nil, runGs, Option.some.injEq] at hv
    subst hv
    exact hQ a w L R
  | o :: os, i, α, G, ν, L, a, w, rs, hops, h, R, hG, hv, hQ => by
    simp only [regT, apF_eq] at h
    split at h
    · rename_i hd
      simp only [Option.bind_eq_some_iff, Option.map_eq_some_iff, Prod.mk.injEq] at h
      obtain ⟨⟨⟨g, E⟩, lk⟩, h1, ⟨rs', α2⟩, h2, rfl, hα⟩ := h
      simp only at hα
      rw [hα] at h2
      simp only [List.map_cons, runGs, Option.bind_eq_some_iff] at hv
      obtain ⟨ν1, hv1, hv2⟩ := hv
      have hi : ops[i]? = some o := by simpa using hops 0 (by simp)
      rw [List.length_cons, List.range'_succ, wpOps_cons]
      refine stepOp_ok R hG (dstOk_ok hd) hi hsims ⟨lk, h1⟩ hv1 (fun a' w' L' R' hG' => ?_)
      exact regT_ok hsims os (i + 1) (fun j hj => by
        have := hops (j + 1) (by simpa using hj)
        rw [show i + 1 + j = i + (j + 1) by omega]
        simpa using this) h2 R' hG' hv2 hQ
    · cases h
/-- a region of the text's order -/
theorem region_ok {id : Nat} {rs : List SR} (hsims : Sims P w0 M sg Φ) (h : regT P sg N.st hs ops 0 ops.toList α [] = some (rs, α')) (R : Rel P w0 M N α ν L a w) (hv : runGs Φ (rs.map (·.vg)) ν = some ν') (hQ : ∀ a' w' L', Rel P w0 M N α' ν' L' a' w' → Q .normal a' w') :
    (Code.region id ops false).wp P Q a w := by
  refine wp_region ?_
  have := regT_ok (ops := ops) (Q := Q) hsims ops.toList 0 (fun j hj => by simp) h R (fun s hs => by simp at hs) hv hQ
  rw [List.range_eq_range']
  simpa using this

/-! ### open order -/
theorem run_congr {β : Type} {m : RM β} {b : β} {l : List Nat} (h : m.run α = some (b, l)) (hl : ∀ c ∈ l, look α' c = look α c) : m.run α' = some (b, l) := by
  induction m generalizing l with
  | ok x => exact h
  | no => exact h
  | sl s k ih =>
    simp only [RM.run, Option.map_eq_some_iff, Prod.exists, Prod.mk.injEq] at h ⊢
    obtain ⟨b', l', h1, rfl, rfl⟩ := h
    have h2 := hl (sC s) (by simp)
    have e1 : sC s % 3 = 0 := by simp [sC]
    have e2 : sC s / 3 = s := by simp only [sC]; omega
    simp only [look, e1, e2, if_true, Sum.inl.injEq] at h2
    rw [h2]
    exact ⟨b', l', ih _ h1 (fun c hc => hl c (by simp [hc])), rfl, rfl⟩
  | bx u k ih =>
    simp only [RM.run, Option.map_eq_some_iff, Prod.exists, Prod.mk.injEq] at h ⊢
    obtain ⟨b', l', h1, rfl, rfl⟩ := h
    have h2 := hl (bC u) (by simp)
    have e1 : ¬ bC u % 3 = 0 := by simp only [bC]; omega
    have e2 : bC u / 3 = u := by simp only [bC]; omega
    simp only [look, if_neg e1, e2, Sum.inr.injEq] at h2
    rw [h2]
    exact ⟨b', l', ih _ h1 (fun c hc => hl c (by simp [hc])), rfl, rfl⟩
theorem cutAt_ok {i : Nat} : ∀ {l pre post : List Nat}, cutAt i l = some (pre, post) → l = pre ++ i :: post
  | [], pre, post, h => by cases h
  | j :: r, pre, post, h => by
    simp only [cutAt] at h
    split at h
    · rename_i hj; cases h; rw [hj]; rfl
    · simp only [Option.map_eq_some_iff, Prod.exists, Prod.mk.injEq] at h
      obtain ⟨p1, p2, h1, rfl, rfl⟩ := h
      rw [cutAt_ok h1]; rfl
theorem stepOp_sameG {k : Nat} {G G' : List Nat} (h : sameG ops o G G' = true) : stepOp P sg k ops G o = stepOp P sg k ops G' o := by
  unfold stepOp
  unfold sameG at h
  cases hg : o.guard with
  | none => rfl
  | some p =>
    obtain ⟨j, want⟩ := p
    simp only [hg] at h ⊢
    cases hj : (ops[j]?).bind (·.dst) with
    | none => rfl
    | some gs =>
      simp only [hj, beq_iff_eq] at h
      simp only [hj, h]
theorem sameAl_ok (h : sameAl α α' = true) : (∀ s, α.slot s = α'.slot s) ∧ ∀ u, α.box u = α'.box u := by
  simp only [sameAl, Bool.and_eq_true, decide_eq_true_eq, List.all_eq_true] at h
  refine ⟨fun s => by simp only [Al.slot, h.1], fun u => ?_⟩
  have hl : ∀ (l : List (Nat × Bx)), (∀ x, (u, x) ∉ l) → lookB l u = none := by
    intro l
    induction l with
    | nil => intro _; rfl
    | cons p l ih =>
      intro hn
      obtain ⟨v, x⟩ := p
      have hv : v ≠ u := fun e => hn x (by rw [e]; exact List.mem_cons_self)
      simp only [lookB, if_neg hv]
      exact ih (fun x hx => hn x (List.mem_cons_of_mem _ hx))
  by_cases hu : ∃ x, (u, x) ∈ α.bx ++ α'.bx
  · obtain ⟨x, hx⟩ := hu
    exact h.2 _ hx
  · have hu' : ∀ x, (u, x) ∉ α.bx ++ α'.bx := fun x hx => hu ⟨x, hx⟩
    rw [Al.box, Al.box, hl _ (fun x hx => hu' x (List.mem_append_left _ hx)), hl _ (fun x hx => hu' x (List.mem_append_right _ hx))]
theorem Rel.congr (R : Rel P w0 M N α ν L a w) (h1 : ∀ s, α.slot s = α'.slot s) (h2 : ∀ u, α.box u = α'.box u) : Rel P w0 M N α' ν L a w :=
  ⟨R.nt, R.nd, R.kp, R.fs, R.sl, fun s => by rw [← h1]; exact R.slots s, R.rows, fun u b ro hu x hx => R.boxes u b ro hu x (by rw [h2]; exact hx), R.rowmine, R.boxmine, R.boxro, R.rr, R.rb, R.bb⟩
/-- each operation's telling -/
def Told (P : Program) (sg : Sigs) (N : Nat × List Nat) (hs : Nat → Nat) (ops : Array Oper) (rs : List SR) : Prop := ∀ (i : Nat) (r : SR) (o : Oper), rs[i]? = some r → ops[i]? = some o → dstOk N o = true ∧ (stepOp P sg (hs i) ops r.G o).run r.al = some ((r.vg, r.eff), r.lk)
theorem anyR_ok {rs : List SR} {αf : Al} (hsims : Sims P w0 M sg Φ) (htold : Told P sg N.st hs ops rs) (hsel : Region.noSelect ops = true) (hp : ∀ c a w, ¬ Q (.panic c) a w) (hQ : ∀ a' w' L', Rel P w0 M N αf ν' L' a' w' → Q .normal a' w') :
    ∀ (fuel : Nat) (listed : Array Bool) (rem : List Nat) (α : Al) (G : List Nat) (ν : Env) (L : Lay) (a : Act) (w : World), anyR ops rs αf fuel listed rem α G = true → Rel P w0 M N α ν L a w → GInv G ν a → runGs Φ (rem.map (vgAt rs)) ν = some ν' → wpAny P .any ops Q fuel listed a w := by
  intro fuel
  have fin : ∀ (fuel : Nat) (listed : Array Bool) (rem : List Nat) (α : Al) (ν : Env) (L : Lay) (a : Act) (w : World), (Region.ready .any ops listed).isEmpty = true → (rem.isEmpty && sameAl α αf) = true → Rel P w0 M N α ν L a w → runGs Φ (rem.map (vgAt rs)) ν = some ν' → wpAny P .any ops Q fuel listed a w := by
    intro fuel listed rem α ν L a w h1 h2 R hv
    simp only [Bool.and_eq_true, List.isEmpty_iff] at h2 h1
    obtain ⟨h2, h3⟩ := h2
    subst h2
    simp only [List.map_nil, runGs, Option.some.injEq] at hv
    subst hv
    obtain ⟨h4, h5⟩ := sameAl_ok h3
    exact wpAny_done h1 (hQ a w L (R.congr h4 h5)) fuel
  induction fuel with
  | zero =>
    intro listed rem α G ν L a w h R hG hv
    unfold anyR at h
    simp only at h
    split at h
    · rename_i h1; exact fin 0 listed rem α ν L a w h1 h R hv
    · cases h
  | succ fuel ih =>
    intro listed rem α G ν L a w h R hG hv
    unfold anyR at h
    simp only at h
    split at h
    · rename_i h1; exact fin (fuel + 1) listed rem α ν L a w h1 h R hv
    · rename_i h1
      have step : ∀ i, (match rs[i]?, ops[i]?, cutAt i rem with
          | some r, some o, some (pre, post) => r.lk.all (fun c => decide (look α c = look r.al c)) && sameG ops o G r.G && pre.all (fun j => (vgAt rs j).comm r.vg) &&
              anyR ops rs αf fuel (listed.setIfInBounds i true) (pre ++ post) (r.eff.apF α o.dst) (stepG G o)
          | _, _, _ => false) = true → ∃ o g E ν1, ops[i]? = some o ∧ (∀ d, o.dst = some d → N.W d) ∧ RM.out α (stepOp P sg (hs i) ops G o) (g, E) ∧ g.run Φ ν = some ν1 ∧
            ∀ a' w' L', Rel P w0 M N (E.ap α o.dst) ν1 L' a' w' → GInv (stepG G o) ν1 a' → wpAny P .any ops Q fuel (listed.setIfInBounds i true) a' w' := by
        intro i hst
        split at hst
        · rename_i r o pre post hr ho hcut
          simp only [Bool.and_eq_true, List.all_eq_true, decide_eq_true_eq] at hst
          obtain ⟨⟨⟨hl, hsg⟩, hcm⟩, hrec⟩ := hst
          rw [apF_eq] at hrec
          obtain ⟨hd, hrun⟩ := htold i r o hr ho
          have hrun' := run_congr hrun (α' := α) hl
          rw [← stepOp_sameG hsg] at hrun'
          rw [cutAt_ok hcut] at hv
          simp only [List.map_append, List.map_cons] at hv
          have hvg : vgAt rs i = r.vg := by simp [vgAt, hr]
          rw [hvg] at hv
          obtain ⟨ν1, h2, h3⟩ := runGs_take (by rw [List.all_map, List.all_eq_true]; exact hcm) hv
          rw [← List.map_append] at h3
          exact ⟨o, r.vg, r.eff, ν1, ho, dstOk_ok hd, ⟨_, hrun'⟩, h2, fun a' w' L' R' hG' => ih _ _ _ _ _ _ _ _ hrec R' hG' h3⟩
        · cases hst
      split at h
      · rename_i i hf
        obtain ⟨o, g, E, ν1, ho, hd, hout, hrun, hK⟩ := step i h
        have h2 := List.find?_some hf
        have h3 := List.mem_of_find?_eq_some hf
        simp only [ho, Option.any_some, Bool.and_eq_true] at h2
        obtain ⟨hm, hfree⟩ := h2
        unfold isMove at hm
        split at hm
        · rename_i x hx
          obtain ⟨v, hy, hk⟩ := stepOp_move (K := wpAny P .any ops Q fuel (listed.setIfInBounds i true)) (Q := Q) R hG hd hx hsims hout hrun hK
          exact wpAny_take ho hsel hfree (by simpa using h3) (fun c a w h => (hp c _ _ h).elim) hy hk
        · cases hm
      · refine wpAny_all rfl (fun e => h1 (by rw [e]; rfl)) (fun i hi => ?_)
        obtain ⟨o, g, E, ν1, ho, hd, hout, hrun, hK⟩ := step i (List.all_eq_true.1 h i hi)
        exact stepOp_ok R hG hd ho hsims hout hrun hK
theorem regT_told : ∀ (os : List Oper) (i : Nat) {α β : Al} {G : List Nat} {rs : List SR}, regT P sg N.st hs ops i os α G = some (rs, β) → rs.length = os.length ∧ ∀ (j : Nat) (r : SR) (o : Oper), rs[j]? = some r → os[j]? = some o → dstOk N.st o = true ∧ (stepOp P sg (hs (i + j)) ops r.G o).run r.al = some ((r.vg, r.eff), r.lk)
  | [], i, α, β, G, rs, h => by
    simp only [regT, Option.some.injEq, Prod.mk.injEq] at h
    obtain ⟨rfl, _⟩ := h
    exact ⟨rfl, fun j r o hr => by simp at hr⟩
  | o :: os, i, α, β, G, rs, h => by
    simp only [regT, apF_eq] at h
    split at h
    · rename_i hd
      simp only [Option.bind_eq_some_iff, Option.map_eq_some_iff, Prod.mk.injEq] at h
      obtain ⟨⟨⟨g, E⟩, lk⟩, h1, ⟨rs', α2⟩, h2, rfl, hα⟩ := h
      obtain ⟨h3, h4⟩ := regT_told os (i + 1) h2
      refine ⟨by simp [h3], fun j r o' hr ho => ?_⟩
      cases j with
      | zero =>
        simp only [List.getElem?_cons_zero, Option.some.injEq] at hr ho
        subst hr ho
        exact ⟨hd, h1⟩
      | succ j =>
        have := h4 j r o' (by simpa using hr) (by simpa using ho)
        rw [show i + 1 + j = i + (j + 1) by omega] at this
        exact this
    · cases h
theorem Rel.drew (R : Rel P w0 M N α ν L a w) : ∃ L', Rel P w0 M N α ν L' a w.drew := by
  have := R.callStep (w' := w.drew) (ν' := ν) (ks := []) (gv := fun _ => False) (nr := fun _ => none) (nb := fun _ => none) (cb := fun _ => False) (F' := L.F) (l := []) {
    hw := WStep.drew w _
    hgv := fun t h => h.elim
    F := fun b h => h
    hF' := fun b h => .inl h
    νs := fun _ => rfl
    νt := fun _ _ => rfl
    νb := fun _ _ _ => rfl
    rows := fun t r _ h => by cases h
    rowb := fun t r b _ h => by cases h
    boxb := fun u b _ h => by cases h
    hcb := fun u h => h.elim
    boxes := fun u x b ro h => by cases h
    rr := fun t t' r r' b _ _ h => by cases h
    rb := fun t r u b _ _ h => by cases h
    bb := fun u u' b _ _ h => by cases h }
  rw [Al.sk_nil] at this
  exact ⟨_, this⟩
/-- a region of open order -/
theorem region_any_ok {id : Nat} {rs : List SR} (hsims : Sims P w0 M sg Φ) (hm : P.follows .mixedOrders = true) (h : regT P sg N.st hs ops 0 ops.toList α [] = some (rs, α')) (hany : anyR ops rs α' ops.size (Array.replicate ops.size false) (List.range ops.size) α [] = true) (hsel : Region.noSelect ops = true)
    (R : Rel P w0 M N α ν L a w) (hv : runGs Φ (rs.map (·.vg)) ν = some ν') (hp : ∀ c a w, ¬ Q (.panic c) a w) (hQ : ∀ a' w' L', Rel P w0 M N α' ν' L' a' w' → Q .normal a' w') : (Code.region id ops true).wp P Q a w := by
  obtain ⟨L1, R1⟩ := R.drew
  obtain ⟨hlen, ht⟩ := regT_told ops.toList 0 h
  refine wp_region_any hm (anyR_ok hsims (rs := rs) (sg := sg) (hs := hs) (N := N) (fun i r o hr ho => ?_) hsel hp hQ _ _ _ _ _ _ _ _ _ hany R1 (fun s hs => by simp at hs) ?_)
  · have := ht i r o hr (by simpa using ho)
    rw [Nat.zero_add] at this
    exact this
  · have : (List.range ops.size).map (vgAt rs) = rs.map (·.vg) := by
      apply List.ext_getElem
      · simp [hlen]
      · intro i h1 h2
        have hi : i < rs.length := by simpa using h2
        simp [vgAt, hi]
    rw [this]; exact hv
end
end Go.Proofs.YtogfkdpgkloljaaDoorVs
