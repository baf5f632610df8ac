/-
  Code as a whole comes to what its translation says. Conditions: each lemma's own premises.
-/
import Derived.Test.YtogfkdpgkloljaaDoorVtF
import Derived.LoopN
set_option linter.unusedVariables false
set_option linter.unusedSimpArgs false
namespace Go.Proofs.YtogfkdpgkloljaaDoorVs
section
variable {P : Program} {w0 : World} {M : Nat → Prop} {N : Fr} {α α' β : Al} {ν ν' : Env} {L : Lay} {a : Act} {w w' : World} {Φ : Funs}

/-! ### rows change their names -/
theorem swN_swN (t u x : Nat) : swN t u (swN t u x) = x := by
  unfold swN
  by_cases h1 : x = t
  · subst h1
    by_cases h2 : u = x
    · simp [h2]
    · simp [h2]
  · by_cases h2 : x = u
    · subst h2; simp [h1]
    · simp [h1, h2]
def Lay.sw (L : Lay) (t u : Nat) : Lay := { L with row := fun x => L.row (swN t u x) }
theorem src_sw (L : Lay) (t u : Nat) (s : Src) : (L.sw t u).src (s.sw t u) = L.src s := by
  cases s with
  | of x => funext b; simp only [Src.sw, Lay.src, Lay.sw, swN_swN]
  | _ => rfl
theorem RA.sw (t u : Nat) {x : At} {v : V} {c : Value} (h : RA P L w x v c) : RA P (L.sw t u) w (x.sw t u) v c := by
  rcases h with h | h
  · exact .inl h
  right
  cases x with
  | v s => simp only [At.sw, src_sw]; exact h
  | own y =>
    obtain ⟨h1, r, h2, h3⟩ := h
    exact ⟨h1, r, by simp only [Lay.sw, swN_swN]; exact h2, h3⟩
  | elt y j =>
    obtain ⟨r, i, b, o, n, cap, sz, h1, h2⟩ := h
    exact ⟨r, i, b, o, n, cap, sz, by simp only [Lay.sw, swN_swN]; exact h1, h2⟩
  | iel s j => simp only [At.sw, src_sw]; exact h
  | _ => exact h
theorem RAs.sw (t u : Nat) {as : List At} {xs : List V} {cs : List Value} (h : RAs P L w as xs cs) : RAs P (L.sw t u) w (as.map (At.sw t u)) xs cs :=
  ⟨by simpa using h.1, by simpa using h.2.1, fun i h0 h1 h2 => by
    have hi : i < as.length := by simpa using h0
    have := (h.2.2 i hi h1 h2).sw t u
    simpa using this⟩
theorem RPart.sw (t u : Nat) {p : Bool × List At} {xs : List V} {c : Value} (h : RPart P L w p xs c) : RPart P (L.sw t u) w (p.1, p.2.map (At.sw t u)) xs c := by
  obtain ⟨b, as⟩ := p
  cases b with
  | false => exact RAs.sw t u h
  | true => obtain ⟨cs, h1, h2⟩ := h; exact ⟨cs, h1, h2.sw t u⟩
theorem RParts.sw (t u : Nat) : ∀ {ps : List (Bool × List At)} {xs : List V} {cs : List Value}, RParts P L w ps xs cs → RParts P (L.sw t u) w (ps.map fun p => (p.1, p.2.map (At.sw t u))) xs cs
  | [], xs, cs, h => h
  | p :: ps, xs, cs, ⟨x1, x2, c, c2, h1, h2, h3, h4⟩ => ⟨x1, x2, c, c2, h1, h2, h3.sw t u, RParts.sw t u h4⟩
theorem RSl.sw (t u : Nat) {h : Sh} {xs : List V} {c : Value} (H : RSl P L w h xs c) : RSl P (L.sw t u) w (h.map (At.sw t u)) xs c := by
  cases h with
  | one x =>
    cases x with
    | dead => trivial
    | gone k => trivial
    | _ => exact RSl.one (by have := RAs.sw t u H; simpa using this)
  | agg as => obtain ⟨cs, h1, h2⟩ := H; exact ⟨cs, h1, h2.sw t u⟩
  | tup ps => obtain ⟨cs, h1, h2⟩ := H; exact ⟨cs, h1, RParts.sw t u h2⟩
theorem BoxOK.sw (t u : Nat) {b : Nat} {as : List At} {xs : List V} (h : BoxOK P L w b as xs) : BoxOK P (L.sw t u) w b (as.map (At.sw t u)) xs := by
  obtain ⟨C, ty, fz, h1, h2, h3⟩ := h.cells
  exact ⟨C, ty, fz, h1, h2, h3.sw t u⟩
theorem sw_off (t u : Nat) {c : Nat} (h : c % 3 ≠ 2) : (ν.sw t u) c = ν c := by
  unfold Env.sw
  rw [if_neg (by rintro rfl; simp only [tC] at h; omega), if_neg (by rintro rfl; simp only [tC] at h; omega)]
theorem sw_tC (t u x : Nat) : (ν.sw t u) (tC x) = ν (tC (swN t u x)) := by
  unfold Env.sw swN
  by_cases h1 : x = t
  · subst h1; simp
  · by_cases h2 : x = u
    · subst h2
      rw [if_neg (fun e => h1 (tC_inj e)), if_pos rfl, if_neg h1, if_pos rfl]
    · rw [if_neg (fun e => h1 (tC_inj e)), if_neg (fun e => h2 (tC_inj e)), if_neg h1, if_neg h2]
theorem Rel.sw (R : Rel P w0 M N α ν L a w) (t u : Nat) : Rel P w0 M N (α.sw t u) (ν.sw t u) (L.sw t u) a w where
  nt := R.nt
  nd := R.nd
  kp := R.kp
  fs := R.fs
  sl := R.sl
  slots s := by
    rw [Al.sw, slot_map _ rfl, sw_off t u (by simp only [sC]; omega)]
    exact (R.slots s).sw t u
  rows x r h := by rw [sw_tC]; exact R.rows _ r h
  boxes v b ro h x hx := by
    rw [Al.sw, box_map] at hx
    obtain ⟨y, hy, rfl⟩ := Option.map_eq_some_iff.1 hx
    rw [sw_off t u (by simp only [bC]; omega)]
    obtain ⟨h1, h2⟩ := R.boxes v b ro h y hy
    exact ⟨h1, h2.sw t u⟩
  rowmine x r b h hb := R.rowmine _ r b h hb
  boxmine := R.boxmine
  boxro := R.boxro
  rr x y r r' b h h' hb hb' := by
    have := R.rr _ _ r r' b h h' hb hb'
    rw [← swN_swN t u x, this, swN_swN]
  rb x r v b ro h hb hv := R.rb _ r v b ro h hb hv
  bb := R.bb
def swE : List (Nat × Nat) → Env → Env
  | [], ν => ν
  | p :: r, ν => swE r (ν.sw p.1 p.2)
theorem swE_append : ∀ (l m : List (Nat × Nat)) (ν : Env), swE (l ++ m) ν = swE m (swE l ν)
  | [], _, _ => rfl
  | p :: r, m, ν => swE_append r m _
theorem rens_run {n : Nat} : ∀ (l : List (Nat × Nat)) (c : VC) (f : Env → Option Env), (∀ ν, c.run Φ n ν = (f ν).map .norm) → ∀ ν, (rens c l).run Φ n ν = (f ν).map fun ν1 => .norm (swE l ν1)
  | [], c, f, h, ν => h ν
  | p :: r, c, f, h, ν => by
    rw [rens, rens_run r (.seq c (.ren p.1 p.2)) (fun ν => (f ν).map (·.sw p.1 p.2)) (fun ν => by
      simp only [VC.run, h]
      cases f ν <;> rfl) ν]
    cases f ν <;> rfl
theorem canonSs_ok (ss : List Nat) : ∀ (n : Nat) {α : Al} {ν : Env} {L : Lay}, Rel P w0 M N α ν L a w → ∃ L', Rel P w0 M N (canonSs n ss α).2 (swE (canonSs n ss α).1 ν) L' a w
  | 0, α, ν, L, R => ⟨L, R⟩
  | n + 1, α, ν, L, R => by
    unfold canonSs
    split
    · exact ⟨L, R⟩
    · exact canonSs_ok ss n (R.sw _ _)
theorem canonBs_ok : ∀ (n : Nat) {α : Al} {ν : Env} {L : Lay}, Rel P w0 M N α ν L a w → ∃ L', Rel P w0 M N (canonBs n α).2 (swE (canonBs n α).1 ν) L' a w
  | 0, α, ν, L, R => ⟨L, R⟩
  | n + 1, α, ν, L, R => by
    unfold canonBs
    split
    · exact ⟨L, R⟩
    · exact canonBs_ok n (R.sw _ _)
theorem canon_ok (ops : List Oper) (R : Rel P w0 M N α ν L a w) : ∃ L', Rel P w0 M N (canon ops α).2 (swE (canon ops α).1 ν) L' a w := by
  unfold canon
  obtain ⟨L1, R1⟩ := canonSs_ok (assigned ops) 16 R
  obtain ⟨L2, R2⟩ := canonBs_ok 16 R1
  exact ⟨L2, by rw [swE_append]; exact R2⟩

/-! ### what holds behind a code -/
def Post (P : Program) (w0 : World) (M : Nat → Prop) (N : Fr) (RT : List (List V) → Act → World → Prop) (nm : Option Al) (ex : List (Nat × Al)) : Out → Exit → Act → World → Prop
  | .norm ν', .normal, a, w => ∃ β L', nm = some β ∧ Rel P w0 M N β ν' L' a w
  | .exit id ν', .exit id', a, w => id' = id ∧ ∃ β L', (id, β) ∈ ex ∧ Rel P w0 M N β ν' L' a w
  | .ret raw, .ret, a, w => RT raw a w
  | _, _, _, _ => False
variable {RT : List (List V) → Act → World → Prop}
theorem Post.mono {nm nm' : Option Al} {ex ex' : List (Nat × Al)} {out : Out} {e : Exit} (h : Post P w0 M N RT nm ex out e a w) (hn : leO nm nm' = true) (he : ∀ p ∈ ex, p ∈ ex') : Post P w0 M N RT nm' ex' out e a w := by
  cases out with
  | norm ν' =>
    cases e <;> first | exact h.elim | skip
    obtain ⟨β, L', rfl, R⟩ := h
    cases nm' with
    | none => cases hn
    | some γ => exact ⟨γ, L', rfl, R.le hn⟩
  | exit id ν' =>
    cases e <;> first | exact h.elim | skip
    obtain ⟨h1, β, L', h2, R⟩ := h
    exact ⟨h1, β, L', he _ h2, R⟩
  | ret raw =>
    cases e <;> first | exact h.elim | exact h
theorem Post.exm {nm : Option Al} {ex ex' : List (Nat × Al)} {out : Out} {e : Exit} (h : Post P w0 M N RT nm ex out e a w) (he : ∀ p ∈ ex, p ∈ ex') : Post P w0 M N RT nm ex' out e a w := by
  cases out with
  | norm ν' => cases e <;> first | exact h.elim | exact h
  | exit id ν' =>
    cases e <;> first | exact h.elim | skip
    obtain ⟨h1, β, L', h2, R⟩ := h
    exact ⟨h1, β, L', he _ h2, R⟩
  | ret raw => cases e <;> first | exact h.elim | exact h
theorem fixL_ok {body : Al → Option CR} : ∀ (n : Nat) {β0 β : Al} {r : CR}, fixL body n β0 = some (r, β) → body β = some r ∧ (r.nm = none ∨ ∃ α1, r.nm = some α1 ∧ leAl α1 β = true)
  | 0, _, _, _, h => by cases h
  | n + 1, β0, β, r, h => by
    simp only [fixL, Option.bind_eq_some_iff] at h
    obtain ⟨r0, h1, h2⟩ := h
    split at h2
    · rename_i hn
      cases h2
      exact ⟨h1, .inl hn⟩
    · rename_i α1 hn
      split at h2
      · rename_i hl
        cases h2
        exact ⟨h1, .inr ⟨α1, hn, hl⟩⟩
      · exact fixL_ok n h2
theorem orStuck_run {o : Option CR} {n : Nat} {ν : Env} {out : Out} (h : (orStuck o).code.run Φ n ν = some out) : ∃ r, o = some r ∧ orStuck o = r := by
  cases o with
  | none => simp [orStuck, VC.run] at h
  | some r => exact ⟨r, rfl, rfl⟩
theorem compR_ok {sg : Sigs} {hs : Nat → Nat → Nat} {rt : Al → Option VI} (hsims : Sims P w0 M sg Φ) (hm : P.follows .mixedOrders = true) {n id : Nat} {ops : Array Oper} {dr : Bool} {r : CR} {out : Out}
    (h : compR ⟨P, sg, N.st, hs, rt⟩ id ops dr α = some r) (R : Rel P w0 M N α ν L a w) (hv : r.code.run Φ n ν = some out) : (Code.region id ops dr).wp P (Post P w0 M N RT r.nm r.ex out) a w := by
  simp only [compR, Option.bind_eq_some_iff] at h
  obtain ⟨⟨rs, α1⟩, h1, h⟩ := h
  have key : ∀ {r : CR}, some (CR.mk (rens (.ins (rs.map (·.vg))) (canon ops.toList α1).1) (some (canon ops.toList α1).2) []) = some r → r.code.run Φ n ν = some out → ∃ ν1, runGs Φ (rs.map (·.vg)) ν = some ν1 ∧
      ∀ a' w' L', Rel P w0 M N α1 ν1 L' a' w' → Post P w0 M N RT r.nm r.ex out .normal a' w' := by
    intro r hr hv
    cases hr
    have := rens_run (n := n) (canon ops.toList α1).1 (.ins (rs.map (·.vg))) (fun ν => runGs Φ (rs.map (·.vg)) ν) (fun ν => rfl) ν
    rw [this, Option.map_eq_some_iff] at hv
    obtain ⟨ν1, h2, rfl⟩ := hv
    refine ⟨ν1, h2, fun a' w' L' R' => ?_⟩
    obtain ⟨L2, R2⟩ := canon_ok ops.toList R'
    exact ⟨_, L2, rfl, R2⟩
  cases dr with
  | true =>
    simp only [if_true] at h
    split at h
    · rename_i hb
      rw [Bool.and_eq_true] at hb
      obtain ⟨ν1, h2, h3⟩ := key h hv
      exact region_any_ok hsims hm h1 hb.1 hb.2 R h2 (fun c a w hp => by cases out <;> exact hp) h3
    · cases h
  | false =>
    simp only [Bool.false_eq_true, if_false] at h
    obtain ⟨ν1, h2, h3⟩ := key h hv
    exact region_ok hsims h1 R h2 h3
theorem comp_ok {sg : Sigs} {hs : Nat → Nat → Nat} {rt : Al → Option VI} (hsims : Sims P w0 M sg Φ) (hm : P.follows .mixedOrders = true) {n : Nat}
    (hrt : ∀ (α : Al) (i : VI) (ν : Env) (L : Lay) (a : Act) (w : World) (out : Out), rt α = some i → Rel P w0 M N α ν L a w → (VC.ret i).run Φ n ν = some out → ∃ raw, out = .ret raw ∧ RT raw a w) :
    ∀ (c : Code) {α : Al} {r : CR} {ν : Env} {L : Lay} {a : Act} {w : World} {out : Out}, comp ⟨P, sg, N.st, hs, rt⟩ c α = some r → Rel P w0 M N α ν L a w → r.code.run Φ n ν = some out → c.wp P (Post P w0 M N RT r.nm r.ex out) a w := by
  intro c
  induction c with
  | skip =>
    intro α r ν L a w out h R hv
    simp only [comp, Option.some.injEq] at h
    subst h
    simp only [VC.run, runGs, Option.map_some, Option.some.injEq] at hv
    subst hv
    exact wp_skip ⟨_, L, rfl, R⟩
  | label l =>
    intro α r ν L a w out h R hv
    simp only [comp, Option.some.injEq] at h
    subst h
    simp only [VC.run, runGs, Option.map_some, Option.some.injEq] at hv
    subst hv
    exact wp_label ⟨_, L, rfl, R⟩
  | region id ops dr =>
    intro α r ν L a w out h R hv
    exact compR_ok hsims hm h R hv
  | seq x y ihx ihy =>
    intro α r ν L a w out h R hv
    simp only [comp, Option.bind_eq_some_iff] at h
    obtain ⟨r1, h1, h⟩ := h
    split at h
    · rename_i hn
      cases h
      refine wp_seq (wp_mono (ihx h1 R hv) fun e a' w' hp => ?_)
      cases out with
      | norm ν' =>
        cases e <;> first | exact hp.elim | skip
        obtain ⟨β, L', hb, _⟩ := hp
        rw [hn] at hb; cases hb
      | exit id ν' => cases e <;> first | exact hp.elim | exact hp
      | ret raw => cases e <;> first | exact hp.elim | exact hp
    · rename_i β hn
      cases h
      simp only [VC.run, Option.bind_eq_some_iff] at hv
      obtain ⟨out1, hv1, hv2⟩ := hv
      refine wp_seq (wp_mono (ihx h1 R hv1) fun e a' w' hp => ?_)
      cases out1 with
      | norm ν' =>
        cases e <;> first | exact hp.elim | skip
        obtain ⟨γ, L', hb, R'⟩ := hp
        rw [hn] at hb; cases hb
        simp only at hv2
        obtain ⟨s, hs1, hs2⟩ := orStuck_run hv2
        rw [hs2] at hv2 ⊢
        show y.wp P _ a' w'
        exact wp_mono (ihy hs1 R' hv2) fun e a w hp => Post.exm hp (fun p hp => List.mem_append_right _ hp)
      | exit id ν' =>
        simp only [Option.some.injEq] at hv2
        subst hv2
        cases e <;> first | exact hp.elim | skip
        obtain ⟨h2, γ, L', h3, R'⟩ := hp
        exact ⟨h2, γ, L', List.mem_append_left _ h3, R'⟩
      | ret raw =>
        simp only [Option.some.injEq] at hv2
        subst hv2
        cases e <;> first | exact hp.elim | exact hp
  | cond k x y ihx ihy =>
    intro α r ν L a w out h R hv
    simp only [comp] at h
    split at h
    · rename_i t
      split at h
      · rename_i s hsl
        split at h
        · rename_i hle
          rw [Bool.and_eq_true] at hle
          cases h
          have H := R.slots t
          rw [hsl] at H
          obtain ⟨z, hz, hr⟩ := RAs.single H
          simp only [VC.run, hz] at hv
          split at hv
          · rename_i b hb
            have hb' : z = .bool b := by simpa using hb
            subst hb'
            rcases hr with hr | hr
            · cases hr
            have hc : a.eval (.tmp t) = .bool b := by
              generalize hg : a.tmps.getD t undef = c at hr
              have : a.eval (.tmp t) = c := hg
              rw [this]; cases hr; rfl
            refine wp_cond hc ?_
            cases b with
            | true =>
              simp only [if_true] at hv ⊢
              obtain ⟨s, hs1, hs2⟩ := orStuck_run hv
              rw [hs2] at hv
              refine wp_mono (ihx hs1 R hv) fun e a w hp => Post.mono hp ?_ (fun p hp => List.mem_append_left _ (by rw [hs2]; exact hp))
              exact Eq.mp (congrArg (fun z : CR => leO z.nm (meetO (orStuck (comp ⟨P, sg, N.st, hs, rt⟩ x α)).nm (orStuck (comp ⟨P, sg, N.st, hs, rt⟩ y α)).nm) = true) hs2) hle.1
            | false =>
              simp only [Bool.false_eq_true, if_false] at hv ⊢
              obtain ⟨s, hs1, hs2⟩ := orStuck_run hv
              rw [hs2] at hv
              refine wp_mono (ihy hs1 R hv) fun e a w hp => Post.mono hp ?_ (fun p hp => List.mem_append_right _ (by rw [hs2]; exact hp))
              exact Eq.mp (congrArg (fun z : CR => leO z.nm (meetO (orStuck (comp ⟨P, sg, N.st, hs, rt⟩ x α)).nm (orStuck (comp ⟨P, sg, N.st, hs, rt⟩ y α)).nm) = true) hs2) hle.2
          · cases hv
        · cases h
      · cases h
    · rename_i b
      have hc : a.eval (.const (.bool b)) = .bool b := rfl
      refine wp_cond hc ?_
      cases b with
      | true => simp only [if_true] at h ⊢; exact ihx h R hv
      | false => simp only [Bool.false_eq_true, if_false] at h ⊢; exact ihy h R hv
    · cases h
  | block id b ih =>
    intro α r ν L a w out h R hv
    simp only [comp, Option.bind_eq_some_iff] at h
    obtain ⟨r1, h1, h⟩ := h
    split at h
    · rename_i hle
      rw [Bool.and_eq_true] at hle
      cases h
      simp only [VC.run, Option.map_eq_some_iff] at hv
      obtain ⟨out1, hv1, hv2⟩ := hv
      refine wp_block (wp_mono (ih h1 R hv1) fun e a' w' hp => ?_)
      cases out1 with
      | norm ν' =>
        simp only at hv2
        subst hv2
        cases e <;> first | exact hp.elim | skip
        obtain ⟨γ, L', hb, R'⟩ := hp
        exact Post.mono (RT := RT) (nm := r1.nm) (ex := []) (ex' := r1.ex.filter (·.1 != id)) (out := .norm ν') (e := .normal) ⟨γ, L', hb, R'⟩ hle.1 (by simp)
      | exit j ν' =>
        cases e <;> first | exact hp.elim | skip
        obtain ⟨rfl, γ, L', h3, R'⟩ := hp
        simp only at hv2
        rename_i j
        by_cases hj : j = id
        · subst hj
          rw [if_pos rfl] at hv2
          subst hv2
          simp only [Exit.inBlock, if_true]
          have h4 := List.all_eq_true.1 hle.2 _ h3
          simp only [bne_self_eq_false, Bool.false_or] at h4
          exact Post.mono (RT := RT) (nm := some γ) (ex := []) (ex' := r1.ex.filter (·.1 != j)) (out := .norm ν') (e := .normal) ⟨γ, L', rfl, R'⟩ h4 (by simp)
        · rw [if_neg hj] at hv2
          subst hv2
          simp only [Exit.inBlock, if_neg hj]
          exact ⟨rfl, γ, L', List.mem_filter.2 ⟨h3, by simpa using hj⟩, R'⟩
      | ret raw =>
        simp only at hv2
        subst hv2
        cases e <;> first | exact hp.elim | exact hp
    · cases h
  | loop b ih =>
    intro α r ν L a w out h R hv
    simp only [comp, Option.bind_eq_some_iff] at h
    obtain ⟨⟨r1, β⟩, h1, h⟩ := h
    split at h
    · rename_i hle
      cases h
      simp only at hle hv ⊢
      obtain ⟨h2, h3⟩ := fixL_ok 5 h1
      simp only [VC.run] at hv
      refine wp_loop_rounds n ?_
      have key : ∀ (k : Nat) (ν : Env) (L : Lay) (a : Act) (w : World), Rel P w0 M N β ν L a w → loopN (r1.code.run Φ n) k ν = some out → Code.rounds P b (Post P w0 M N RT none r1.ex out) k a w := by
        intro k
        induction k with
        | zero => intro ν L a w R hv; cases hv
        | succ k ihk =>
          intro ν L a w R hv
          simp only [loopN, Option.bind_eq_some_iff] at hv
          obtain ⟨out1, hv1, hv2⟩ := hv
          rw [rounds_succ]
          refine wp_mono (ih h2 R hv1) fun e a' w' hp => ?_
          cases out1 with
          | norm ν' =>
            cases e <;> first | exact hp.elim | skip
            obtain ⟨γ, L', hb, R'⟩ := hp
            simp only at hv2
            rcases h3 with h3 | ⟨α1, h3, h4⟩
            · rw [h3] at hb; cases hb
            · rw [h3] at hb; cases hb
              exact ihk ν' L' a' w' (R'.le h4) hv2
          | exit id ν' =>
            simp only [Option.some.injEq] at hv2
            subst hv2
            cases e <;> first | exact hp.elim | exact hp
          | ret raw =>
            simp only [Option.some.injEq] at hv2
            subst hv2
            cases e <;> first | exact hp.elim | exact hp
      exact key n ν L a w (R.le hle) hv
    · cases h
  | exit id =>
    intro α r ν L a w out h R hv
    simp only [comp, Option.some.injEq] at h
    subst h
    simp only [VC.run, Option.some.injEq] at hv
    subst hv
    exact wp_exit ⟨rfl, _, L, List.mem_singleton.2 rfl, R⟩
  | ret =>
    intro α r ν L a w out h R hv
    simp only [comp, Option.map_eq_some_iff] at h
    obtain ⟨i, h1, rfl⟩ := h
    obtain ⟨raw, rfl, h2⟩ := hrt α i ν L a w out h1 R hv
    exact wp_ret h2
  | _ =>
    intro α r ν L a w out h R hv
    simp only [comp] at h
    cases h
end
end Go.Proofs.YtogfkdpgkloljaaDoorVs
