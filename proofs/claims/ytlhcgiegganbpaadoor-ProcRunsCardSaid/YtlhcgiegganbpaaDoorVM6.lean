/-
  Several texts in one: Code as a whole comes to what its translation says. Conditions: each lemma's own premises. | What goes out of a function. Conditions: each lemma's own premises. | A function of the program does what its translation says. Conditions: each lemma's own premises. | A program of values: what its functions answer, whoever calls whom. Conditions: each lemma's own premises. | A code on values, told as a function: definitions. No condition.
-/
import Derived.Test.YtlhcgiegganbpaaDoorVM5
import Derived.LoopN
set_option linter.unusedVariables false
set_option linter.unusedSimpArgs false
namespace Go.Proofs.YtlhcgiegganbpaaDoorVs
section
variable {P : Program} {w0 : World} {M : Nat → Prop} {N : Fr} {α α' β : Al} {ν ν' : Env} {L : Lay} {a : Act} {w w' : World} {Φ : Funs}

/-! ### rows change their names -/
theorem swN_swN (t u x : Nat) : swN t u (swN t u x) = x := by
  unfold swN
  by_cases h1 : x = t
  · subst h1
    by_cases h2 : u = x
    · simp [h2]
    · simp [h2]
  · by_cases h2 : x = u
    · subst h2; simp [h1]
    · simp [h1, h2]
def Lay.sw (L : Lay) (t u : Nat) : Lay := { L with row := fun x => L.row (swN t u x) }
theorem src_sw (L : Lay) (t u : Nat) (s : Src) : (L.sw t u).src (s.sw t u) = L.src s := by
  cases s with
  | of x => funext b; simp only [Src.sw, Lay.src, Lay.sw, swN_swN]
  | _ => rfl
theorem RA.sw (t u : Nat) {x : At} {v : V} {c : Value} (h : RA P L w x v c) : RA P (L.sw t u) w (x.sw t u) v c := by
  rcases h with h | h
  · exact .inl h
  right
  cases x with
  | v s => simp only [At.sw, src_sw]; exact h
  | own y =>
    obtain ⟨h1, r, h2, h3⟩ := h
    exact ⟨h1, r, by simp only [Lay.sw, swN_swN]; exact h2, h3⟩
  | elt y j =>
    obtain ⟨r, i, b, o, n, cap, sz, h1, h2⟩ := h
    exact ⟨r, i, b, o, n, cap, sz, by simp only [Lay.sw, swN_swN]; exact h1, h2⟩
  | iel s j => simp only [At.sw, src_sw]; exact h
  | _ => exact h
theorem RAs.sw (t u : Nat) {as : List At} {xs : List V} {cs : List Value} (h : RAs P L w as xs cs) : RAs P (L.sw t u) w (as.map (At.sw t u)) xs cs :=
  ⟨by simpa using h.1, by simpa using h.2.1, fun i h0 h1 h2 => by
    have hi : i < as.length := by simpa using h0
    have := (h.2.2 i hi h1 h2).sw t u
    simpa using this⟩
theorem RPart.sw (t u : Nat) {p : Bool × List At} {xs : List V} {c : Value} (h : RPart P L w p xs c) : RPart P (L.sw t u) w (p.1, p.2.map (At.sw t u)) xs c := by
  obtain ⟨b, as⟩ := p
  cases b with
  | false => exact RAs.sw t u h
  | true => obtain ⟨cs, h1, h2⟩ := h; exact ⟨cs, h1, h2.sw t u⟩
theorem RParts.sw (t u : Nat) : ∀ {ps : List (Bool × List At)} {xs : List V} {cs : List Value}, RParts P L w ps xs cs → RParts P (L.sw t u) w (ps.map fun p => (p.1, p.2.map (At.sw t u))) xs cs
  | [], xs, cs, h => h
  | p :: ps, xs, cs, ⟨x1, x2, c, c2, h1, h2, h3, h4⟩ => ⟨x1, x2, c, c2, h1, h2, h3.sw t u, RParts.sw t u h4⟩
theorem RSl.sw (t u : Nat) {h : Sh} {xs : List V} {c : Value} (H : RSl P L w h xs c) : RSl P (L.sw t u) w (h.map (At.sw t u)) xs c := by
  cases h with
  | one x =>
    cases x with
    | dead => trivial
    | gone k => trivial
    | _ => exact RSl.one (by have := RAs.sw t u H; simpa using this)
  | agg as => obtain ⟨cs, h1, h2⟩ := H; exact ⟨cs, h1, h2.sw t u⟩
  | ogg as => rcases H with ⟨cs, h1, h2⟩ | H; exact .inl ⟨cs, h1, h2.sw t u⟩; exact .inr H
  | tup ps => obtain ⟨cs, h1, h2⟩ := H; exact ⟨cs, h1, RParts.sw t u h2⟩
theorem BoxOK.sw (t u : Nat) {b : Nat} {as : List At} {xs : List V} (h : BoxOK P L w b as xs) : BoxOK P (L.sw t u) w b (as.map (At.sw t u)) xs := by
  obtain ⟨C, ty, fz, h1, h2, h3⟩ := h.cells
  exact ⟨C, ty, fz, h1, h2, h3.sw t u⟩
theorem sw_off (t u : Nat) {c : Nat} (h : c % 3 ≠ 2) : (ν.sw t u) c = ν c := by
  unfold Env.sw
  rw [if_neg (by rintro rfl; simp only [tC] at h; omega), if_neg (by rintro rfl; simp only [tC] at h; omega)]
theorem sw_tC (t u x : Nat) : (ν.sw t u) (tC x) = ν (tC (swN t u x)) := by
  unfold Env.sw swN
  by_cases h1 : x = t
  · subst h1; simp
  · by_cases h2 : x = u
    · subst h2
      rw [if_neg (fun e => h1 (tC_inj e)), if_pos rfl, if_neg h1, if_pos rfl]
    · rw [if_neg (fun e => h1 (tC_inj e)), if_neg (fun e => h2 (tC_inj e)), if_neg h1, if_neg h2]
theorem Rel.sw (R : Rel P w0 M N α ν L a w) (t u : Nat) : Rel P w0 M N (α.sw t u) (ν.sw t u) (L.sw t u) a w where
  nt := R.nt
  nd := R.nd
  kp := R.kp
  fs := R.fs
  sl := R.sl
  slots s := by
    rw [Al.sw, slot_map _ rfl, sw_off t u (by simp only [sC]; omega)]
    exact (R.slots s).sw t u
  rows x r h := by rw [sw_tC]; exact R.rows _ r h
  boxes v b ro h x hx := by
    rw [Al.sw, box_map] at hx
    obtain ⟨y, hy, rfl⟩ := Option.map_eq_some_iff.1 hx
    rw [sw_off t u (by simp only [bC]; omega)]
    obtain ⟨h1, h2⟩ := R.boxes v b ro h y hy
    exact ⟨h1, h2.sw t u⟩
  rowmine x r b h hb := R.rowmine _ r b h hb
  boxmine := R.boxmine
  boxro := R.boxro
  rr x y r r' b h h' hb hb' := by
    have := R.rr _ _ r r' b h h' hb hb'
    rw [← swN_swN t u x, this, swN_swN]
  rb x r v b ro h hb hv := R.rb _ r v b ro h hb hv
  bb := R.bb
def swE : List (Nat × Nat) → Env → Env
  | [], ν => ν
  | p :: r, ν => swE r (ν.sw p.1 p.2)
theorem swE_append : ∀ (l m : List (Nat × Nat)) (ν : Env), swE (l ++ m) ν = swE m (swE l ν)
  | [], _, _ => rfl
  | p :: r, m, ν => swE_append r m _
theorem rens_run {n : Nat} : ∀ (l : List (Nat × Nat)) (c : VC) (f : Env → Option Env), (∀ ν, c.run Φ n ν = (f ν).map .norm) → ∀ ν, (rens c l).run Φ n ν = (f ν).map fun ν1 => .norm (swE l ν1)
  | [], c, f, h, ν => h ν
  | p :: r, c, f, h, ν => by
    rw [rens, rens_run r (.seq c (.ren p.1 p.2)) (fun ν => (f ν).map (·.sw p.1 p.2)) (fun ν => by
      simp only [VC.run, h]
      cases f ν <;> rfl) ν]
    cases f ν <;> rfl
theorem canonSs_ok (ss : List Nat) : ∀ (n : Nat) {α : Al} {ν : Env} {L : Lay}, Rel P w0 M N α ν L a w → ∃ L', Rel P w0 M N (canonSs n ss α).2 (swE (canonSs n ss α).1 ν) L' a w
  | 0, α, ν, L, R => ⟨L, R⟩
  | n + 1, α, ν, L, R => by
    unfold canonSs
    split
    · exact ⟨L, R⟩
    · exact canonSs_ok ss n (R.sw _ _)
theorem canonBs_ok : ∀ (n : Nat) {α : Al} {ν : Env} {L : Lay}, Rel P w0 M N α ν L a w → ∃ L', Rel P w0 M N (canonBs n α).2 (swE (canonBs n α).1 ν) L' a w
  | 0, α, ν, L, R => ⟨L, R⟩
  | n + 1, α, ν, L, R => by
    unfold canonBs
    split
    · exact ⟨L, R⟩
    · exact canonBs_ok n (R.sw _ _)
theorem canon_ok (ops : List Oper) (R : Rel P w0 M N α ν L a w) : ∃ L', Rel P w0 M N (canon ops α).2 (swE (canon ops α).1 ν) L' a w := by
  unfold canon
  obtain ⟨L1, R1⟩ := canonSs_ok (assigned ops) 16 R
  obtain ⟨L2, R2⟩ := canonBs_ok 16 R1
  exact ⟨L2, by rw [swE_append]; exact R2⟩

/-! ### what holds behind a code -/
def Post (P : Program) (w0 : World) (M : Nat → Prop) (N : Fr) (RT : List (List V) → Act → World → Prop) (nm : Option Al) (ex : List (Nat × Al)) : Out → Exit → Act → World → Prop
  | .norm ν', .normal, a, w => ∃ β L', nm = some β ∧ Rel P w0 M N β ν' L' a w
  | .exit id ν', .exit id', a, w => id' = id ∧ ∃ β L', (id, β) ∈ ex ∧ Rel P w0 M N β ν' L' a w
  | .ret raw, .ret, a, w => RT raw a w
  | _, _, _, _ => False
variable {RT : List (List V) → Act → World → Prop}
theorem Post.mono {nm nm' : Option Al} {ex ex' : List (Nat × Al)} {out : Out} {e : Exit} (h : Post P w0 M N RT nm ex out e a w) (hn : leO nm nm' = true) (he : ∀ p ∈ ex, p ∈ ex') : Post P w0 M N RT nm' ex' out e a w := by
  cases out with
  | norm ν' =>
    cases e <;> first | exact h.elim | skip
    obtain ⟨β, L', rfl, R⟩ := h
    cases nm' with
    | none => cases hn
    | some γ => exact ⟨γ, L', rfl, R.le hn⟩
  | exit id ν' =>
    cases e <;> first | exact h.elim | skip
    obtain ⟨h1, β, L', h2, R⟩ := h
    exact ⟨h1, β, L', he _ h2, R⟩
  | ret raw =>
    cases e <;> first | exact h.elim | exact h
theorem Post.exm {nm : Option Al} {ex ex' : List (Nat × Al)} {out : Out} {e : Exit} (h : Post P w0 M N RT nm ex out e a w) (he : ∀ p ∈ ex, p ∈ ex') : Post P w0 M N RT nm ex' out e a w := by
  cases out with
  | norm ν' => cases e <;> first | exact h.elim | exact h
  | exit id ν' =>
    cases e <;> first | exact h.elim | skip
    obtain ⟨h1, β, L', h2, R⟩ := h
    exact ⟨h1, β, L', he _ h2, R⟩
  | ret raw => cases e <;> first | exact h.elim | exact h
theorem fixL_ok {body : Al → Option CR} : ∀ (n : Nat) {β0 β : Al} {r : CR}, fixL body n β0 = some (r, β) → body β = some r ∧ (r.nm = none ∨ ∃ α1, r.nm = some α1 ∧ leAl α1 β = true)
  | 0, _, _, _, h => by cases h
  | n + 1, β0, β, r, h => by
    simp only [fixL, Option.bind_eq_some_iff] at h
    obtain ⟨r0, h1, h2⟩ := h
    split at h2
    · rename_i hn
      cases h2
      exact ⟨h1, .inl hn⟩
    · rename_i α1 hn
      split at h2
      · rename_i hl
        cases h2
        exact ⟨h1, .inr ⟨α1, hn, hl⟩⟩
      · exact fixL_ok n h2
theorem orStuck_run {o : Option CR} {n : Nat} {ν : Env} {out : Out} (h : (orStuck o).code.run Φ n ν = some out) : ∃ r, o = some r ∧ orStuck o = r := by
  cases o with
  | none => simp [orStuck, VC.run] at h
  | some r => exact ⟨r, rfl, rfl⟩
theorem frzC_run {n : Nat} : ∀ (l : List (Nat × Nat)) {r : CR} {ν : Env} {out : Out}, (frzC l r).code.run Φ n ν = some out → ∃ out0, r.code.run Φ n ν = some out0 ∧ ∀ e a w, Post P w0 M N RT r.nm r.ex out0 e a w → Post P w0 M N RT (frzC l r).nm (frzC l r).ex out e a w
  | [], r, ν, out, h => ⟨out, h, fun _ _ _ hp => hp⟩
  | p :: ps, r, ν, out, h => by
    simp only [frzC] at h ⊢
    split at h
    · rename_i α hn
      split at h
      · rename_i E hE
        obtain ⟨out1, h1, h2⟩ := frzC_run ps h
        simp only [VC.run, Option.bind_eq_some_iff] at h1
        obtain ⟨out0, h3, h4⟩ := h1
        refine ⟨out0, h3, fun e a w hp => ?_⟩
        refine h2 e a w ?_
        cases out0 with
        | norm ν1 =>
          cases e <;> first | exact hp.elim | skip
          obtain ⟨β, L', hb, R'⟩ := hp
          rw [hn] at hb; cases hb
          simp only [runGs, VG.run, Option.map_eq_some_iff, Option.bind_eq_some_iff, Option.some.injEq] at h4
          obtain ⟨ν2, ⟨ν3, h5, h6⟩, rfl⟩ := h4
          cases h6
          obtain ⟨L2, R2⟩ := frzE_ok R' hE h5
          exact ⟨_, L2, rfl, R2⟩
        | exit id ν1 =>
          simp only [Option.some.injEq] at h4
          subst h4
          cases e <;> first | exact hp.elim | exact hp
        | ret raw =>
          simp only [Option.some.injEq] at h4
          subst h4
          cases e <;> first | exact hp.elim | exact hp
      · rename_i hE
        obtain ⟨out0, h3, h4⟩ := frzC_run ps h
        refine ⟨out0, h3, fun e a w hp => ?_⟩
        exact h4 e a w hp
    · rename_i hn
      obtain ⟨out0, h3, h4⟩ := frzC_run ps h
      exact ⟨out0, h3, h4⟩
theorem compR_ok {sg : Sigs} {hs : Nat → Nat → Nat} {rt : Al → Option VI} (hsims : Sims P w0 M sg Φ) (hm : P.follows .mixedOrders = true) {n id : Nat} {ops : Array Oper} {dr : Bool} {r : CR} {out : Out}
    (h : compR ⟨P, sg, N.st, hs, rt⟩ id ops dr α = some r) (R : Rel P w0 M N α ν L a w) (hv : r.code.run Φ n ν = some out) : (Code.region id ops dr).wp P (Post P w0 M N RT r.nm r.ex out) a w := by
  simp only [compR, Option.bind_eq_some_iff] at h
  obtain ⟨⟨rs, α1⟩, h1, h⟩ := h
  have key : ∀ {r : CR}, some (CR.mk (rens (.ins (rs.map (·.vg))) (canon ops.toList α1).1) (some (canon ops.toList α1).2) []) = some r → r.code.run Φ n ν = some out → ∃ ν1, runGs Φ (rs.map (·.vg)) ν = some ν1 ∧
      ∀ a' w' L', Rel P w0 M N α1 ν1 L' a' w' → Post P w0 M N RT r.nm r.ex out .normal a' w' := by
    intro r hr hv
    cases hr
    have := rens_run (n := n) (canon ops.toList α1).1 (.ins (rs.map (·.vg))) (fun ν => runGs Φ (rs.map (·.vg)) ν) (fun ν => rfl) ν
    rw [this, Option.map_eq_some_iff] at hv
    obtain ⟨ν1, h2, rfl⟩ := hv
    refine ⟨ν1, h2, fun a' w' L' R' => ?_⟩
    obtain ⟨L2, R2⟩ := canon_ok ops.toList R'
    exact ⟨_, L2, rfl, R2⟩
  cases dr with
  | true =>
    simp only [if_true] at h
    split at h
    · rename_i hb
      rw [Bool.and_eq_true] at hb
      obtain ⟨ν1, h2, h3⟩ := key h hv
      exact region_any_ok hsims hm h1 hb.1 hb.2 R h2 (fun c a w hp => by cases out <;> exact hp) h3
    · cases h
  | false =>
    simp only [Bool.false_eq_true, if_false] at h
    obtain ⟨ν1, h2, h3⟩ := key h hv
    exact region_ok hsims h1 R h2 h3
theorem comp_ok {sg : Sigs} {hs : Nat → Nat → Nat} {rt : Al → Option VI} (hsims : Sims P w0 M sg Φ) (hm : P.follows .mixedOrders = true) {n : Nat}
    (hrt : ∀ (α : Al) (i : VI) (ν : Env) (L : Lay) (a : Act) (w : World) (out : Out), rt α = some i → Rel P w0 M N α ν L a w → (VC.ret i).run Φ n ν = some out → ∃ raw, out = .ret raw ∧ RT raw a w) :
    ∀ (c : Code) {α : Al} {r : CR} {ν : Env} {L : Lay} {a : Act} {w : World} {out : Out}, comp ⟨P, sg, N.st, hs, rt⟩ c α = some r → Rel P w0 M N α ν L a w → r.code.run Φ n ν = some out → c.wp P (Post P w0 M N RT r.nm r.ex out) a w := by
  intro c
  induction c with
  | skip =>
    intro α r ν L a w out h R hv
    simp only [comp, Option.some.injEq] at h
    subst h
    simp only [VC.run, runGs, Option.map_some, Option.some.injEq] at hv
    subst hv
    exact wp_skip ⟨_, L, rfl, R⟩
  | label l =>
    intro α r ν L a w out h R hv
    simp only [comp, Option.some.injEq] at h
    subst h
    simp only [VC.run, runGs, Option.map_some, Option.some.injEq] at hv
    subst hv
    exact wp_label ⟨_, L, rfl, R⟩
  | region id ops dr =>
    intro α r ν L a w out h R hv
    exact compR_ok hsims hm h R hv
  | seq x y ihx ihy =>
    intro α r ν L a w out h R hv
    simp only [comp, Option.bind_eq_some_iff] at h
    obtain ⟨r1, h1, h⟩ := h
    split at h
    · rename_i hn
      cases h
      refine wp_seq (wp_mono (ihx h1 R hv) fun e a' w' hp => ?_)
      cases out with
      | norm ν' =>
        cases e <;> first | exact hp.elim | skip
        obtain ⟨β, L', hb, _⟩ := hp
        rw [hn] at hb; cases hb
      | exit id ν' => cases e <;> first | exact hp.elim | exact hp
      | ret raw => cases e <;> first | exact hp.elim | exact hp
    · rename_i β hn
      cases h
      simp only [VC.run, Option.bind_eq_some_iff] at hv
      obtain ⟨out1, hv1, hv2⟩ := hv
      refine wp_seq (wp_mono (ihx h1 R hv1) fun e a' w' hp => ?_)
      cases out1 with
      | norm ν' =>
        cases e <;> first | exact hp.elim | skip
        obtain ⟨γ, L', hb, R'⟩ := hp
        rw [hn] at hb; cases hb
        simp only at hv2
        obtain ⟨s, hs1, hs2⟩ := orStuck_run hv2
        rw [hs2] at hv2 ⊢
        show y.wp P _ a' w'
        exact wp_mono (ihy hs1 R' hv2) fun e a w hp => Post.exm hp (fun p hp => List.mem_append_right _ hp)
      | exit id ν' =>
        simp only [Option.some.injEq] at hv2
        subst hv2
        cases e <;> first | exact hp.elim | skip
        obtain ⟨h2, γ, L', h3, R'⟩ := hp
        exact ⟨h2, γ, L', List.mem_append_left _ h3, R'⟩
      | ret raw =>
        simp only [Option.some.injEq] at hv2
        subst hv2
        cases e <;> first | exact hp.elim | exact hp
  | cond k x y ihx ihy =>
    intro α r ν L a w out h R hv
    simp only [comp] at h
    split at h
    · rename_i t
      split at h
      · rename_i s hsl
        split at h
        · rename_i hle
          rw [Bool.and_eq_true] at hle
          cases h
          have H := R.slots t
          rw [hsl] at H
          obtain ⟨z, hz, hr⟩ := RAs.single H
          simp only [VC.run, hz] at hv
          split at hv
          · rename_i b hb
            have hb' : z = .bool b := by simpa using hb
            subst hb'
            rcases hr with hr | hr
            · cases hr
            have hc : a.eval (.tmp t) = .bool b := by
              generalize hg : a.tmps.getD t undef = c at hr
              have : a.eval (.tmp t) = c := hg
              rw [this]; cases hr; rfl
            refine wp_cond hc ?_
            cases b with
            | true =>
              simp only [if_true] at hv ⊢
              obtain ⟨out0, hv0, hpo⟩ := frzC_run (P := P) (w0 := w0) (M := M) (N := N) (RT := RT) _ hv
              obtain ⟨s, hs1, hs2⟩ := orStuck_run hv0
              refine wp_mono (ihx hs1 R (by rw [hs2] at hv0; exact hv0)) fun e a w hp => Post.mono (hpo e a w (by rw [hs2]; exact hp)) hle.1 (fun p hp => List.mem_append_left _ hp)
            | false =>
              simp only [Bool.false_eq_true, if_false] at hv ⊢
              obtain ⟨out0, hv0, hpo⟩ := frzC_run (P := P) (w0 := w0) (M := M) (N := N) (RT := RT) _ hv
              obtain ⟨s, hs1, hs2⟩ := orStuck_run hv0
              refine wp_mono (ihy hs1 R (by rw [hs2] at hv0; exact hv0)) fun e a w hp => Post.mono (hpo e a w (by rw [hs2]; exact hp)) hle.2 (fun p hp => List.mem_append_right _ hp)
          · cases hv
        · cases h
      · cases h
    · rename_i b
      have hc : a.eval (.const (.bool b)) = .bool b := rfl
      refine wp_cond hc ?_
      cases b with
      | true => simp only [if_true] at h ⊢; exact ihx h R hv
      | false => simp only [Bool.false_eq_true, if_false] at h ⊢; exact ihy h R hv
    · cases h
  | block id b ih =>
    intro α r ν L a w out h R hv
    simp only [comp, Option.bind_eq_some_iff] at h
    obtain ⟨r1, h1, h⟩ := h
    split at h
    · rename_i hle
      rw [Bool.and_eq_true] at hle
      cases h
      simp only [VC.run, Option.map_eq_some_iff] at hv
      obtain ⟨out1, hv1, hv2⟩ := hv
      refine wp_block (wp_mono (ih h1 R hv1) fun e a' w' hp => ?_)
      cases out1 with
      | norm ν' =>
        simp only at hv2
        subst hv2
        cases e <;> first | exact hp.elim | skip
        obtain ⟨γ, L', hb, R'⟩ := hp
        exact Post.mono (RT := RT) (nm := r1.nm) (ex := []) (ex' := r1.ex.filter (·.1 != id)) (out := .norm ν') (e := .normal) ⟨γ, L', hb, R'⟩ hle.1 (by simp)
      | exit j ν' =>
        cases e <;> first | exact hp.elim | skip
        obtain ⟨rfl, γ, L', h3, R'⟩ := hp
        simp only at hv2
        rename_i j
        by_cases hj : j = id
        · subst hj
          rw [if_pos rfl] at hv2
          subst hv2
          simp only [Exit.inBlock, if_true]
          have h4 := List.all_eq_true.1 hle.2 _ h3
          simp only [bne_self_eq_false, Bool.false_or] at h4
          exact Post.mono (RT := RT) (nm := some γ) (ex := []) (ex' := r1.ex.filter (·.1 != j)) (out := .norm ν') (e := .normal) ⟨γ, L', rfl, R'⟩ h4 (by simp)
        · rw [if_neg hj] at hv2
          subst hv2
          simp only [Exit.inBlock, if_neg hj]
          exact ⟨rfl, γ, L', List.mem_filter.2 ⟨h3, by simpa using hj⟩, R'⟩
      | ret raw =>
        simp only at hv2
        subst hv2
        cases e <;> first | exact hp.elim | exact hp
    · cases h
  | loop b ih =>
    intro α r ν L a w out h R hv
    simp only [comp, Option.bind_eq_some_iff] at h
    obtain ⟨⟨r1, β⟩, h1, h⟩ := h
    split at h
    · rename_i hle
      cases h
      simp only at hle hv ⊢
      obtain ⟨h2, h3⟩ := fixL_ok 5 h1
      simp only [VC.run] at hv
      refine wp_loop_rounds n ?_
      have key : ∀ (k : Nat) (ν : Env) (L : Lay) (a : Act) (w : World), Rel P w0 M N β ν L a w → loopN (r1.code.run Φ n) k ν = some out → Code.rounds P b (Post P w0 M N RT none r1.ex out) k a w := by
        intro k
        induction k with
        | zero => intro ν L a w R hv; cases hv
        | succ k ihk =>
          intro ν L a w R hv
          simp only [loopN, Option.bind_eq_some_iff] at hv
          obtain ⟨out1, hv1, hv2⟩ := hv
          rw [rounds_succ]
          refine wp_mono (ih h2 R hv1) fun e a' w' hp => ?_
          cases out1 with
          | norm ν' =>
            cases e <;> first | exact hp.elim | skip
            obtain ⟨γ, L', hb, R'⟩ := hp
            simp only at hv2
            rcases h3 with h3 | ⟨α1, h3, h4⟩
            · rw [h3] at hb; cases hb
            · rw [h3] at hb; cases hb
              exact ihk ν' L' a' w' (R'.le h4) hv2
          | exit id ν' =>
            simp only [Option.some.injEq] at hv2
            subst hv2
            cases e <;> first | exact hp.elim | exact hp
          | ret raw =>
            simp only [Option.some.injEq] at hv2
            subst hv2
            cases e <;> first | exact hp.elim | exact hp
      exact key n ν L a w (R.le hle) hv
    · cases h
  | exit id =>
    intro α r ν L a w out h R hv
    simp only [comp, Option.some.injEq] at h
    subst h
    simp only [VC.run, Option.some.injEq] at hv
    subst hv
    exact wp_exit ⟨rfl, _, L, List.mem_singleton.2 rfl, R⟩
  | ret =>
    intro α r ν L a w out h R hv
    simp only [comp, Option.map_eq_some_iff] at h
    obtain ⟨i, h1, rfl⟩ := h
    obtain ⟨raw, rfl, h2⟩ := hrt α i ν L a w out h1 R hv
    exact wp_ret h2
  | _ =>
    intro α r ν L a w out h R hv
    simp only [comp] at h
    cases h
end
end Go.Proofs.YtlhcgiegganbpaaDoorVs
set_option linter.unusedVariables false
set_option linter.unusedSimpArgs false
namespace Go.Proofs.YtlhcgiegganbpaaDoorVs
theorem sem_bind_pure {β : Type} (x : Sem β) : x.bind Sem.pure = x := by
  induction x with
  | pure a => rfl
  | halt h => rfl
  | load m a k ih => simp only [Sem.bind]; congr; funext v; exact ih v
  | store m a v k ih => simp only [Sem.bind]; congr
  | new o k ih => simp only [Sem.bind]; congr; funext v; exact ih v
  | shape r k ih => simp only [Sem.bind]; congr; funext v; exact ih v
  | freeze a n k ih => simp only [Sem.bind]; congr
  | frozen a k ih => simp only [Sem.bind]; congr; funext v; exact ih v
  | getObj r k ih => simp only [Sem.bind]; congr; funext v; exact ih v
  | setObj r o k ih => simp only [Sem.bind]; congr
  | choose q k ih => simp only [Sem.bind]; congr; funext v; exact ih v
  | sys c k ih => simp only [Sem.bind]; congr; funext v; exact ih v
  | program k ih => simp only [Sem.bind]; congr; funext v; exact ih v
  | mark m k ih => simp only [Sem.bind]; congr
theorem sem_bind_assoc {β γ δ : Type} (x : Sem β) (f : β → Sem γ) (g : γ → Sem δ) : (x.bind f).bind g = x.bind (fun y => (f y).bind g) := by
  induction x with
  | pure a => rfl
  | halt h => rfl
  | load m a k ih => simp only [Sem.bind]; congr; funext v; exact ih v
  | store m a v k ih => simp only [Sem.bind]; congr
  | new o k ih => simp only [Sem.bind]; congr; funext v; exact ih v
  | shape r k ih => simp only [Sem.bind]; congr; funext v; exact ih v
  | freeze a n k ih => simp only [Sem.bind]; congr
  | frozen a k ih => simp only [Sem.bind]; congr; funext v; exact ih v
  | getObj r k ih => simp only [Sem.bind]; congr; funext v; exact ih v
  | setObj r o k ih => simp only [Sem.bind]; congr
  | choose q k ih => simp only [Sem.bind]; congr; funext v; exact ih v
  | sys c k ih => simp only [Sem.bind]; congr; funext v; exact ih v
  | program k ih => simp only [Sem.bind]; congr; funext v; exact ih v
  | mark m k ih => simp only [Sem.bind]; congr
theorem sem_lawful : LawfulMonad Sem := LawfulMonad.mk' Sem (id_map := fun x => sem_bind_pure x) (pure_bind := fun _ _ => rfl) (bind_assoc := fun x f g => sem_bind_assoc x f g)
def resV (tmps : Array Value) : ResultVar → Sem Value
  | .tmp t => pure (tmps.getD t undef)
  | .cell a t => do loadVar t (← asAddr (tmps.getD a undef))
theorem results_list {fn : Func} {tmps : Array Value} {P : Program} {w : World} {vs : List Value} (h : (fn.results.toList.mapM (resV tmps)).run P w = .ok vs w) : (results fn tmps).run P w = .ok (tupV vs) w := by
  have e : fn.results.mapM (resV tmps) = List.toArray <$> (fn.results.toList.mapM (resV tmps)) := by
    haveI := sem_lawful
    exact Array.mapM_eq_mapM_toList
  have e2 : results fn tmps = (do
    let vs ← fn.results.mapM (resV tmps)
    pure (if h : vs.size = 1 then vs[0] else .tuple vs)) := by
    unfold results
    congr 1
  rw [e2, e]
  simp only [Sem.run_bind, Sem.run_map, h, Result.andThen, Sem.run_pure]
  congr 1
  match vs with
  | [] => rfl
  | [v] => rfl
  | v :: u :: r => simp [tupV]
section
variable {P : Program} {w0 : World} {M : Nat → Prop} {N : Fr} {α α' β : Al} {ν ν' : Env} {L : Lay} {a : Act} {w w' : World} {Φ : Funs}
def SegsOK (P : Program) (L : Lay) (w : World) (ν : Env) : List (PSh × Seg) → List Value → Prop
  | [], [] => True
  | p :: l, c :: cs => RSl P L w p.2.sh (p.2.arg.get ν) c ∧ SegsOK P L w ν l cs
  | _, _ => False
theorem SegsOK.append {l m : List (PSh × Seg)} {cs ds : List Value} (h : SegsOK P L w ν l cs) (h' : SegsOK P L w ν m ds) : SegsOK P L w ν (l ++ m) (cs ++ ds) := by
  induction l generalizing cs with
  | nil => cases cs with
    | nil => exact h'
    | cons => exact h.elim
  | cons p l ih => cases cs with
    | nil => exact h.elim
    | cons c cs => exact ⟨h.1, ih h.2⟩
theorem passSegs_ok (R : Rel P w0 M N α ν L a w) : ∀ (l : List (PSh × Seg)) (As : List Arg) (xss : List (List V)) (cs : List Value), RM.out α (passSegs l) As → SegsOK P L w ν l cs → (As.map (·.chk)).flatten.all (unitAt ν) = true → (As.map (·.asr)).flatten.all (trueAt ν) = true →
    xss.length = As.length → (∀ i (h : i < As.length) (h' : i < xss.length), Pieces ν As[i].ps xss[i]) → ∃ fz ka zs, ArgsOK P L w (l.map (·.1)) As fz ka zs xss cs
  | [], As, xss, cs, h, H, hk, hs, hl, hx => by
    simp only [passSegs, out_ok] at h
    subst h
    have : xss = [] := List.eq_nil_of_length_eq_zero hl
    subst this
    cases cs with
    | nil => exact ⟨[], [], [], by simp, by simp, by simp, rfl, by simp, fun _ _ _ _ _ _ => trivial, rfl, by simp⟩
    | cons => exact H.elim
  | p :: l, As, xss, [], h, H, hk, hs, hl, hx => H.elim
  | p :: l, As, xss, c :: cs, h, H, hk, hs, hl, hx => by
    simp only [passSegs, out_bind, out_ok] at h
    obtain ⟨A, h2, r, h3, rfl⟩ := h
    cases xss with
    | nil => simp at hl
    | cons xs xss =>
      simp only [List.map_cons, List.flatten_cons, List.all_append, Bool.and_eq_true] at hk hs
      obtain ⟨fz1, ka1, zs1, A1⟩ := passArg_ok R h2 H.1 hk.1 hs.1 (hx 0 (by simp) (by simp))
      obtain ⟨fz2, ka2, zs2, A2⟩ := passSegs_ok R l r xss cs h3 H.2 hk.2 hs.2 (by simpa using hl) (fun i hi hi' => hx (i + 1) (by simpa using hi) (by simpa using hi'))
      refine ⟨fz1 ++ fz2, ka1 ++ ka2, zs1 ++ zs2, ?_, ?_, ?_, ?_, ?_, fun F1 S1 k1 k2 k3 k4 => ⟨?_, ?_⟩, ?_, ?_⟩
      · simp only [List.map_cons, List.flatten_cons, List.map_append]
        exact (A1.pm.append A2.pm).trans (perm4 _ _ _ _ _ _)
      · intro t ht
        rcases List.mem_append.1 ht with ht | ht
        · exact A1.row t ht
        · exact A2.row t ht
      · intro q hq
        rcases List.mem_append.1 hq with hq | hq
        · exact A1.kb q hq
        · exact A2.kb q hq
      · simp only [List.map_append, A1.sn, A2.sn, List.map_cons, argsB]
      · intro k hk
        simp only [List.map_cons, List.flatten_cons, List.mem_append] at hk
        rcases hk with hk | hk
        · exact A1.kk k hk
        · exact A2.kk k hk
      · exact A1.ok F1 S1 k1 (fun b hb => k2 b (blks_mono (by simp; intro t h; exact .inl h) b hb)) k3 (fun k b hk => k4 k b (by simp only [List.map_cons, List.flatten_cons, List.mem_append]; exact .inl hk))
      · exact A2.ok F1 S1 k1 (fun b hb => k2 b (blks_mono (by simp; intro t h; exact .inr h) b hb)) k3 (fun k b hk => k4 k b (by simp only [List.map_cons, List.flatten_cons, List.mem_append]; exact .inr hk))
      · simp only [List.map_cons, List.flatten_cons]
        rw [A1.bk, A2.bk]
      · intro B hB u ms hu
        rcases List.mem_cons.1 hB with rfl | hB
        · obtain ⟨b, h4, h5⟩ := A1.bx u ms hu
          exact ⟨b, h4, by rw [List.map_append]; exact List.mem_append_left _ h5⟩
        · obtain ⟨b, h4, h5⟩ := A2.bx B hB u ms hu
          exact ⟨b, h4, by rw [List.map_append]; exact List.mem_append_right _ h5⟩

/-! ### results -/
theorem outSeg_ok (R : Rel P w0 M N α ν L a w) {v : ResultVar} {q : Seg × List (Nat × Nat)} (h : RM.out α (outSeg P v) q) (hk : q.2.all (unitAt ν) = true) : ∃ c, (resV a.tmps v).run P w = .ok c w ∧ RSl P L w q.1.sh (q.1.arg.get ν) c := by
  cases v with
  | tmp t =>
    simp only [outSeg, out_sl, out_ok] at h
    subst h
    exact ⟨_, rfl, R.slots t⟩
  | cell x t =>
    simp only [outSeg, out_sl] at h
    split at h
    · rename_i u hsl
      simp only [out_bx, out_bind, out_opt, out_need, out_ok] at h
      obtain ⟨b, hb, n, hn, ag, hag, _, hnl, sh, hsh, rfl⟩ := h
      have hn' : n = b.as.length := by simpa using hnl
      subst hn'
      have H := R.slots x
      rw [hsl] at H
      obtain ⟨y, hy, hr⟩ := RAs.single H
      have hun := unit_chk hk (List.mem_singleton.2 rfl) hy rfl
      subst hun
      rcases hr with hr | ⟨_, g, ro, hg, hc⟩
      · cases hr
      obtain ⟨C, ty, fz, hh, hfz, hra⟩ := (R.boxes u g ro hg b hb).2.cells
      have hCl : b.as.length = C.size := by simpa using hra.1
      have hcell : ∀ j, j < b.as.length → w.cell? ⟨g, 0 + j, none⟩ = some (C.getD j undef) := fun j hj => by
        have hj' : j < C.size := by omega
        simp [World.cell?, hh, Array.getD, hj']
      have haddr : (asAddr (a.tmps.getD x undef)).run P w = .ok ⟨g, 0, none⟩ w := by rw [hc]; rfl
      cases ag with
      | true =>
        refine ⟨.agg ((List.range b.as.length).map fun j => C.getD j undef).toArray, ?_, ?_⟩
        · simp only [resV, Sem.run_bind, haddr, Result.andThen]
          exact run_loadVar_ag hag hn hcell
        · simp only [mkSh, if_true, Option.some.injEq] at hsh
          subst hsh
          refine ⟨_, rfl, ?_⟩
          have e : ((List.range b.as.length).map fun j => C.getD j undef) = C.toList := by
            apply List.ext_getElem
            · simp [hCl]
            · intro i h1 h2
              have : i < C.size := by simpa using h2
              simp [Array.getD, this]
          simp only [e]
          exact hra
      | false =>
        simp only [mkSh, Bool.false_eq_true, if_false] at hsh
        split at hsh
        · rename_i a1 has
          cases hsh
          have h0 := hcell 0 (by rw [has]; simp)
          refine ⟨C.getD 0 undef, ?_, ?_⟩
          · simp only [resV, Sem.run_bind, haddr, Result.andThen]
            exact run_loadVar_1 hag h0
          · have hC1 : C.size = 1 := by rw [← hCl, has]; rfl
            have e : C.toList = [C.getD 0 undef] := by
              apply List.ext_getElem
              · simp [hC1]
              · intro i h1 h2
                have : i = 0 := by simpa using h2
                subst this
                simp [Array.getD, hC1]
            rw [has, e] at hra
            exact RSl.one hra
        · cases hsh
    · rw [out_no] at h; exact h.elim
theorem outSegs_ok (R : Rel P w0 M N α ν L a w) : ∀ (rs : List RSh) (vs : List ResultVar) (q : List (PSh × Seg) × List (Nat × Nat)), RM.out α (outSegs P rs vs) q → q.2.all (unitAt ν) = true →
    ∃ cs, (vs.mapM (resV a.tmps)).run P w = .ok cs w ∧ SegsOK P L w ν q.1 cs ∧ q.1.map (·.1) = List.zipWith (fun s (p : PSh × Seg) => outP s p.2.sh) rs q.1 ∧ q.1.length = rs.length ∧ cs.length = rs.length
  | [], [], q, h, hk => by
    simp only [outSegs, out_ok] at h
    subst h
    exact ⟨[], rfl, trivial, rfl, rfl, rfl⟩
  | [], _ :: _, q, h, hk => by simp only [outSegs, out_no] at h
  | _ :: _, [], q, h, hk => by simp only [outSegs, out_no] at h
  | s :: rs, v :: vs, q, h, hk => by
    simp only [outSegs, out_bind, out_ok] at h
    obtain ⟨q1, h1, q2, h2, rfl⟩ := h
    simp only [List.all_append, Bool.and_eq_true] at hk
    obtain ⟨c, h3, h4⟩ := outSeg_ok R h1 hk.1
    obtain ⟨cs, h5, h6, h7, h8, h9⟩ := outSegs_ok R rs vs q2 h2 hk.2
    refine ⟨c :: cs, ?_, ⟨h4, h6⟩, by simp [h7], by simp [h8], by simp [h9]⟩
    simp only [List.mapM_cons, Sem.run_bind, h3, h5, Result.andThen]
    rfl
/-! ### what goes out, put together -/
theorem plain_cells {F S S' : Nat → Prop} {ms : List PM} {xs : List V} {cs : List Value} (h : noLent ms = true) (H : PCells P F S w ms xs cs) : PCells P F S' w ms xs cs :=
  ⟨H.ml, H.xl, fun i h0 h1 h2 => by
    obtain ⟨h3, h4⟩ := H.ok i h0 h1 h2
    refine ⟨h3, ?_⟩
    have h5 := List.all_eq_true.1 h _ (List.getElem_mem h0)
    cases hm : ms[i] with
    | lent => rw [hm] at h5; simp at h5
    | fz => rw [hm] at h4; exact h4
    | own => rw [hm] at h4; exact h4⟩
theorem noLent_bk (ms : List PM) : noLent (ms.map bkM) = true := by
  simp only [noLent, List.all_map, List.all_eq_true]
  intro m _
  cases m <;> rfl
def outWv (s : RSh) (p : PSh) (xs : List V) : List V := match s, p with
  | .obx ms, .nilp => .bool false :: List.replicate ms.length .unit
  | .obx _, _ => .bool true :: xs
  | _, _ => xs
theorem outRes {F S : Nat → Prop} {s : RSh} {sh : Sh} {xs : List V} {c : Value} (h : PArg P F S w (outP s sh) xs c) (hp : s.plain = true) : RRes P F w s (outWv s (outP s sh) xs) c ∧ resB w s c = argB w (outP s sh) c := by
  cases s with
  | one m => exact ⟨plain_cells hp h, rfl⟩
  | agg ms =>
    obtain ⟨cs, rfl, h2⟩ := h
    exact ⟨⟨cs, rfl, plain_cells hp h2⟩, rfl⟩
  | obx ms =>
    by_cases hs : sh = .one .nilp
    · subst hs
      have hc : c = .pointer none := h
      subst hc
      exact ⟨.inl ⟨rfl, rfl⟩, rfl⟩
    · have e : outP (.obx ms) sh = .ptr false ms := by
        unfold outP
        split <;> simp_all
      rw [e] at h ⊢
      obtain ⟨b, rfl, h2, h3, _⟩ := h
      exact ⟨.inr ⟨b, xs, rfl, h2, rfl, plain_cells hp h3⟩, rfl⟩
def RawOK : List RSh → List (PSh × Seg) → List (List V) → List (List V) → Prop
  | s :: ss, p :: ps, xs :: xss, r :: raw => r = outWv s p.1 xs ∧ RawOK ss ps xss raw
  | [], _, xss, raw => raw = xss
  | _, _, _, _ => False
theorem res_split {F S : Nat → Prop} : ∀ (rs : List RSh) (l1 bs : List (PSh × Seg)) (xss raw : List (List V)) (cs1 ds : List Value), l1.length = rs.length → cs1.length = rs.length → l1.map (·.1) = List.zipWith (fun s (p : PSh × Seg) => outP s p.2.sh) rs l1 → rs.all RSh.plain = true →
    RawOK rs (l1 ++ bs) xss raw → PArgs P F S w ((l1 ++ bs).map (·.1)) xss (cs1 ++ ds) →
    ∃ raw1 raw2, raw = raw1 ++ raw2 ∧ raw1.length = rs.length ∧ RRess P F w rs raw1 cs1 ∧ PArgs P F S w (bs.map (·.1)) raw2 ds ∧ argsB w ((l1 ++ bs).map (·.1)) (cs1 ++ ds) = ressB w rs cs1 ++ argsB w (bs.map (·.1)) ds
  | [], l1, bs, xss, raw, cs1, ds, h1, h2, h3, h4, h5, h6 => by
    have e1 : l1 = [] := List.eq_nil_of_length_eq_zero h1
    have e2 : cs1 = [] := List.eq_nil_of_length_eq_zero h2
    subst e1; subst e2
    have e3 : raw = xss := by unfold RawOK at h5; exact h5
    subst e3
    exact ⟨[], raw, rfl, rfl, trivial, h6, rfl⟩
  | s :: rs, [], bs, xss, raw, cs1, ds, h1, h2, h3, h4, h5, h6 => by simp at h1
  | s :: rs, p :: l1, bs, xss, raw, [], ds, h1, h2, h3, h4, h5, h6 => by simp at h2
  | s :: rs, p :: l1, bs, [], raw, c :: cs1, ds, h1, h2, h3, h4, h5, h6 => by simp [PArgs] at h6
  | s :: rs, p :: l1, bs, xs :: xss, [], c :: cs1, ds, h1, h2, h3, h4, h5, h6 => by simp [RawOK] at h5
  | s :: rs, p :: l1, bs, xs :: xss, r :: raw, c :: cs1, ds, h1, h2, h3, h4, h5, h6 => by
    simp only [List.map_cons, List.zipWith_cons_cons, List.cons.injEq] at h3
    simp only [List.all_cons, Bool.and_eq_true] at h4
    obtain ⟨h5a, h5b⟩ : r = outWv s p.1 xs ∧ RawOK rs (l1 ++ bs) xss raw := h5
    obtain ⟨h6a, h6b⟩ : PArg P F S w p.1 xs c ∧ PArgs P F S w ((l1 ++ bs).map (fun x : PSh × Seg => x.1)) xss (cs1 ++ ds) := h6
    obtain ⟨raw1, raw2, rfl, h7, h8, h9, h10⟩ := res_split rs l1 bs xss raw cs1 ds (by simpa using h1) (by simpa using h2) h3.2 h4.2 h5b h6b
    rw [h3.1] at h6a h5a
    obtain ⟨h11, h12⟩ := outRes h6a h4.1
    refine ⟨r :: raw1, raw2, rfl, by simp [h7], ⟨h5a ▸ h11, h8⟩, h9, ?_⟩
    simp only [List.cons_append, List.map_cons, argsB, ressB, h10, h3.1, h12, List.append_assoc]
theorem raw_ok : ∀ (rs : List RSh) (l : List (PSh × Seg)) (As : List Arg) (raw : List (List V)), l.length = As.length → rs.length ≤ l.length → (∀ i (h : i < l.length) (h' : i < As.length), l[i].1 = .nilp → As[i].ps = []) →
    raw.length = (outWs rs l As).length → (∀ i (h : i < (outWs rs l As).length) (h' : i < raw.length), Pieces ν (outWs rs l As)[i] raw[i]) →
    ∃ xss, xss.length = As.length ∧ (∀ i (h : i < As.length) (h' : i < xss.length), Pieces ν As[i].ps xss[i]) ∧ RawOK rs l xss raw
  | [], l, As, raw, h1, h2, h3, h4, h5 => by
    have e : outWs [] l As = As.map (·.ps) := by unfold outWs; rfl
    rw [e] at h4
    refine ⟨raw, by simpa using h4, fun i h h' => ?_, by unfold RawOK; rfl⟩
    have := h5 i (by rw [e]; simpa using h) h'
    simp only [e, List.getElem_map] at this
    exact this
  | s :: rs, [], As, raw, h1, h2, h3, h4, h5 => by simp at h2
  | s :: rs, p :: l, [], raw, h1, h2, h3, h4, h5 => by simp at h1
  | s :: rs, p :: l, A :: As, [], h1, h2, h3, h4, h5 => by simp [outWs] at h4
  | s :: rs, p :: l, A :: As, r :: raw, h1, h2, h3, h4, h5 => by
    obtain ⟨xss, h6, h7, h8⟩ := raw_ok rs l As raw (by simpa using h1) (by simpa using h2) (fun i h h' => h3 (i + 1) (by simpa using h) (by simpa using h')) (by simpa [outWs] using h4) (fun i h h' => by
      have := h5 (i + 1) (by simpa [outWs] using h) (by simpa using h')
      simpa [outWs] using this)
    have h9 : Pieces ν (outW s p.1 A.ps) r := by
      have := h5 0 (by simp [outWs]) (by simp)
      simpa [outWs] using this
    have h10 : ∃ xs, Pieces ν A.ps xs ∧ r = outWv s p.1 xs := by
      have hbool : ∀ (b : Bool) (ps : List Pc) (x : List V), Pieces ν ((.lit [.bool b], 0) :: ps) x → ∃ y, x = .bool b :: y ∧ Pieces ν ps y := by
        intro b ps x hx
        cases x with
        | nil => have := hx.1; simp at this
        | cons y ys =>
          obtain ⟨h11, h12⟩ := hx.2 0 (by simp) (by simp)
          have e : y = .bool b := by simpa [pcGet, VArg.get] using h11.symm
          subst e
          exact ⟨ys, rfl, by have := hx.1; simpa using this, fun j hj hj' => by
            have := hx.2 (j + 1) (by simpa using hj) (by simpa using hj')
            simpa using this⟩
      cases s with
      | one m => exact ⟨r, h9, rfl⟩
      | agg ms => exact ⟨r, h9, rfl⟩
      | obx ms =>
        by_cases hp : p.1 = .nilp
        · rw [hp] at h9 ⊢
          have hA := h3 0 (by simp) (by simp) (by simpa using hp)
          obtain ⟨y, rfl, hy⟩ := hbool _ _ _ h9
          refine ⟨[], ⟨by simp at hA; simp [hA], fun j hj hj' => by simp at hj'⟩, ?_⟩
          simp only [outWv]
          congr 1
          apply List.ext_getElem
          · have := hy.1; simpa using this
          · intro i h12 h13
            obtain ⟨h14, _⟩ := hy.2 i (by have := hy.1; omega) h12
            simp only [List.getElem_replicate, pcU, pcGet, VArg.get] at h14
            simpa using h14.symm
        · have e : outW (.obx ms) p.1 A.ps = (.lit [.bool true], 0) :: A.ps := by
            unfold outW
            split <;> simp_all
          rw [e] at h9
          obtain ⟨y, rfl, hy⟩ := hbool _ _ _ h9
          refine ⟨y, hy, ?_⟩
          unfold outWv
          split <;> simp_all
    obtain ⟨xs, h11, h12⟩ := h10
    refine ⟨xs :: xss, by simp [h6], fun i h h' => ?_, ⟨h12, h8⟩⟩
    cases i with
    | zero => exact h11
    | succ i => simpa using h7 i (by simpa using h) (by simpa using h')
/-- the slots of the variables that come back still hold what came in -/
def KeptOK (a : Act) : Nat → List PSh → List Value → Prop
  | s, .ptr false _ :: ps, c :: cs => (a.tmps.getD s undef = c ∧ ∃ b, c = .pointer (some ⟨b, 0, none⟩)) ∧ KeptOK a (s + 1) ps cs
  | s, _ :: ps, _ :: cs => KeptOK a (s + 1) ps cs
  | _, [], [] => True
  | _, _, _ => False
theorem backSegs_ok (R : Rel P w0 M N α ν L a w) : ∀ (ps : List PSh) (s : Nat) (cs : List Value) (l : List (PSh × Seg)), RM.out α (backSegs s ps) l → KeptOK a s ps cs →
    ∃ ds, SegsOK P L w ν l ds ∧ argsB w (l.map (·.1)) ds = backsB w (backsOf ps cs) ∧ (∀ p ∈ l, p.1 ≠ .nilp) ∧ ∀ (F S : Nat → Prop) (xss : List (List V)), PArgs P F S w (l.map (·.1)) xss ds → RBacks P F w (backsOf ps cs) xss
  | [], s, [], l, h, hk => by
    simp only [backSegs, out_ok] at h
    subst h
    refine ⟨[], trivial, rfl, by simp, fun F S xss hx => ?_⟩
    cases xss with
    | nil => trivial
    | cons => exact hx.elim
  | [], s, _ :: _, l, h, hk => by simp [KeptOK] at hk
  | p :: ps, s, [], l, h, hk => by
    cases p with
    | ptr ro ms => cases ro <;> simp [KeptOK] at hk
    | _ => simp [KeptOK] at hk
  | p :: ps, s, c :: cs, l, h, hk => by
    have other : (∀ ms, p ≠ .ptr false ms) → backsOf (p :: ps) (c :: cs) = backsOf ps cs ∧ RM.out α (backSegs (s + 1) ps) l ∧ KeptOK a (s + 1) ps cs := by
      intro hn
      cases p with
      | ptr ro ms =>
        cases ro with
        | false => exact absurd rfl (hn ms)
        | true => exact ⟨by simp [backsOf], by simpa only [backSegs] using h, by simpa [KeptOK] using hk⟩
      | _ => exact ⟨by simp [backsOf], by simpa only [backSegs] using h, by simpa [KeptOK] using hk⟩
    by_cases hp : ∃ ms, p = .ptr false ms
    · obtain ⟨ms, rfl⟩ := hp
      simp only [backSegs, out_sl, out_bind, out_ok] at h
      obtain ⟨l', h1, rfl⟩ := h
      obtain ⟨⟨h2, b, rfl⟩, h3⟩ : (a.tmps.getD s undef = c ∧ ∃ b, c = .pointer (some ⟨b, 0, none⟩)) ∧ KeptOK a (s + 1) ps cs := hk
      obtain ⟨ds, h4, h5, h6, h7⟩ := backSegs_ok R ps (s + 1) cs l' h1 h3
      have H := R.slots s
      rw [h2] at H
      refine ⟨.pointer (some ⟨b, 0, none⟩) :: ds, ⟨H, h4⟩, ?_, ?_, ?_⟩
      · simp only [List.map_cons, argsB, argB, backsOf, backsB, h5]
        rfl
      · intro q hq
        rcases List.mem_cons.1 hq with rfl | hq
        · simp
        · exact h6 q hq
      · intro F S xss hx
        cases xss with
        | nil => exact hx.elim
        | cons xs xss =>
          obtain ⟨⟨b', hb, h8, h9, _⟩, h10⟩ : PArg P F S w (.ptr false (ms.map bkM)) xs (.pointer (some ⟨b, 0, none⟩)) ∧ PArgs P F S w (l'.map (fun x : PSh × Seg => x.1)) xss ds := hx
          have : b' = b := by
            simp only [Value.pointer.injEq, Option.some.injEq, Addr.mk.injEq] at hb
            exact hb.1.symm
          subst this
          exact ⟨⟨h8, plain_cells (noLent_bk ms) h9⟩, h7 F S xss h10⟩
    · obtain ⟨e, h1, h2⟩ := other (fun ms hm => hp ⟨ms, hm⟩)
      rw [e]
      exact backSegs_ok R ps (s + 1) cs l h1 h2
theorem passSegs_nil : ∀ (l : List (PSh × Seg)) (As : List Arg), RM.out α (passSegs l) As → l.length = As.length ∧ ∀ i (h : i < l.length) (h' : i < As.length), l[i].1 = .nilp → As[i].ps = []
  | [], As, h => by
    simp only [passSegs, out_ok] at h
    subst h
    exact ⟨rfl, fun i h => by simp at h⟩
  | p :: l, As, h => by
    simp only [passSegs, out_bind, out_ok] at h
    obtain ⟨A, h2, r, h3, rfl⟩ := h
    obtain ⟨h4, h5⟩ := passSegs_nil l r h3
    refine ⟨by simp [h4], fun i h h' hn => ?_⟩
    cases i with
    | zero =>
      simp only [List.getElem_cons_zero] at hn ⊢
      rw [hn] at h2
      unfold passArg at h2
      split at h2 <;> first | (rename_i e1 _ _; cases e1; done) | skip
      all_goals simp_all [out_ok, out_no]
    | succ i => simpa using h5 i (by simpa using h) (by simpa using h') (by simpa using hn)
theorem ret_ok (R : Rel P w0 M N α ν L a w) {g : Sig} {rs : List ResultVar} {i : VI} (h : RM.out α (compRet P g rs) i) {cs0 : List Value} (hkept : KeptOK a 0 g.ps cs0) (hM : ∀ b, M b ↔ b ∈ argsB w0 g.ps cs0) {n : Nat} {out : Out} (hv : (VC.ret i).run Φ n ν = some out) :
    ∃ raw, out = .ret raw ∧ a.defers = [] ∧ ∃ vs F', (rs.mapM (resV a.tmps)).run P w = .ok vs w ∧ SimPost P N.F w0 g cs0 raw vs F' w := by
  simp only [compRet, out_bind, out_need, out_ok] at h
  obtain ⟨_, hpl, q, hq, bs, hbs, As, hAs, _, hnd, _, hln, rfl⟩ := h
  simp only [VC.run] at hv
  split at hv
  · rename_i hchk
    simp only [VF.sem, Option.map_eq_some_iff] at hv
    obtain ⟨raw, hraw, rfl⟩ := hv
    simp only [List.all_append, Bool.and_eq_true] at hchk
    obtain ⟨⟨hk1, hk2⟩, hk3⟩ := hchk
    obtain ⟨vs, hvs, hS1, hl1, hl2, hvl⟩ := outSegs_ok R g.rs rs q hq hk1
    obtain ⟨ds, hS2, hB, hnn, hbk⟩ := backSegs_ok R g.ps 0 cs0 bs hbs hkept
    obtain ⟨hlen, hnil⟩ := passSegs_nil _ As hAs
    obtain ⟨hrl, hpc⟩ := ins_pieces (pre := []) (by rw [List.map_map] at hraw; exact hraw)
    obtain ⟨xss, hxl, hxp, hro⟩ := raw_ok (ν := ν) g.rs (q.1 ++ bs) As raw hlen (by simp [hl2]) hnil hrl (fun i h h' => hpc i h h')
    obtain ⟨fz, ka, zs, AO⟩ := passSegs_ok R _ As xss (vs ++ ds) hAs (hS1.append hS2) hk2 hk3 hxl hxp
    have hK := nodupB_ok hnd
    have hln' : (As.map (·.ln)).flatten = [] := List.isEmpty_iff.1 hln
    obtain ⟨hF, hPA, hnd2, hsz, hmn⟩ := call_pre R AO hK (fun k hk => by rw [hln'] at hk; simp at hk)
    obtain ⟨raw1, raw2, h1, h2, h3, h4, h5⟩ := res_split g.rs q.1 bs xss raw vs ds hl2 hvl hl1 hpl hro hPA
    refine ⟨raw, rfl, R.nd.nd, vs, (L.frozen fz).F, hvs, ?_⟩
    rw [h5, hB] at hnd2
    exact {
      hw := ⟨R.kp.os, R.kp.tape, R.kp.output, R.kp.size, fun b h1 h2 => R.kp.block b h1 (fun hm => h2 ((hM b).1 hm))⟩
      hF := fun b hb => .inl (R.nd.lo b hb)
      hF' := fun b hb => by
        rcases hb with hb | hb
        · rcases R.nd.hi b hb with h | h
          · exact .inl h
          · exact .inr ⟨R.sl b (R.fs b hb), h.imp id (hM b).1⟩
        · obtain ⟨t, r, ht, h6, h7⟩ := hb
          obtain ⟨h8, h9, _⟩ := R.rowmine t r b h6 h7
          exact .inr ⟨h9, h8.imp id (hM b).1⟩
      res := ⟨raw1, raw2, h1, h2, h3, hbk _ _ _ h4⟩
      nd := hnd2
      bl := fun b hb => by
        rw [← hB, ← h5] at hb
        exact ⟨hsz b hb, (hmn b hb).1.imp id (hM b).1, fun hf => (hF b hf).2 hb⟩ }
  · cases hv
end
end Go.Proofs.YtlhcgiegganbpaaDoorVs
set_option linter.unusedVariables false
set_option linter.unusedSimpArgs false
namespace Go.Proofs.YtlhcgiegganbpaaDoorVs
section
variable {P : Program} {w0 : World} {M : Nat → Prop} {N : Fr} {α α' β : Al} {ν ν' : Env} {L : Lay} {a : Act} {w w' : World} {Φ : Funs}
/-! ### the blocks that come in -/
theorem blkG_mem {b : Nat} {c : Value} : ∀ {ms : List PM} {cs : List Value} {j : Nat}, ms[j]? = some .own → cs[j]? = some c → c.ownBlock = some b → b ∈ blkG ms cs
  | [], cs, j, h, _, _ => by simp at h
  | m :: ms, [], j, _, h, _ => by simp at h
  | m :: ms, c' :: cs, 0, h1, h2, h3 => by
    simp only [List.getElem?_cons_zero, Option.some.injEq] at h1 h2
    subst h1; subst h2
    simp [blkG, h3]
  | m :: ms, c' :: cs, j + 1, h1, h2, h3 => by
    simp only [List.getElem?_cons_succ] at h1 h2
    have := blkG_mem h1 h2 h3
    cases m <;> simp [blkG, this]
theorem blkG_inj {b : Nat} {c c' : Value} : ∀ {ms : List PM} {cs : List Value} {i j : Nat}, (blkG ms cs).Nodup → ms[i]? = some .own → cs[i]? = some c → c.ownBlock = some b → ms[j]? = some .own → cs[j]? = some c' → c'.ownBlock = some b → i = j
  | [], cs, i, j, _, h, _, _, _, _, _ => by simp at h
  | m :: ms, [], i, j, _, _, h, _, _, _, _ => by simp at h
  | m :: ms, d :: cs, 0, 0, hn, h1, h2, h3, h4, h5, h6 => rfl
  | m :: ms, d :: cs, 0, j + 1, hn, h1, h2, h3, h4, h5, h6 => by
    simp only [List.getElem?_cons_zero, Option.some.injEq, List.getElem?_cons_succ] at h1 h2 h4 h5
    subst h1; subst h2
    have := blkG_mem h4 h5 h6
    simp [blkG, h3] at hn
    exact absurd this hn.1
  | m :: ms, d :: cs, i + 1, 0, hn, h1, h2, h3, h4, h5, h6 => by
    simp only [List.getElem?_cons_zero, Option.some.injEq, List.getElem?_cons_succ] at h1 h2 h4 h5
    subst h4; subst h5
    have := blkG_mem h1 h2 h3
    simp [blkG, h6] at hn
    exact absurd this hn.1
  | m :: ms, d :: cs, i + 1, j + 1, hn, h1, h2, h3, h4, h5, h6 => by
    simp only [List.getElem?_cons_succ] at h1 h2 h4 h5
    have hn' : (blkG ms cs).Nodup := by
      cases m with
      | own => simp only [blkG] at hn; exact (List.nodup_append.1 hn).2.1
      | _ => exact hn
    rw [blkG_inj hn' h1 h2 h3 h4 h5 h6]
theorem argsB_mem {p : PSh} {c : Value} {b : Nat} : ∀ {ps : List PSh} {cs : List Value} {s : Nat}, ps[s]? = some p → cs[s]? = some c → b ∈ argB w p c → b ∈ argsB w ps cs
  | [], cs, s, h, _, _ => by simp at h
  | q :: ps, [], s, _, h, _ => by simp at h
  | q :: ps, d :: cs, 0, h1, h2, h3 => by
    simp only [List.getElem?_cons_zero, Option.some.injEq] at h1 h2
    subst h1; subst h2
    exact List.mem_append_left _ h3
  | q :: ps, d :: cs, s + 1, h1, h2, h3 => List.mem_append_right _ (argsB_mem (by simpa using h1) (by simpa using h2) h3)
theorem argsB_nd {p : PSh} {c : Value} : ∀ {ps : List PSh} {cs : List Value} {s : Nat}, (argsB w ps cs).Nodup → ps[s]? = some p → cs[s]? = some c → (argB w p c).Nodup
  | [], cs, s, _, h, _ => by simp at h
  | q :: ps, [], s, _, _, h => by simp at h
  | q :: ps, d :: cs, 0, hn, h1, h2 => by
    simp only [List.getElem?_cons_zero, Option.some.injEq] at h1 h2
    subst h1; subst h2
    exact (List.nodup_append.1 hn).1
  | q :: ps, d :: cs, s + 1, hn, h1, h2 => argsB_nd (List.nodup_append.1 hn).2.1 (by simpa using h1) (by simpa using h2)
theorem argsB_inj {p p' : PSh} {c c' : Value} {b : Nat} : ∀ {ps : List PSh} {cs : List Value} {s s' : Nat}, (argsB w ps cs).Nodup → ps[s]? = some p → cs[s]? = some c → b ∈ argB w p c → ps[s']? = some p' → cs[s']? = some c' → b ∈ argB w p' c' → s = s'
  | [], cs, s, s', _, h, _, _, _, _, _ => by simp at h
  | q :: ps, [], s, s', _, _, h, _, _, _, _ => by simp at h
  | q :: ps, d :: cs, 0, 0, hn, h1, h2, h3, h4, h5, h6 => rfl
  | q :: ps, d :: cs, 0, s' + 1, hn, h1, h2, h3, h4, h5, h6 => by
    simp only [List.getElem?_cons_zero, Option.some.injEq, List.getElem?_cons_succ] at h1 h2 h4 h5
    subst h1; subst h2
    exact absurd rfl ((List.nodup_append.1 hn).2.2 b h3 b (argsB_mem h4 h5 h6))
  | q :: ps, d :: cs, s + 1, 0, hn, h1, h2, h3, h4, h5, h6 => by
    simp only [List.getElem?_cons_zero, Option.some.injEq, List.getElem?_cons_succ] at h1 h2 h4 h5
    subst h4; subst h5
    exact absurd rfl ((List.nodup_append.1 hn).2.2 b h6 b (argsB_mem h1 h2 h3))
  | q :: ps, d :: cs, s + 1, s' + 1, hn, h1, h2, h3, h4, h5, h6 => by
    exact congrArg Nat.succ (argsB_inj (ps := ps) (cs := cs) (List.nodup_append.1 hn).2.1 (by simpa using h1) (by simpa using h2) h3 (by simpa using h4) (by simpa using h5) h6)
theorem PArgs.get {F S : Nat → Prop} : ∀ {ps : List PSh} {xss : List (List V)} {cs : List Value}, PArgs P F S w ps xss cs → ps.length = cs.length ∧ ∀ {s : Nat} {p : PSh}, ps[s]? = some p → ∃ xs c, xss[s]? = some xs ∧ cs[s]? = some c ∧ PArg P F S w p xs c
  | [], [], [], _ => ⟨rfl, fun h => by simp at h⟩
  | p :: ps, xs :: xss, c :: cs, h => by
    obtain ⟨h1, h2⟩ := PArgs.get h.2
    refine ⟨by simp [h1], fun {s q} hq => ?_⟩
    cases s with
    | zero =>
      simp only [List.getElem?_cons_zero, Option.some.injEq] at hq
      subst hq
      exact ⟨xs, c, rfl, rfl, h.1⟩
    | succ s => simpa using h2 (by simpa using hq)
  | [], _ :: _, _, h => h.elim
  | [], [], _ :: _, h => h.elim
  | _ :: _, [], _, h => h.elim
  | _ :: _, _ :: _, [], h => h.elim

/-! ### what stands when a function begins -/
def isBoxP : PSh → Bool
  | .ptr _ _ => true
  | _ => false
/-- the cells of what comes in -/
def clOf (w : World) : PSh → Value → List Value
  | .one _, c => [c]
  | .agg _, .agg cs => cs.toList
  | .ptr _ _, .pointer (some ad) => cellsAt w ad.block
  | _, _ => []
theorem PArg.cells {F S : Nat → Prop} {p : PSh} {xs : List V} {c : Value} (h : PArg P F S w p xs c) (hn : p ≠ .nilp) : PCells P F S w p.ms xs (clOf w p c) := by
  cases p with
  | one m => exact h
  | agg ms => obtain ⟨cs, rfl, h⟩ := h; exact h
  | ptr ro ms => obtain ⟨b, rfl, _, h, _⟩ := h; exact h
  | nilp => exact absurd rfl hn
  | nils => obtain ⟨_, rfl⟩ := h; exact .nil
def rowC (ms : List PM) (xs : List V) (cl : List Value) (j : Nat) : Option Row := match ms[j]?, xs[j]?, cl[j]? with
  | some .own, some x, some c => some ⟨c, eOf x⟩
  | _, _, _ => none
def prmRow (w : World) (ps : List PSh) (xss : List (List V)) (cs : List Value) (box : Bool) (j s : Nat) : Option Row := match ps[s]?, xss[s]?, cs[s]? with
  | some p, some xs, some c => if isBoxP p = box then rowC p.ms xs (clOf w p c) j else none
  | _, _, _ => none
def L0 (w : World) (ps : List PSh) (xss : List (List V)) (cs : List Value) (F S : Nat → Prop) : Lay where
  row := fun t => if (t / 64) % 2 = 0 then prmRow w ps xss cs false (t % 64) (t / 64 / 2) else if t / 64 / 2 < pinB then none else prmRow w ps xss cs true (t % 64) (t / 64 / 2 - pinB)
  box := fun u => if u < pinB then none else match ps[u - pinB]?, cs[u - pinB]? with
    | some (.ptr ro _), some (.pointer (some ad)) => some (ad.block, ro)
    | _, _ => none
  F := F
  S := S
def tokP (p : PSh) (s j : Nat) : Nat := if isBoxP p then tokB (pinB + s) j else tokS s j
theorem rowC_some {ms : List PM} {xs : List V} {cl : List Value} {j : Nat} {r : Row} (h : rowC ms xs cl j = some r) : ∃ x c, ms[j]? = some .own ∧ xs[j]? = some x ∧ cl[j]? = some c ∧ r = ⟨c, eOf x⟩ := by
  unfold rowC at h
  split at h
  · rename_i x c h1 h2 h3
    cases h
    exact ⟨x, c, h1, h2, h3, rfl⟩
  · cases h
theorem tk_nil {b : Bool} {j : Nat} {xs : List V} {p : PSh} (h : isBoxP p = b) (hp : p ≠ .nilp) : tkV b j xs p = (xs[j]?).toList := by
  cases p <;> simp_all [isBoxP, tkV]
  all_goals (subst h; simp [tkV])
theorem row_inv {ps : List PSh} {xss : List (List V)} {cs : List Value} {F S : Nat → Prop} {t : Nat} {r : Row} (h : (L0 w ps xss cs F S).row t = some r) :
    ∃ s p xs c j x cc, ps[s]? = some p ∧ xss[s]? = some xs ∧ cs[s]? = some c ∧ p.ms[j]? = some .own ∧ xs[j]? = some x ∧ (clOf w p c)[j]? = some cc ∧ r = ⟨cc, eOf x⟩ ∧ env0 ps xss (tC t) = [x] ∧ t = tokP p s j := by
  have go : ∀ (box : Bool) (s : Nat), prmRow w ps xss cs box (t % 64) s = some r → env0 ps xss (tC t) = at2 (tkV box (t % 64)) ps xss s → t = (if box then tokB (pinB + s) (t % 64) else tokS s (t % 64)) →
      ∃ s p xs c j x cc, ps[s]? = some p ∧ xss[s]? = some xs ∧ cs[s]? = some c ∧ p.ms[j]? = some .own ∧ xs[j]? = some x ∧ (clOf w p c)[j]? = some cc ∧ r = ⟨cc, eOf x⟩ ∧ env0 ps xss (tC t) = [x] ∧ t = tokP p s j := by
    intro box s h1 h2 h3
    unfold prmRow at h1
    split at h1
    · rename_i p xs c hp hxs hc
      split at h1
      · rename_i hb
        obtain ⟨x, cc, h4, h5, h6, rfl⟩ := rowC_some h1
        refine ⟨s, p, xs, c, _, x, cc, hp, hxs, hc, h4, h5, h6, rfl, ?_, ?_⟩
        · rw [h2]
          simp only [at2, hp, hxs]
          rw [tk_nil hb (by rintro rfl; simp [PSh.ms] at h4), h5]
          rfl
        · unfold tokP; rw [hb]; exact h3
      · cases h1
    · cases h1
  have e3 : tC t / 3 = t := by simp only [tC]; omega
  have e0 : tC t % 3 = 2 := by simp only [tC]; omega
  simp only [L0] at h
  by_cases h1 : (t / 64) % 2 = 0
  · rw [if_pos h1] at h
    refine go false _ h ?_ ?_
    · simp only [env0, e3, e0, h1]; simp
    · simp only [tokS]; simp; omega
  · rw [if_neg h1] at h
    by_cases h2 : t / 64 / 2 < pinB
    · rw [if_pos h2] at h; cases h
    · rw [if_neg h2] at h
      refine go true _ h ?_ ?_
      · simp only [env0, e3, e0, if_neg h1, if_neg h2]; simp
      · simp only [tokB]; simp; omega
theorem row_at {ps : List PSh} {xss : List (List V)} {cs : List Value} {F S : Nat → Prop} {s j : Nat} {p : PSh} {xs : List V} {c : Value} (hp : ps[s]? = some p) (hx : xss[s]? = some xs) (hc : cs[s]? = some c) (hj : j < 64) :
    (L0 w ps xss cs F S).row (tokP p s j) = rowC p.ms xs (clOf w p c) j := by
  unfold tokP
  cases hb : isBoxP p with
  | false =>
    have h1 : (tokS s j / 64) % 2 = 0 := by simp only [tokS]; omega
    have h2 : tokS s j % 64 = j := by simp only [tokS]; omega
    have h3 : tokS s j / 64 / 2 = s := by simp only [tokS]; omega
    simp only [L0, Bool.false_eq_true, if_false, if_pos h1, h2, h3, prmRow, hp, hx, hc, hb, if_true]
  | true =>
    have h1 : ¬ (tokB (pinB + s) j / 64) % 2 = 0 := by simp only [tokB]; omega
    have h2 : tokB (pinB + s) j % 64 = j := by simp only [tokB]; omega
    have h3 : tokB (pinB + s) j / 64 / 2 = pinB + s := by simp only [tokB]; omega
    have h4 : ¬ pinB + s < pinB := by omega
    have h5 : pinB + s - pinB = s := by omega
    simp only [L0, if_true, if_neg h1, h2, h3, if_neg h4, h5, prmRow, hp, hx, hc, hb]
theorem ms64_ok : ∀ {ms : List PM} {k : Nat}, ms64 k ms = true → ∀ j, ms[j]? = some .own → k + j < 64
  | [], k, h, j, hj => by simp at hj
  | m :: ms, k, h, j, hj => by
    simp only [ms64, Bool.and_eq_true] at h
    cases j with
    | zero =>
      simp only [List.getElem?_cons_zero, Option.some.injEq] at hj
      subst hj
      simpa using h.1
    | succ j =>
      have := ms64_ok h.2 j (by simpa using hj)
      omega
theorem inAt_len (base : Nat) : ∀ (ms : List PM) (j : Nat), (inAt base j ms).length = ms.length
  | [], j => rfl
  | m :: ms, j => by cases m <;> simp [inAt, inAt_len base ms]
def pmAt (t : Nat) : PM → At
  | .own => .own t
  | .fz => .v .fz
  | .lent => .v .lent
theorem inAt_get (base : Nat) : ∀ (ms : List PM) (k j : Nat) (h : j < ms.length) (h' : j < (inAt base k ms).length), (inAt base k ms)[j] = pmAt (base + (k + j)) ms[j]
  | [], k, j, h, _ => by simp at h
  | m :: ms, k, 0, h, h' => by cases m <;> simp [inAt, pmAt]
  | m :: ms, k, j + 1, h, h' => by
    have := inAt_get base ms (k + 1) j (by simpa using h) (by rw [inAt_len]; simpa using h)
    rw [show k + 1 + j = k + (j + 1) by omega] at this
    cases m <;> simpa [inAt] using this
theorem ras_in {F S : Nat → Prop} {ms : List PM} {xs : List V} {cl : List Value} {base : Nat} (hF : L.F = F) (hS : L.S = S) (H : PCells P F S w ms xs cl)
    (hrow : ∀ j x c, ms[j]? = some .own → xs[j]? = some x → cl[j]? = some c → L.row (base + j) = some ⟨c, eOf x⟩) : RAs P L w (inAt base 0 ms) (List.zipWith inV ms xs) cl := by
  refine ⟨by rw [inAt_len]; exact H.ml, by rw [inAt_len, List.length_zipWith, H.ml, H.xl]; simp, fun i h0 h1 h2 => ?_⟩
  have hm : i < ms.length := by rw [inAt_len] at h0; exact h0
  have hx : i < xs.length := by have := H.xl; have := H.ml; omega
  obtain ⟨h3, h4⟩ := H.ok i hm hx h2
  rw [inAt_get base ms 0 i hm h0, List.getElem_zipWith]
  cases hmi : ms[i] with
  | own =>
    rw [hmi] at h4
    refine .inr ⟨rfl, ⟨cl[i], eOf xs[i]⟩, ?_, rfl⟩
    rw [Nat.zero_add]
    exact hrow i xs[i] cl[i] (by rw [List.getElem?_eq_getElem hm, hmi]) (List.getElem?_eq_getElem hx) (List.getElem?_eq_getElem h2)
  | fz =>
    rw [hmi] at h4
    subst hF
    exact .inr h4
  | lent =>
    rw [hmi] at h4
    subst hS
    exact .inr h4
theorem inSl_get : ∀ (ps : List PSh) (k s : Nat), (inSl k ps)[s]? = (ps[s]?).map (inSh (k + s))
  | [], k, s => by simp [inSl]
  | p :: ps, k, 0 => by simp [inSl]
  | p :: ps, k, s + 1 => by
    simp only [inSl, List.getElem?_cons_succ, inSl_get ps (k + 1) s]
    rw [show k + 1 + s = k + (s + 1) by omega]
theorem inSl_len : ∀ (ps : List PSh) (k : Nat), (inSl k ps).length = ps.length
  | [], k => rfl
  | p :: ps, k => by simp [inSl, inSl_len ps]
theorem inBx_get : ∀ (ps : List PSh) (k u : Nat) (x : Bx), lookB (inBx k ps) u = some x → ∃ s ro ms, u = pinB + (k + s) ∧ ps[s]? = some (.ptr ro ms) ∧ x = ⟨ro, inAt (tokB u 0) 0 ms⟩
  | [], k, u, x, h => by cases h
  | p :: ps, k, u, x, h => by
    have next : lookB (inBx (k + 1) ps) u = some x → ∃ s ro ms, u = pinB + (k + s) ∧ (p :: ps)[s]? = some (.ptr ro ms) ∧ x = ⟨ro, inAt (tokB u 0) 0 ms⟩ := by
      intro h
      obtain ⟨s, ro, ms, h1, h2, h3⟩ := inBx_get ps (k + 1) u x h
      exact ⟨s + 1, ro, ms, by omega, by simpa using h2, h3⟩
    cases p with
    | ptr ro ms =>
      simp only [inBx, lookB] at h
      split at h
      · rename_i hu
        cases h
        subst hu
        exact ⟨0, ro, ms, rfl, rfl, rfl⟩
      · exact next h
    | _ => exact next h
theorem entry {F S : Nat → Prop} {ps : List PSh} {xss : List (List V)} {cs : List Value} {n : Nat} {kl : List Nat} (hFS : ∀ b, F b → S b) (hS : ∀ b, S b → b < w.heap.size) (hA : PArgs P F S w ps xss cs) (hnd : (argsB w ps cs).Nodup)
    (hB : ∀ b ∈ argsB w ps cs, b < w.heap.size ∧ ¬ S b) (hn : ps.length ≤ n) (h64 : ps.all (fun p => ms64 0 p.ms) = true) :
    Rel P w (· ∈ argsB w ps cs) ⟨n, kl, fun s => (cs.toArray ++ Array.replicate (n - cs.toArray.size) undef).getD s undef, F⟩ (inAl n ps) (env0 ps xss) (L0 w ps xss cs F S) { tmps := cs.toArray ++ Array.replicate (n - cs.toArray.size) undef, defers := [] } w := by
  obtain ⟨hlen, hget⟩ := hA.get
  have h64' : ∀ {s : Nat} {p : PSh}, ps[s]? = some p → ∀ j, p.ms[j]? = some .own → j < 64 := fun {s p} hp j hj => by
    have := ms64_ok (List.all_eq_true.1 h64 p (List.mem_of_getElem? hp)) j hj
    omega
  -- a row's block
  have hblk : ∀ {t : Nat} {r : Row} {b : Nat}, (L0 w ps xss cs F S).row t = some r → r.blk = some b → ∃ s p c j cc, ps[s]? = some p ∧ cs[s]? = some c ∧ p.ms[j]? = some .own ∧ (clOf w p c)[j]? = some cc ∧ cc.ownBlock = some b ∧ b ∈ argB w p c ∧ b ∈ argsB w ps cs ∧ t = tokP p s j ∧ ∃ ad ms, p = .ptr false ms → c = .pointer (some ad) ∧ b ∈ blkG ms (cellsAt w ad.block) := by
    intro t r b h hb
    obtain ⟨s, p, xs, c, j, x, cc, hp, hx, hc, hm, hxj, hcc, rfl, _, rfl⟩ := row_inv h
    have hbk : cc.ownBlock = some b := hb
    obtain ⟨xs', c', hx', hc', hA'⟩ := hget hp
    rw [hx] at hx'; cases hx'
    rw [hc] at hc'; cases hc'
    have hmem := blkG_mem hm hcc hbk
    have hin : b ∈ argB w p c ∧ ∃ ad ms, p = .ptr false ms → c = .pointer (some ad) ∧ b ∈ blkG ms (cellsAt w ad.block) := by
      cases p with
      | one m => exact ⟨hmem, ⟨0, 0, none⟩, [], fun e => by cases e⟩
      | agg ms => obtain ⟨ds, rfl, _⟩ := hA'; exact ⟨hmem, ⟨0, 0, none⟩, [], fun e => by cases e⟩
      | ptr ro ms =>
        obtain ⟨g, rfl, _, _, hro⟩ := hA'
        cases ro with
        | false => exact ⟨List.mem_cons_of_mem _ hmem, ⟨g, 0, none⟩, ms, fun _ => ⟨rfl, hmem⟩⟩
        | true =>
          have := List.all_eq_true.1 (hro rfl).2 .own (List.mem_of_getElem? hm)
          simp at this
      | nilp => simp [PSh.ms] at hm
      | nils => simp [PSh.ms] at hm
    exact ⟨s, p, c, j, cc, hp, hc, hm, hcc, hbk, hin.1, argsB_mem hp hc hin.1, rfl, hin.2⟩
  have hboxb : ∀ {u b : Nat} {ro : Bool}, (L0 w ps xss cs F S).box u = some (b, ro) → ∃ s ms, u = pinB + s ∧ ps[s]? = some (.ptr ro ms) ∧ cs[s]? = some (.pointer (some ⟨b, 0, none⟩)) := by
    intro u b ro h
    simp only [L0] at h
    split at h
    · cases h
    · rename_i hu
      split at h
      · rename_i ro' ms ad hp hc
        cases h
        obtain ⟨xs', c', hx', hc', g, rfl, _⟩ := hget hp
        rw [hc] at hc'
        cases hc'
        exact ⟨u - pinB, ms, by omega, hp, hc⟩
      · cases h
  have hbin : ∀ {s b : Nat} {ms : List PM}, ps[s]? = some (.ptr false ms) → cs[s]? = some (.pointer (some ⟨b, 0, none⟩)) → b ∈ argB w (.ptr false ms) (.pointer (some ⟨b, 0, none⟩)) := fun _ _ => List.mem_cons_self
  constructor
  · exact ⟨by simp; omega, fun s _ => rfl⟩
  · exact ⟨rfl, fun b h => h, fun b h => .inl h⟩
  · exact ⟨rfl, rfl, rfl, Nat.le_refl _, fun _ _ _ => rfl⟩
  · exact hFS
  · exact hS
  · intro s
    by_cases hs : s < ps.length
    · obtain ⟨p, hp⟩ : ∃ p, ps[s]? = some p := ⟨_, List.getElem?_eq_getElem hs⟩
      obtain ⟨xs, c, hx, hc, hA'⟩ := hget hp
      have h1 : (inAl n ps).slot s = inSh s p := by
        simp only [inAl, Al.slot, List.getD_eq_getElem?_getD]
        rw [List.getElem?_append_left (by rw [inSl_len]; exact hs), inSl_get, hp]
        simp
      have h2 : env0 ps xss (sC s) = slV xs p := by
        have e1 : sC s % 3 = 0 := by simp only [sC]; omega
        have e2 : sC s / 3 = s := by simp only [sC]; omega
        simp only [env0, e1, e2, if_true, at2, hp, hx]
      have h3 : (cs.toArray ++ Array.replicate (n - cs.toArray.size) undef).getD s undef = c := by
        rw [Array.getD_eq_getD_getElem?, Array.getElem?_append_left (by simpa [← hlen] using hs)]
        simp [hc]
      rw [h1, h2]
      simp only [h3]
      have hrow : p ≠ .nilp → isBoxP p = false → ∀ j x cc, p.ms[j]? = some .own → xs[j]? = some x → (clOf w p c)[j]? = some cc → (L0 w ps xss cs F S).row (tokS s 0 + j) = some ⟨cc, eOf x⟩ := by
        intro hpn hb j x cc hm hxj hcc
        have hj := h64' hp j hm
        have := row_at (w := w) (F := F) (S := S) hp hx hc hj
        have e : tokP p s j = tokS s 0 + j := by simp [tokP, hb, tokS]
        rw [e] at this
        rw [this]
        simp only [rowC, hm, hxj, hcc]
      cases p with
      | one m =>
        have := ras_in (L := L0 w ps xss cs F S) (base := tokS s 0) rfl rfl (hA'.cells (by simp)) (hrow (by simp) rfl)
        simp only [PSh.ms, clOf] at this
        cases m <;> exact RSl.one this
      | agg ms =>
        have := ras_in (L := L0 w ps xss cs F S) (base := tokS s 0) rfl rfl (hA'.cells (by simp)) (hrow (by simp) rfl)
        obtain ⟨ds, rfl, _⟩ := hA'
        exact ⟨ds, rfl, this⟩
      | ptr ro ms =>
        obtain ⟨g, rfl, _⟩ := hA'
        refine RSl.one (RAs.one (.inr ⟨rfl, g, ro, ?_, rfl⟩))
        have e : pinB + s - pinB = s := by omega
        simp only [L0, e, hp, hc]
        rw [if_neg (by omega)]
      | nilp =>
        have hc' : c = .pointer none := hA'
        subst hc'
        exact RSl.one (RAs.one (.inr ⟨rfl, rfl⟩))
      | nils => trivial
    · have : (inAl n ps).slot s = .one .dead := by
        simp only [inAl, Al.slot, List.getD_eq_getElem?_getD]
        rw [List.getElem?_append_right (by rw [inSl_len]; omega), List.getElem?_replicate]
        split <;> rfl
      rw [this]; trivial
  · intro t r h
    obtain ⟨s, p, xs, c, j, x, cc, hp, hx, hc, hm, hxj, hcc, rfl, he, rfl⟩ := row_inv h
    obtain ⟨xs', c', hx', hc', hA'⟩ := hget hp
    rw [hx] at hx'; cases hx'
    rw [hc] at hc'; cases hc'
    rw [he]
    obtain ⟨hm1, hm2⟩ := List.getElem?_eq_some_iff.1 hm
    obtain ⟨hx1, hx2⟩ := List.getElem?_eq_some_iff.1 hxj
    obtain ⟨hc1, hc2⟩ := List.getElem?_eq_some_iff.1 hcc
    obtain ⟨_, h5⟩ := (hA'.cells (by rintro rfl; simp [PSh.ms] at hm)).ok j hm1 hx1 hc1
    rw [hm2, hx2, hc2] at h5
    exact h5
  · intro u b ro h x hx
    obtain ⟨s, ms, rfl, hp, hc⟩ := hboxb h
    obtain ⟨s', ro', ms', h1, h2, rfl⟩ := inBx_get ps 0 _ x hx
    have : s' = s := by omega
    subst this
    rw [hp] at h2
    cases h2
    obtain ⟨xs, c', hxs, hc', hA'⟩ := hget hp
    rw [hc] at hc'; cases hc'
    have hcl := hA'.cells (by simp)
    obtain ⟨g, hg, hop, _, _⟩ := hA'
    cases hg
    obtain ⟨C, ty, fz, hh, hfz⟩ := hop
    have hcC : cellsAt w b = C.toList := by simp [cellsAt, hh]
    refine ⟨rfl, C, ty, fz, hh, hfz, ?_⟩
    have h2 : env0 ps xss (bC (pinB + s')) = List.zipWith inV ms xs := by
      have e1 : ¬ bC (pinB + s') % 3 = 0 := by simp only [bC]; omega
      have e2 : bC (pinB + s') % 3 = 1 := by simp only [bC]; omega
      have e3 : bC (pinB + s') / 3 = pinB + s' := by simp only [bC]; omega
      have e4 : ¬ pinB + s' < pinB := by omega
      have e5 : pinB + s' - pinB = s' := by omega
      simp only [env0, e2, e3, e4, e5, if_true, if_false, at2, hp, hxs, bxV]
      simp
    rw [h2, ← hcC]
    refine ras_in (L := L0 w ps xss cs F S) rfl rfl hcl (fun j x cc hm hxj hcc => ?_)
    have hj := h64' hp j hm
    have := row_at (w := w) (F := F) (S := S) hp hxs hc hj
    have e : tokP (.ptr ro ms) s' j = tokB (pinB + s') 0 + j := by simp [tokP, isBoxP, tokB]
    rw [e] at this
    rw [this]
    show rowC ms xs (cellsAt w b) j = _
    have hcc' : (cellsAt w b)[j]? = some cc := hcc
    have hm' : ms[j]? = some PM.own := hm
    simp only [rowC, hm', hxj, hcc']
  · intro t r b h hb
    obtain ⟨s, p, c, j, cc, _, _, _, _, _, _, hm, _⟩ := hblk h hb
    exact ⟨.inr hm, hB b hm⟩
  · intro u b h
    obtain ⟨s, ms, rfl, hp, hc⟩ := hboxb h
    have hm := argsB_mem hp hc (hbin hp hc)
    exact ⟨.inr hm, hB b hm⟩
  · intro u b h
    obtain ⟨s, ms, rfl, hp, hc⟩ := hboxb h
    obtain ⟨xs, c', hxs, hc', g, hg, _, _, hro⟩ := hget hp
    rw [hc] at hc'
    cases hc'
    cases hg
    exact (hro rfl).1
  · intro t t' r r' b h h' hb hb'
    obtain ⟨s, p, c, j, cc, hp, hc, hm, hcc, hbk, hin, _, rfl, _⟩ := hblk h hb
    obtain ⟨s', p', c', j', cc', hp', hc', hm', hcc', hbk', hin', _, rfl, _⟩ := hblk h' hb'
    have hs := argsB_inj hnd hp hc hin hp' hc' hin'
    subst hs
    rw [hp] at hp'; cases hp'
    rw [hc] at hc'; cases hc'
    have hnd1 := argsB_nd hnd hp hc
    have hnd2 : (blkG p.ms (clOf w p c)).Nodup := by
      obtain ⟨xs, c', hxs, hc', hA'⟩ := hget hp
      rw [hc] at hc'; cases hc'
      cases p with
      | one m => exact hnd1
      | agg ms => obtain ⟨ds, rfl, _⟩ := hA'; exact hnd1
      | ptr ro ms =>
        obtain ⟨g, rfl, _, _, hro⟩ := hA'
        cases ro with
        | false => exact (List.nodup_cons.1 hnd1).2
        | true =>
          have := List.all_eq_true.1 (hro rfl).2 .own (List.mem_of_getElem? hm)
          simp at this
      | nilp => simp [PSh.ms] at hm
      | nils => simp [PSh.ms] at hm
    rw [blkG_inj hnd2 hm hcc hbk hm' hcc' hbk']
  · intro t r u b ro h hb hu
    obtain ⟨s, p, c, j, cc, hp, hc, hm, hcc, hbk, hin, hmem, rfl, ad, ms0, hpt⟩ := hblk h hb
    obtain ⟨s', ms, rfl, hp', hc'⟩ := hboxb hu
    cases ro with
    | true =>
      obtain ⟨xs, c', hxs, hc2, g, hg, _, _, hro⟩ := hget hp'
      rw [hc'] at hc2
      cases hc2
      cases hg
      exact (hB b hmem).2 (hro rfl).1
    | false =>
      have hs := argsB_inj hnd hp hc hin hp' hc' (hbin hp' hc')
      subst hs
      rw [hp] at hp'; cases hp'
      rw [hc] at hc'; cases hc'
      have hnd1 := argsB_nd hnd hp hc
      have := (List.nodup_cons.1 hnd1).1
      exact this (blkG_mem hm hcc hbk)
  · intro u u' b ro h h'
    obtain ⟨s, ms, rfl, hp, hc⟩ := hboxb h
    obtain ⟨s', ms', rfl, hp', hc'⟩ := hboxb h'
    have hm := argsB_mem hp hc (hbin hp hc)
    cases ro with
    | true =>
      obtain ⟨xs, c', hxs, hc2, g, hg, _, _, hro⟩ := hget hp'
      rw [hc'] at hc2
      cases hc2
      cases hg
      exact absurd (hro rfl).1 (hB b hm).2
    | false =>
      rw [argsB_inj hnd hp hc (hbin hp hc) hp' hc' (hbin hp' hc')]

/-! ### a function's contract out of its body -/
theorem keepS_ge : ∀ {ps : List PSh} {s t : Nat}, t ∈ keepS s ps → s ≤ t
  | [], s, t, h => by simp [keepS] at h
  | p :: ps, s, t, h => by
    have next : t ∈ keepS (s + 1) ps → s ≤ t := fun h => by have := keepS_ge h; omega
    cases p with
    | ptr ro ms =>
      cases ro with
      | false =>
        rcases List.mem_cons.1 h with rfl | h
        · exact Nat.le_refl _
        · exact next h
      | true => exact next h
    | _ => exact next h
theorem kept_of {F S : Nat → Prop} : ∀ {ps : List PSh} {xss : List (List V)} {cs : List Value} {s : Nat}, (∀ t ∈ keepS s ps, a.tmps.getD t undef = cs.getD (t - s) undef) → PArgs P F S w ps xss cs → KeptOK a s ps cs
  | [], [], [], s, _, _ => trivial
  | p :: ps, xs :: xss, c :: cs, s, h, hA => by
    have next : (∀ t ∈ keepS (s + 1) ps, t ∈ keepS s (p :: ps)) → KeptOK a (s + 1) ps cs := fun hsub => kept_of (fun t ht => by
      have h1 := keepS_ge ht
      have := h t (hsub t ht)
      rw [show t - s = (t - (s + 1)) + 1 by omega] at this
      simpa using this) hA.2
    cases p with
    | ptr ro ms =>
      cases ro with
      | false =>
        obtain ⟨b, hb, _⟩ := hA.1
        refine ⟨⟨?_, b, hb⟩, next (fun t ht => List.mem_cons_of_mem _ ht)⟩
        have := h s List.mem_cons_self
        simpa using this
      | true => exact next (fun t ht => ht)
    | _ => exact next (fun t ht => ht)
  | [], _ :: _, _, s, _, h => h.elim
  | [], [], _ :: _, s, _, h => h.elim
  | _ :: _, [], _, s, _, h => h.elim
  | _ :: _, _ :: _, [], s, _, h => h.elim
/-- what is known of the package's variables stands in block 0 -/
structure GWDep (GW : World → Prop) : Prop where
  dep : ∀ w w', w'.heap[0]? = w.heap[0]? → GW w → GW w'
  pos : ∀ w, GW w → 0 < w.heap.size
theorem keepS_lt : ∀ {ps : List PSh} {s t : Nat}, t ∈ keepS s ps → t < s + ps.length
  | [], s, t, h => by simp [keepS] at h
  | p :: ps, s, t, h => by
    have nx : t ∈ keepS (s + 1) ps → t < s + (p :: ps).length := fun h => by have := keepS_lt h; simp; omega
    cases p with
    | ptr ro ms =>
      cases ro with
      | false =>
        rcases List.mem_cons.1 h with rfl | h
        · simp
        · exact nx h
      | true => exact nx h
    | _ => exact nx h
/-- what a function owes, over its frame -/
def frN (fn : Func) (g : Sig) (cs : List Value) (F : Nat → Prop) : Fr := ⟨fn.ntmps, keepS 0 g.ps, fun s => (cs.toArray ++ Array.replicate (fn.ntmps - cs.toArray.size) undef).getD s undef, F⟩
/-- a body that is told, from where nothing but the parameters is known -/
theorem body_wp {GW : World → Prop} (hG : GWDep GW) (hm : P.follows .mixedOrders = true) {fn fn0 : Func} {g : Sig} {sg : Sigs} {hs : Nat → Nat → Nat} {vc : VC} {c : Code} {F S : Nat → Prop} {w w1 : World} {xss raw : List (List V)} {cs : List Value} {n : Nat} (hb : fn.body = some c) (hn0 : fn0.ntmps = fn.ntmps) (hr0 : fn0.results = fn.results)
    (hc : compF P sg hs fn g = some vc) (hsim : ∀ f k g, (k, g) ∈ sg f → Sim P GW f g (Φ f k)) (hA : PArgs P F S w g.ps xss cs) (hgw : GW w) (h0n : 0 ∉ argsB w g.ps cs)
    (R : Rel P w (· ∈ argsB w g.ps cs) (frN fn g cs F) (inAl fn.ntmps g.ps) (env0 g.ps xss) L a w1) (hn : vc.run Φ n (env0 g.ps xss) = some (.ret raw)) :
    c.wp P (fun e a' w' => bodyPost P fn0 (fun e w' => ∃ vs F', e = .returned (tupV vs) ∧ SimPost P F w g cs raw vs F' w') e a' w' ∧ (((comp (cxOf P sg hs fn g) c (inAl fn.ntmps g.ps)).map fun r => r.nm.isNone) = some true → e = .ret)) a w1 := by
  unfold compF at hc
  split at hc
  · rename_i hchk
    rw [Bool.and_eq_true, decide_eq_true_eq] at hchk
    rw [hb] at hc
    simp only at hc
    have hsz := hG.pos w hgw
    have hsims : Sims P w (· ∈ argsB w g.ps cs) sg Φ := ⟨GW, ⟨fun w' k => hG.dep w w' (k.block 0 hsz h0n) hgw, fun h => h.elim (fun h => by omega) h0n⟩, hsim⟩
    generalize hN : frN fn g cs F = N at R
    have hNF : N.F = F := by rw [← hN]; rfl
    have hNs : N.st = (fn.ntmps, keepS 0 g.ps) := by rw [← hN]; rfl
    let RT : List (List V) → Act → World → Prop := fun raw a w' => a.defers = [] ∧ ∃ vs F', (results fn0 a.tmps).run P w' = .ok (tupV vs) w' ∧ SimPost P F w g cs raw vs F' w'
    have hres : ∀ tmps, results fn0 tmps = results fn tmps := fun tmps => by unfold results; rw [hr0]
    have hret : ∀ (α : Al) (i : VI) (ν : Env) (L : Lay) (a : Act) (w' : World) (out : Out), ((compRet P g fn.results.toList).run α).map (·.1) = some i → Rel P w (· ∈ argsB w g.ps cs) N α ν L a w' → (VC.ret i).run Φ n ν = some out → ∃ raw, out = .ret raw ∧ RT raw a w' := by
      intro α i ν L a w' out hi R' hv
      obtain ⟨q, hq, rfl⟩ := Option.map_eq_some_iff.1 hi
      have hk : KeptOK a 0 g.ps cs := kept_of (fun t ht => by
        have h1 := R'.nt.keep t (by rw [← hN]; exact ht)
        rw [h1, ← hN]
        have h2 : t < cs.length := by
          rw [← hA.get.1]
          have := keepS_lt ht
          omega
        simp only [frN]
        rw [Array.getD_eq_getD_getElem?, Array.getElem?_append_left (by simpa using h2)]
        simp [List.getD_eq_getElem?_getD]) hA
      obtain ⟨raw, rfl, h1, vs, F', h2, h3⟩ := ret_ok R' ⟨q.2, hq⟩ hk (fun b => Iff.rfl) hv
      rw [hNF] at h3
      exact ⟨raw, rfl, h1, vs, F', by rw [hres]; exact results_list h2, h3⟩
    have hend : ∀ {raw' : List (List V)} {a : Act} {w' : World}, raw' = raw → RT raw' a w' → a.defers = [] ∧ ∃ v, (results fn0 a.tmps).run P w' = .ok v w' ∧ ∃ vs F', Ending.returned v = .returned (tupV vs) ∧ SimPost P F w g cs raw vs F' w' := by
      rintro raw' a w' rfl ⟨h1, vs, F', h2, h3⟩
      exact ⟨h1, _, h2, vs, F', rfl, h3⟩
    simp only [Option.bind_eq_some_iff] at hc
    obtain ⟨r, hr1, hc⟩ := hc
    have hcx : cxOf P sg hs fn g = ⟨P, sg, N.st, hs, fun α => ((compRet P g fn.results.toList).run α).map (·.1)⟩ := by rw [hNs]; rfl
    have hno : ∀ {α2 : Al}, r.nm = some α2 → ((comp (cxOf P sg hs fn g) c (inAl fn.ntmps g.ps)).map fun r => r.nm.isNone) = some true → False := fun h1 h2 => by
      rw [hr1] at h2
      simp [h1] at h2
    rw [hcx] at hr1
    split at hc
    · rename_i hnm
      split at hc
      · rename_i hex
        cases hc
        refine wp_mono (comp_ok (RT := RT) hsims hm hret c hr1 R hn) fun e a w' hp => ?_
        cases e <;> first | exact hp.elim | skip
        exact ⟨hend rfl hp, fun _ => rfl⟩
      · cases hc
    · rename_i α1 hnm
      simp only [Option.bind_eq_some_iff] at hc
      obtain ⟨⟨i, lk⟩, hi, hc⟩ := hc
      split at hc
      · rename_i hex
        cases hc
        simp only [VC.run, Option.bind_eq_some_iff] at hn
        obtain ⟨out1, hn1, hn2⟩ := hn
        refine wp_mono (comp_ok (RT := RT) hsims hm hret c hr1 R hn1) fun e a w' hp => ?_
        cases out1 with
        | norm ν' =>
          cases e <;> first | exact hp.elim | skip
          obtain ⟨γ, L', hb', R'⟩ := hp
          rw [hnm] at hb'; cases hb'
          simp only at hn2
          obtain ⟨raw', h1, h2⟩ := hret α1 i ν' L' a w' (.ret raw) (by rw [hi]; rfl) R' hn2
          cases h1
          exact ⟨hend rfl h2, fun hh => (hno hnm hh).elim⟩
        | exit id ν' => simp only [Option.some.injEq] at hn2; cases hn2
        | ret raw' =>
          simp only [Option.some.injEq, Out.ret.injEq] at hn2
          subst hn2
          cases e <;> first | exact hp.elim | skip
          exact ⟨hend rfl hp, fun _ => rfl⟩
      · cases hc
  · cases hc
theorem compF_chk {sg : Sigs} {hs : Nat → Nat → Nat} {fn : Func} {g : Sig} {vc : VC} (hc : compF P sg hs fn g = some vc) : g.ps.length ≤ fn.ntmps ∧ g.ps.all (fun p => ms64 0 p.ms) = true ∧ ∃ c, fn.body = some c := by
  unfold compF at hc
  split at hc
  · rename_i hchk
    rw [Bool.and_eq_true, decide_eq_true_eq] at hchk
    split at hc
    · rename_i c hb
      exact ⟨hchk.1, hchk.2, c, hb⟩
    · cases hc
  · cases hc
theorem sim_of_body {GW : World → Prop} (hG : GWDep GW) (hm : P.follows .mixedOrders = true) {f : FuncId} {fn : Func} {g : Sig} {sg : Sigs} {hs : Nat → Nat → Nat} {vc : VC} {φ : List (List V) → Option (List (List V))} (hf : P.funcs[f]? = some fn) (hname : (fn.name == "runtime.NumGoroutine") = false)
    (hc : compF P sg hs fn g = some vc) (hsim : ∀ f k g, (k, g) ∈ sg f → Sim P GW f g (Φ f k)) (hφ : ∀ xss raw, φ xss = some raw → ∃ n, vc.run Φ n (env0 g.ps xss) = some (.ret raw)) : Sim P GW f g φ := by
  obtain ⟨h1, h2, c, hb⟩ := compF_chk hc
  refine ⟨⟨fn, hf, hname, by rw [hb]; rfl⟩, fun F S w xss cs raw hFS hS hA hnd hB hgw h0n hr => ?_⟩
  obtain ⟨n, hn⟩ := hφ xss raw hr
  exact calls_of_wp hf hb (wp_mono (body_wp hG hm hb rfl rfl hc hsim hA hgw h0n (entry (P := P) (kl := keepS 0 g.ps) hFS hS hA hnd hB h1 h2) hn) fun _ _ _ h => h.1)
/-- a slot of which nothing is known may hold whatever -/
theorem Rel.putDead (R : Rel P w0 M N α ν L a w) {d : Nat} (hd : N.W d) (h : α.slot d = .one .dead) (v : Value) : Rel P w0 M N α ν L (a.put (some d) v) w := by
  have R1 := R.put hd (h := .one .dead) (xs := ν (sC d)) (v := v) trivial
  have e : ν.upd (sC d) (ν (sC d)) = ν := by
    funext c
    by_cases hc : c = sC d
    · subst hc; rw [upd_same]
    · rw [upd_ne hc]
  rw [e] at R1
  refine R1.congr (fun s => ?_) (fun u => rfl)
  rw [slot_setS]
  split
  · rename_i hs; rw [hs.1, h]
  · rfl
end
end Go.Proofs.YtlhcgiegganbpaaDoorVs
set_option linter.unusedVariables false
set_option linter.unusedSimpArgs false
namespace Go.Proofs.YtlhcgiegganbpaaDoorVs
/-! ### more answers -/
def FLe (Φ Ψ : Funs) : Prop := ∀ f k xss raw, Φ f k xss = some raw → Ψ f k xss = some raw
theorem FLe.refl (Φ : Funs) : FLe Φ Φ := fun _ _ _ _ h => h
theorem FLe.trans {Φ Ψ Χ : Funs} (h : FLe Φ Ψ) (h' : FLe Ψ Χ) : FLe Φ Χ := fun f k xss raw e => h' f k xss raw (h f k xss raw e)
def isCall : VF → Bool
  | .call .. => true
  | .callc .. => true
  | _ => false
theorem sem_cases {Φ : Funs} {f : VF} {args r : List (List V)} (h : f.sem Φ args = some r) : (∀ Ψ : Funs, f.sem Ψ args = some r) ∨ ∃ k w xss raw, Φ k w xss = some raw ∧ ∀ Ψ : Funs, Ψ k w xss = some raw → f.sem Ψ args = some r := by
  unfold VF.sem at h
  split at h <;> first
    | cases h; done
    | (simp only [Option.bind_eq_some_iff] at h
       obtain ⟨xss, h1, raw, h2, h3⟩ := h
       exact .inr ⟨_, _, _, raw, h2, fun Ψ hΨ => by simp only [VF.sem, Option.bind_eq_some_iff]; exact ⟨xss, h1, raw, hΨ, h3⟩⟩)
    | (simp only [Option.bind_eq_some_iff] at h
       obtain ⟨q, h4, cs, h5, xss, h1, raw, h2, h3⟩ := h
       exact .inr ⟨_, _, _, raw, h2, fun Ψ hΨ => by simp only [VF.sem, Option.bind_eq_some_iff]; exact ⟨q, h4, cs, h5, xss, h1, raw, hΨ, h3⟩⟩)
    | exact .inl fun Ψ => h
theorem sem_mono {Φ Ψ : Funs} (hl : FLe Φ Ψ) {f : VF} {args r : List (List V)} (h : f.sem Φ args = some r) : f.sem Ψ args = some r := by
  rcases sem_cases h with h1 | ⟨k, w, xss, raw, h1, h2⟩
  · exact h1 Ψ
  · exact h2 Ψ (hl _ _ _ _ h1)
theorem vi_mono {Φ Ψ : Funs} (hl : FLe Φ Ψ) {i : VI} {ν ν' : Env} (h : i.run Φ ν = some ν') : i.run Ψ ν = some ν' := by
  unfold VI.run at h ⊢
  split at h
  · rename_i hc
    rw [if_pos hc]
    simp only [Option.bind_eq_some_iff] at h ⊢
    obtain ⟨r, h1, h2⟩ := h
    exact ⟨r, sem_mono hl h1, h2⟩
  · cases h
theorem runIs_mono {Φ Ψ : Funs} (hl : FLe Φ Ψ) : ∀ {is : List VI} {ν ν' : Env}, runIs Φ is ν = some ν' → runIs Ψ is ν = some ν'
  | [], _, _, h => h
  | i :: r, ν, ν', h => by
    simp only [runIs, Option.bind_eq_some_iff] at h ⊢
    obtain ⟨ν1, h1, h2⟩ := h
    exact ⟨ν1, vi_mono hl h1, runIs_mono hl h2⟩
theorem vg_mono {Φ Ψ : Funs} (hl : FLe Φ Ψ) {g : VG} {ν ν' : Env} (h : g.run Φ ν = some ν') : g.run Ψ ν = some ν' := by
  unfold VG.run at h ⊢
  split at h
  · exact runIs_mono hl h
  · split at h
    · split at h
      · rename_i hb
        simp only [if_pos hb, Option.bind_eq_some_iff] at h ⊢
        obtain ⟨ν1, h1, h2⟩ := h
        exact ⟨ν1, runIs_mono hl h1, h2⟩
      · rename_i hb
        rw [if_neg hb]; exact h
    · exact h
    · cases h
theorem runGs_mono {Φ Ψ : Funs} (hl : FLe Φ Ψ) : ∀ {gs : List VG} {ν ν' : Env}, runGs Φ gs ν = some ν' → runGs Ψ gs ν = some ν'
  | [], _, _, h => h
  | g :: r, ν, ν', h => by
    simp only [runGs, Option.bind_eq_some_iff] at h ⊢
    obtain ⟨ν1, h1, h2⟩ := h
    exact ⟨ν1, vg_mono hl h1, runGs_mono hl h2⟩
theorem loopN_mono {f g : Env → Option Out} (hl : ∀ ν out, f ν = some out → g ν = some out) : ∀ {n m : Nat} {ν : Env} {out : Out}, n ≤ m → loopN f n ν = some out → loopN g m ν = some out
  | 0, m, ν, out, _, h => by cases h
  | n + 1, 0, ν, out, hm, h => by omega
  | n + 1, m + 1, ν, out, hm, h => by
    simp only [loopN, Option.bind_eq_some_iff] at h ⊢
    obtain ⟨o1, h1, h2⟩ := h
    refine ⟨o1, hl _ _ h1, ?_⟩
    cases o1 with
    | norm ν' => exact loopN_mono hl (by omega) h2
    | exit id ν' => exact h2
    | ret raw => exact h2
theorem run_mono {Φ Ψ : Funs} (hl : FLe Φ Ψ) {n m : Nat} (hn : n ≤ m) : ∀ (c : VC) {ν : Env} {out : Out}, c.run Φ n ν = some out → c.run Ψ m ν = some out
  | .ins gs, ν, out, h => by
    simp only [VC.run, Option.map_eq_some_iff] at h ⊢
    obtain ⟨ν1, h1, h2⟩ := h
    exact ⟨ν1, runGs_mono hl h1, h2⟩
  | .seq a b, ν, out, h => by
    simp only [VC.run, Option.bind_eq_some_iff] at h ⊢
    obtain ⟨o1, h1, h2⟩ := h
    refine ⟨o1, run_mono hl hn a h1, ?_⟩
    cases o1 with
    | norm ν' => exact run_mono hl hn b h2
    | exit id ν' => exact h2
    | ret raw => exact h2
  | .cond c J x y, ν, out, h => by
    simp only [VC.run] at h ⊢
    split at h
    · split at h
      · rename_i hb; rw [if_pos hb]; exact run_mono hl hn x h
      · rename_i hb; rw [if_neg hb]; exact run_mono hl hn y h
    · cases h
  | .block id J b, ν, out, h => by
    simp only [VC.run, Option.map_eq_some_iff] at h ⊢
    obtain ⟨o1, h1, h2⟩ := h
    exact ⟨o1, run_mono hl hn b h1, h2⟩
  | .loop b, ν, out, h => by
    simp only [VC.run] at h ⊢
    exact loopN_mono (fun ν out h => run_mono hl hn b h) hn h
  | .exit id, ν, out, h => h
  | .ret i, ν, out, h => by
    simp only [VC.run] at h ⊢
    split at h
    · rename_i hb
      rw [if_pos hb]
      simp only [Option.map_eq_some_iff] at h ⊢
      obtain ⟨r, h1, h2⟩ := h
      exact ⟨r, sem_mono hl h1, h2⟩
    · cases h
  | .ren t u, ν, out, h => h
  | .stuck, ν, out, h => by cases h

/-! ### a program -/
structure Tab where
  vc : Nat → Nat → Option (VC × List PSh)
  gv : Nat → Nat → Option (List (List V) → Option (List (List V)))
def ev1 (T : Tab) (Φ : Funs) (n : Nat) : Funs := fun f k xss => match T.gv f k with
  | some φ => φ xss
  | none => match T.vc f k with
    | some (c, ps) => match c.run Φ n (env0 ps xss) with
      | some (.ret raw) => some raw
      | _ => none
    | none => none
def evalF (T : Tab) : Nat → Funs
  | 0 => fun _ _ _ => none
  | n + 1 => ev1 T (evalF T n) n
theorem ev1_mono {T : Tab} {Φ Ψ : Funs} (hl : FLe Φ Ψ) {n m : Nat} (hn : n ≤ m) : FLe (ev1 T Φ n) (ev1 T Ψ m) := by
  intro f k xss raw h
  unfold ev1 at h ⊢
  split at h
  · exact h
  · split at h
    · split at h
      · rename_i r hr
        cases h
        simp only [run_mono hl hn _ hr]
      · cases h
    · cases h
theorem evalF_succ {T : Tab} : ∀ (n : Nat), FLe (evalF T n) (evalF T (n + 1))
  | 0 => fun f k xss raw h => by cases h
  | n + 1 => ev1_mono (evalF_succ n) (by omega)
theorem evalF_mono {T : Tab} {n m : Nat} (h : n ≤ m) : FLe (evalF T n) (evalF T m) := by
  induction m with
  | zero =>
    have : n = 0 := by omega
    subst this; exact FLe.refl _
  | succ m ih =>
    by_cases e : n = m + 1
    · subst e; exact FLe.refl _
    · exact (ih (by omega)).trans (evalF_succ m)
open Classical in
/-- what the program's functions answer -/
noncomputable def Fix (T : Tab) : Funs := fun f k xss => if h : ∃ raw n, evalF T n f k xss = some raw then some h.choose else none
theorem fix_iff {T : Tab} {f k : Nat} {xss raw : List (List V)} : Fix T f k xss = some raw ↔ ∃ n, evalF T n f k xss = some raw := by
  unfold Fix
  constructor
  · intro h
    split at h
    · rename_i hh
      cases h
      exact hh.choose_spec
    · cases h
  · rintro ⟨n, h⟩
    have hh : ∃ raw n, evalF T n f k xss = some raw := ⟨raw, n, h⟩
    rw [dif_pos hh]
    obtain ⟨m, h2⟩ := hh.choose_spec
    have h3 := evalF_mono (Nat.le_max_left n m) _ _ _ _ h
    have h4 := evalF_mono (Nat.le_max_right n m) _ _ _ _ h2
    rw [h3] at h4
    exact h4.symm
theorem fle_fix {T : Tab} (n : Nat) : FLe (evalF T n) (Fix T) := fun f k xss raw h => fix_iff.2 ⟨n, h⟩
/-- an answer needs finitely many calls -/
def Cpt {β γ : Type} (f : Funs → γ → Option β) (T : Tab) : Prop := ∀ x r, f (Fix T) x = some r → ∃ n, f (evalF T n) x = some r
section
variable {T : Tab}
theorem sem_cpt (f : VF) : Cpt (fun Φ args => f.sem Φ args) T := by
  intro args r h
  rcases sem_cases h with h1 | ⟨k, w, xss, raw, h2, h3⟩
  · exact ⟨0, h1 _⟩
  · obtain ⟨n, h4⟩ := fix_iff.1 h2
    exact ⟨n, h3 _ h4⟩
theorem vi_cpt (i : VI) : Cpt (fun Φ ν => i.run Φ ν) T := by
  intro ν r h
  simp only [VI.run] at h ⊢
  split at h
  · rename_i hc
    simp only [if_pos hc, Option.bind_eq_some_iff] at h ⊢
    obtain ⟨q, h1, h2⟩ := h
    obtain ⟨n, h3⟩ := sem_cpt i.f _ _ h1
    exact ⟨n, q, h3, h2⟩
  · cases h
theorem runIs_cpt : ∀ (is : List VI), Cpt (fun Φ ν => runIs Φ is ν) T
  | [], ν, r, h => ⟨0, h⟩
  | i :: is, ν, r, h => by
    simp only [runIs, Option.bind_eq_some_iff] at h ⊢
    obtain ⟨ν1, h1, h2⟩ := h
    obtain ⟨n, h3⟩ := vi_cpt i _ _ h1
    obtain ⟨m, h4⟩ := runIs_cpt is _ _ h2
    exact ⟨max n m, ν1, vi_mono (evalF_mono (Nat.le_max_left n m)) h3, runIs_mono (evalF_mono (Nat.le_max_right n m)) h4⟩
theorem vg_cpt (g : VG) : Cpt (fun Φ ν => g.run Φ ν) T := by
  intro ν r h
  simp only [VG.run] at h ⊢
  split at h
  · exact runIs_cpt _ _ _ h
  · split at h
    · split at h
      · rename_i hb
        simp only [if_pos hb, Option.bind_eq_some_iff] at h ⊢
        obtain ⟨ν1, h1, h2⟩ := h
        obtain ⟨n, h3⟩ := runIs_cpt _ _ _ h1
        exact ⟨n, ν1, h3, h2⟩
      · rename_i hb
        exact ⟨0, by rw [if_neg hb]; exact h⟩
    · exact ⟨0, h⟩
    · cases h
theorem runGs_cpt : ∀ (gs : List VG), Cpt (fun Φ ν => runGs Φ gs ν) T
  | [], ν, r, h => ⟨0, h⟩
  | i :: is, ν, r, h => by
    simp only [runGs, Option.bind_eq_some_iff] at h ⊢
    obtain ⟨ν1, h1, h2⟩ := h
    obtain ⟨n, h3⟩ := vg_cpt i _ _ h1
    obtain ⟨m, h4⟩ := runGs_cpt is _ _ h2
    exact ⟨max n m, ν1, vg_mono (evalF_mono (Nat.le_max_left n m)) h3, runGs_mono (evalF_mono (Nat.le_max_right n m)) h4⟩
theorem loopN_cpt {f : Funs → Env → Option Out} (hf : Cpt f T) (hm : ∀ {Φ Ψ : Funs}, FLe Φ Ψ → ∀ ν out, f Φ ν = some out → f Ψ ν = some out) : ∀ (k : Nat), Cpt (fun Φ ν => loopN (f Φ) k ν) T
  | 0, ν, r, h => by cases h
  | k + 1, ν, r, h => by
    simp only [loopN, Option.bind_eq_some_iff] at h ⊢
    obtain ⟨o1, h1, h2⟩ := h
    obtain ⟨n, h3⟩ := hf _ _ h1
    cases o1 with
    | norm ν' =>
      obtain ⟨m, h4⟩ := loopN_cpt hf hm k _ _ h2
      exact ⟨max n m, _, hm (evalF_mono (Nat.le_max_left n m)) _ _ h3, loopN_mono (hm (evalF_mono (Nat.le_max_right n m))) (Nat.le_refl _) h4⟩
    | exit id ν' => exact ⟨n, _, h3, h2⟩
    | ret raw => exact ⟨n, _, h3, h2⟩
theorem run_cpt (n0 : Nat) : ∀ (c : VC), Cpt (fun Φ ν => c.run Φ n0 ν) T
  | .ins gs, ν, out, h => by
    simp only [VC.run, Option.map_eq_some_iff] at h ⊢
    obtain ⟨ν1, h1, h2⟩ := h
    obtain ⟨n, h3⟩ := runGs_cpt gs _ _ h1
    exact ⟨n, ν1, h3, h2⟩
  | .seq a b, ν, out, h => by
    simp only [VC.run, Option.bind_eq_some_iff] at h ⊢
    obtain ⟨o1, h1, h2⟩ := h
    obtain ⟨n, h3⟩ := run_cpt n0 a _ _ h1
    cases o1 with
    | norm ν' =>
      obtain ⟨m, h4⟩ := run_cpt n0 b _ _ h2
      exact ⟨max n m, _, run_mono (evalF_mono (Nat.le_max_left n m)) (Nat.le_refl _) a h3, run_mono (evalF_mono (Nat.le_max_right n m)) (Nat.le_refl _) b h4⟩
    | exit id ν' => exact ⟨n, _, h3, h2⟩
    | ret raw => exact ⟨n, _, h3, h2⟩
  | .cond c J x y, ν, out, h => by
    simp only [VC.run] at h ⊢
    split at h
    · split at h
      · rename_i hb; simp only [if_pos hb]; exact run_cpt n0 x _ _ h
      · rename_i hb; simp only [if_neg hb]; exact run_cpt n0 y _ _ h
    · cases h
  | .block id J b, ν, out, h => by
    simp only [VC.run, Option.map_eq_some_iff] at h ⊢
    obtain ⟨o1, h1, h2⟩ := h
    obtain ⟨n, h3⟩ := run_cpt n0 b _ _ h1
    exact ⟨n, o1, h3, h2⟩
  | .loop b, ν, out, h => loopN_cpt (f := fun Φ ν => b.run Φ n0 ν) (run_cpt n0 b) (fun hl ν out h => run_mono hl (Nat.le_refl _) b h) n0 ν out h
  | .exit id, ν, out, h => ⟨0, h⟩
  | .ret i, ν, out, h => by
    simp only [VC.run] at h ⊢
    split at h
    · rename_i hb
      simp only [if_pos hb, Option.map_eq_some_iff] at h ⊢
      obtain ⟨r, h1, h2⟩ := h
      obtain ⟨n, h3⟩ := sem_cpt i.f _ _ h1
      exact ⟨n, r, h3, h2⟩
    · cases h
  | .ren t u, ν, out, h => ⟨0, h⟩
  | .stuck, ν, out, h => by cases h
/-- a function's answer out of its text -/
theorem fix_intro {f k n : Nat} {c : VC} {ps : List PSh} {xss raw : List (List V)} (hg : T.gv f k = none) (hc : T.vc f k = some (c, ps)) (h : c.run (Fix T) n (env0 ps xss) = some (.ret raw)) : Fix T f k xss = some raw := by
  obtain ⟨m, h1⟩ := run_cpt n c _ _ h
  refine fix_iff.2 ⟨max n m + 1, ?_⟩
  have h2 := run_mono (evalF_mono (T := T) (Nat.le_max_right n m)) (Nat.le_max_left n m) c h1
  simp only [evalF, ev1, hg, hc, h2]
theorem fix_given {f k : Nat} {φ : List (List V) → Option (List (List V))} {xss raw : List (List V)} (hg : T.gv f k = some φ) (h : φ xss = some raw) : Fix T f k xss = some raw :=
  fix_iff.2 ⟨1, by simp only [evalF, ev1, hg, h]⟩

/-! ### the program's contracts -/
inductive Entry (P : Program) (GW : World → Prop) (sg : Sigs) (T : Tab) (f k : Nat) (g : Sig) : Prop
  | given (φ : List (List V) → Option (List (List V))) (h : T.gv f k = some φ) (hs : Sim P GW f g φ)
  | told (fn : Func) (hs : Nat → Nat → Nat) (c : VC) (hg : T.gv f k = none) (hf : P.funcs[f]? = some fn) (hn : (fn.name == "runtime.NumGoroutine") = false) (hc : compF P sg hs fn g = some c) (ht : T.vc f k = some (c, g.ps))
theorem sims_fix {P : Program} {GW : World → Prop} {sg : Sigs} (hG : GWDep GW) (hm : P.follows .mixedOrders = true) (H : ∀ f k g, (k, g) ∈ sg f → Entry P GW sg T f k g) : ∀ f k g, (k, g) ∈ sg f → Sim P GW f g (Fix T f k) := by
  have key : ∀ n f k g, (k, g) ∈ sg f → Sim P GW f g (evalF T n f k) := by
    intro n
    induction n with
    | zero =>
      intro f k g h
      refine ⟨?_, fun F S w xss cs raw _ _ _ _ _ _ _ hr => by cases hr⟩
      cases H f k g h with
      | given φ _ hs => exact hs.en
      | told fn hs c hg hf hn hc ht =>
        refine ⟨fn, hf, hn, ?_⟩
        unfold compF at hc
        split at hc
        · split at hc
          · rename_i b hb; rw [hb]; rfl
          · cases hc
        · cases hc
    | succ n ih =>
      intro f k g h
      cases H f k g h with
      | given φ h1 hs =>
        refine ⟨hs.en, fun F S w xss cs raw a1 a2 a3 a4 a5 a6 a7 hr => hs.calls F S w xss cs raw a1 a2 a3 a4 a5 a6 a7 ?_⟩
        simp only [evalF, ev1, h1] at hr
        exact hr
      | told fn hs c hg hf hn hc ht =>
        refine sim_of_body hG hm hf hn hc ih (fun xss raw hr => ⟨n, ?_⟩)
        simp only [evalF, ev1, hg, ht] at hr
        split at hr
        · rename_i r hr1
          cases hr
          exact hr1
        · cases hr
  intro f k g h
  refine ⟨(key 0 f k g h).en, fun F S w xss cs raw a1 a2 a3 a4 a5 a6 a7 hr => ?_⟩
  obtain ⟨n, hn⟩ := fix_iff.1 hr
  exact (key n f k g h).calls F S w xss cs raw a1 a2 a3 a4 a5 a6 a7 hn
end
end Go.Proofs.YtlhcgiegganbpaaDoorVs
set_option linter.unusedVariables false
set_option linter.unusedSimpArgs false
namespace Go.Proofs.YtlhcgiegganbpaaDoorVs
inductive SA where
  | x (i : Nat)
  | k (v : V)
/-- a function's text: values stand in a list, the newest one first -/
inductive Tm where
  | op1 (f : VF) (args : List (List SA)) (k : Tm)
  | opn (f : VF) (args : List (List SA)) (n : Nat) (k : Tm)
  | call (f w : Nat) (ins : List (List SA)) (ps : List (Nat × Nat)) (k : Tm)
  | chk (kd : Nat) (a : SA) (k : Tm)
  | ite (c : SA) (a b : Tm)
  | gd (c : SA) (want ud : Bool) (a b : Tm)
  | norm (lens : List Nat) (as : List SA)
  | exit (id : Nat) (lens : List Nat) (as : List SA)
  | ret (rs : List (List SA))
  | blk (id : Option Nat) (b : Tm) (lens : List Nat) (k : Tm)
  | lp (lens : List Nat) (init : List SA) (b : Tm)
  | fail

/-! ### what a text answers -/
inductive TO where
  | norm (lens : List Nat) (vs : List V)
  | exit (id : Nat) (lens : List Nat) (vs : List V)
  | ret (rs : List (List V))
abbrev TR := Option TO
def Cur : Nat → Type → Type
  | 0, β => β
  | n + 1, β => V → Cur n β
def cur {β : Type} : (n : Nat) → (List V → β) → Cur n β
  | 0, f => f []
  | n + 1, f => fun x => cur n fun l => f (x :: l)
def app : (n : Nat) → Cur n TR → List V → TR
  | 0, k, [] => k
  | n + 1, k, x :: r => app n (k x) r
  | _, _, _ => none
def k1 (k : V → TR) : List (List V) → TR
  | [[z]] => k z
  | _ => none
def kn (n : Nat) (k : Cur n TR) : List (List V) → TR
  | [zs] => app n k zs
  | _ => none
def op1V (Φ : Funs) (f : VF) (args : List (List V)) (k : V → TR) : TR := (f.sem Φ args).bind (k1 k)
def opnV (Φ : Funs) (f : VF) (args : List (List V)) (n : Nat) (k : Cur n TR) : TR := (f.sem Φ args).bind (kn n k)
def callV (Φ : Funs) (f w : Nat) (ins : List (List V)) (n : Nat) (ps : List (Nat × Nat)) (k : Cur n TR) : TR := (Φ f w ins).bind fun raw => (pks raw ps).bind (app n k)
def chkV (kd : Nat) (a : V) (k : TR) : TR := match kd, a with
  | 0, .unit => k
  | 1, .bool true => k
  | 2, .undef => none
  | 2, _ => k
  | _, _ => none
def iteV (c : V) (a b : TR) : TR := match c with
  | .bool true => a
  | .bool false => b
  | _ => none
def gdV (c : V) (want ud : Bool) (a b : TR) : TR := match c with
  | .bool x => if x = want then a else b
  | .undef => if ud then b else none
  | _ => none
def blkV (id : Option Nat) (lens : List Nat) (r : TR) (k : List V → TR) : TR := r.bind fun o => match o with
  | .norm l vs => if l = lens then k vs else none
  | .exit j l vs => if id = some j then (if l = lens then k vs else none) else some (.exit j l vs)
  | .ret rs => some (.ret rs)
def lpV (lens : List Nat) (f : List V → TR) : Nat → List V → TR
  | 0, _ => none
  | n + 1, vs => (f vs).bind fun o => match o with
    | .norm l vs' => if l = lens then lpV lens f n vs' else none
    | o => some o
def SA.get (vs : List V) : SA → V
  | .x i => vs.getD i .undef
  | .k v => v
def gets (vs : List V) (as : List SA) : List V := as.map (SA.get vs)
def total (l : List Nat) : Nat := l.foldr (· + ·) 0
def Tm.eval (Φ : Funs) (n : Nat) : Tm → List V → TR
  | .op1 f args k, vs => op1V Φ f (args.map (gets vs)) fun z => k.eval Φ n (z :: vs)
  | .opn f args m k, vs => opnV Φ f (args.map (gets vs)) m (cur m fun zs => k.eval Φ n (zs.reverse ++ vs))
  | .call f w ins ps k, vs => callV Φ f w (ins.map (gets vs)) ps.length ps (cur ps.length fun zs => k.eval Φ n (zs.reverse ++ vs))
  | .chk kd a k, vs => chkV kd (a.get vs) (k.eval Φ n vs)
  | .ite c a b, vs => iteV (c.get vs) (a.eval Φ n vs) (b.eval Φ n vs)
  | .gd c want ud a b, vs => gdV (c.get vs) want ud (a.eval Φ n vs) (b.eval Φ n vs)
  | .norm lens as, vs => some (.norm lens (gets vs as))
  | .exit id lens as, vs => some (.exit id lens (gets vs as))
  | .ret rs, vs => some (.ret (rs.map (gets vs)))
  | .blk id b lens k, vs => blkV id lens (b.eval Φ n vs) (app (total lens) (cur (total lens) fun zs => k.eval Φ n (zs.reverse ++ vs)))
  | .lp lens init b, vs => lpV lens (app (total lens) (cur (total lens) fun zs => b.eval Φ n (zs.reverse ++ vs))) n (gets vs init)
  | .fail, _ => none

/-! ### the telling -/
structure St where
  σ : List (Nat × List SA)
  d : Nat
  df : List Nat
def lkS : List (Nat × List SA) → Nat → Option (List SA)
  | [], _ => none
  | (p, as) :: r, q => if p = q then some as else lkS r q
def stS : List (Nat × List SA) → Nat → List SA → List (Nat × List SA)
  | [], q, bs => [(q, bs)]
  | (p, as) :: r, q, bs => if p = q then (q, bs) :: r else (p, as) :: stS r q bs
def stSs : List (Nat × List SA) → List Nat → List (List SA) → List (Nat × List SA)
  | σ, q :: qs, bs :: bss => stSs (stS σ q bs) qs bss
  | σ, _, _ => σ
def SA.at (d : Nat) : SA → SA
  | .x i => .x (d - 1 - i)
  | .k v => .k v
inductive Em where
  | op1 (f : VF) (args : List (List SA))
  | opn (f : VF) (args : List (List SA)) (n : Nat)
  | call (f w : Nat) (ins : List (List SA)) (ps : List (Nat × Nat))
  | chk (kd : Nat) (a : SA)
def ats (d : Nat) (as : List SA) : List SA := as.map (SA.at d)
def emT : List Em → Nat → Tm → Tm
  | [], _, t => t
  | .op1 f args :: r, d, t => .op1 f (args.map (ats d)) (emT r (d + 1) t)
  | .opn f args n :: r, d, t => .opn f (args.map (ats d)) n (emT r (d + n) t)
  | .call f w ins ps :: r, d, t => .call f w (ins.map (ats d)) ps (emT r (d + ps.length) t)
  | .chk kd a :: r, d, t => .chk kd (a.at d) (emT r d t)
def fresh (d n : Nat) : List SA := (List.range n).map fun j => .x (d + j)
def isUnitA : SA → Bool
  | .k .unit => true
  | _ => false
def isTrueA : SA → Bool
  | .k (.bool true) => true
  | _ => false
def isDefA (df : List Nat) : SA → Bool
  | .k .undef => false
  | .k _ => true
  | .x i => df.contains i
def cell (σ : List (Nat × List SA)) (p : Nat × Nat) : Option SA := (lkS σ p.1).bind (·[p.2]?)
/-- looks that certain atoms are told, if that is not known -/
def ndE (df : List Nat) : List SA → List Em × List Nat
  | [] => ([], df)
  | a :: r => if isDefA df a then ndE df r else match a with
    | .x i => let q := ndE (i :: df) r; (.chk 2 a :: q.1, q.2)
    | .k _ => let q := ndE df r; (.chk 2 a :: q.1, q.2)
def chkE (kd : Nat) (ok : SA → Bool) : List SA → List Em
  | [] => []
  | a :: r => if ok a then chkE kd ok r else .chk kd a :: chkE kd ok r
def argS (σ : List (Nat × List SA)) : VArg → Option (List SA)
  | .c i => lkS σ i
  | .lit vs => some (vs.map .k)
def pkS (args : List (List SA)) (p : Nat × Nat) : Option SA := (args[p.1]?).bind (·[p.2]?)
def arity : VF → List (List SA) → Option Nat
  | .gather _, _ => none
  | .call .., _ => none
  | .pick, [_, xs, _] => some xs.length
  | .pick, _ => none
  | .ldi _ n _ _, _ => some n
  | .ldo _ n _, _ => some n
  | _, _ => some 1
def neverU : VF → Bool
  | .gather _ | .call .. | .callc .. | .pick | .idx _ | .ldi .. | .ldo .. => false
  | _ => true
/-- what a call's answer brings: places' atoms, from level d on -/
def outAs (d : Nat) : Nat → List (Option (Nat × Nat)) → List SA × Nat
  | j, [] => ([], j)
  | j, none :: r => let q := outAs d j r; (.k .unit :: q.1, q.2)
  | j, some _ :: r => let q := outAs d (j + 1) r; (.x (d + j) :: q.1, q.2)
def outAss (d : Nat) : Nat → List (List (Option (Nat × Nat))) → List (List SA)
  | _, [] => []
  | j, l :: r => let q := outAs d j l; q.1 :: outAss d q.2 r
def syVI (i : VI) (s : St) : Option (List Em × St) :=
  (i.chk.mapM (cell s.σ)).bind fun cu => (i.asr.mapM (cell s.σ)).bind fun ct => (i.dfn.mapM (cell s.σ)).bind fun cd => (i.rd.mapM (argS s.σ)).bind fun args =>
    let e1 := chkE 0 isUnitA cu ++ chkE 1 isTrueA ct
    let q1 := ndE s.df cd
    match i.f with
    | .gather pss => (pss.mapM fun (ps : List (Nat × Nat)) => ps.mapM (pkS args)).bind fun outs =>
        if outs.length = i.wr.length then
          let q2 := ndE q1.2 outs.flatten
          some (e1 ++ (q1.1 ++ q2.1), ⟨stSs s.σ i.wr outs, s.d, q2.2⟩)
        else none
    | .call f w ins outs => (ins.mapM fun (ps : List (Nat × Nat)) => ps.mapM (pkS args)).bind fun xss =>
        if outs.length = i.wr.length then
          let q2 := ndE q1.2 xss.flatten
          let ps := outs.flatten.filterMap id
          some (e1 ++ (q1.1 ++ (q2.1 ++ [.call f w xss ps])), ⟨stSs s.σ i.wr (outAss s.d 0 outs), s.d + ps.length, (List.range ps.length).map (s.d + ·) ++ q2.2⟩)
        else none
    | f => (arity f args).bind fun n => match i.wr with
      | [w] => if n = 1 then some (e1 ++ (q1.1 ++ [.op1 f args]), ⟨stS s.σ w [.x s.d], s.d + 1, if neverU f then s.d :: q1.2 else q1.2⟩)
          else some (e1 ++ (q1.1 ++ [.opn f args n]), ⟨stS s.σ w (fresh s.d n), s.d + n, q1.2⟩)
      | _ => none
def syIs : List VI → St → Option (List Em × St)
  | [], s => some ([], s)
  | i :: r, s => (syVI i s).bind fun q => (syIs r q.2).map fun q' => (q.1 ++ q'.1, q'.2)
def wrIs (is : List VI) : List Nat := (is.map (·.wr)).flatten
def wrG (g : VG) : List Nat := wrIs g.is ++ match g.gd, g.d with
  | some _, some d => [sC d]
  | _, _ => []
def VC.wr : VC → List Nat
  | .ins gs => (gs.map wrG).flatten
  | .seq a b => a.wr ++ b.wr
  | .cond _ _ x y => x.wr ++ y.wr
  | .block _ _ b => b.wr
  | .loop b => b.wr
  | .ren t u => [tC t, tC u]
  | _ => []
/-- behind a join: the places J hold new values -/
def joinS : List (Nat × List SA) → Nat → List Nat → List Nat → List (Nat × List SA)
  | σ, d, p :: ps, l :: ls => joinS (stS σ p (fresh d l)) (d + l) ps ls
  | σ, _, _, _ => σ
def St.join (s : St) (wr J : List Nat) (lens : List Nat) : St := ⟨joinS (s.σ.filter fun p => !wr.contains p.1) s.d J lens, s.d + total lens, s.df⟩
def leaf (s : St) (J : List Nat) : Option (List Nat × List SA) := (J.mapM (lkS s.σ)).map fun ass => (ass.map (·.length), ats s.d ass.flatten)
def undS (σ : List (Nat × List SA)) : Option Nat → List (Nat × List SA)
  | some d => stS σ (sC d) [.k .undef]
  | none => σ
def defE (s : St) : Option Nat → List Em
  | some d => match lkS s.σ (sC d) with
    | some [a] => if isDefA s.df a then [] else [.chk 2 a]
    | _ => []
  | none => []
/-- operations behind the same guard -/
def sameGd (c : Nat) (want ud : Bool) (g : VG) : Bool := g.ud == ud && match g.gd with
  | some (c', w') => c' == c && w' == want
  | none => false
def syGrp : List VG → St → Option (List Em × St)
  | [], s => some ([], s)
  | g :: r, s => (syIs g.is s).bind fun q => match lkS q.2.σ (g.d.elim 0 sC), g.d with
    | none, some _ => none
    | _, _ => (syGrp r q.2).map fun q' => (q.1 ++ (defE q.2 g.d ++ q'.1), q'.2)
def undG : List VG → List (Nat × List SA) → List (Nat × List SA)
  | [], σ => σ
  | g :: r, σ => undG r (undS σ g.d)
def spanG (c : Nat) (want ud : Bool) : List VG → List VG × List VG
  | [] => ([], [])
  | g :: r => if sameGd c want ud g then (if (wrG g).contains c then ([g], r) else let q := spanG c want ud r; (g :: q.1, q.2)) else ([], g :: r)
def nodupN : List Nat → Bool
  | [] => true
  | x :: r => !r.contains x && nodupN r
def rdA : VArg → List Nat
  | .c i => [i]
  | .lit _ => []
def rdI (i : VI) : List Nat := (i.rd.map rdA).flatten ++ (i.chk.map (·.1) ++ (i.asr.map (·.1) ++ i.dfn.map (·.1)))
def rdG (g : VG) : List Nat := (match g.gd with
  | some p => [p.1]
  | none => []) ++ (g.is.map rdI).flatten
def syGs (gl : List Nat) : Nat → List VG → St → (St → Option Tm) → Option Tm
  | _, [], s, K => K s
  | 0, _, _, _ => none
  | n + 1, g :: r, s, K => match g.gd with
    | none => (syIs g.is s).bind fun q => (syGs gl n r q.2 K).map (emT q.1 s.d)
    | some (c, want) =>
      let sp := spanG c want g.ud (g :: r)
      match lkS s.σ c with
      | some [a] => (syGrp sp.1 s).bind fun q =>
          let σf := undG sp.1 s.σ
          let wr := (sp.1.map wrG).flatten
          let nd := (sp.2.map rdG).flatten
          let J := (dedup wr).filter fun p => (gl.contains p || nd.contains p) && (lkS σf p).isSome && (lkS q.2.σ p).isSome
          (leaf q.2 J).bind fun lt => (leaf ⟨σf, s.d, s.df⟩ J).bind fun lf =>
            (syGs gl n sp.2 (s.join wr J lt.1) K).map fun k => .blk none (.gd (a.at s.d) want g.ud (emT q.1 s.d (.norm lt.1 lt.2)) (.norm lf.1 lf.2)) lt.1 k
      | _ => none
def VC.canN : VC → Bool
  | .ins _ => true
  | .seq a b => a.canN && b.canN
  | .cond _ _ x y => x.canN || y.canN
  | .block _ J _ => !J.isEmpty
  | .loop _ => false
  | .exit _ => false
  | .ret _ => false
  | .ren _ _ => true
  | .stuck => false
def VC.goes (id : Nat) : VC → Bool
  | .seq a b => a.goes id || b.goes id
  | .cond _ _ x y => x.goes id || y.goes id
  | .block _ _ b => b.goes id
  | .loop b => b.goes id
  | .exit j => j == id
  | _ => false
/-- of which sizes are the values of a way's end -/
def Tm.lensN : Tm → Option (List Nat)
  | .op1 _ _ k | .opn _ _ _ k | .call _ _ _ _ k | .chk _ _ k | .blk _ _ _ k => k.lensN
  | .ite _ a b | .gd _ _ _ a b => match a.lensN with
    | some l => some l
    | none => b.lensN
  | .norm l _ => some l
  | _ => none
def Tm.lensE (id : Nat) : Tm → Option (List Nat)
  | .op1 _ _ k | .opn _ _ _ k | .call _ _ _ _ k | .chk _ _ k => k.lensE id
  | .blk j b _ k => match (if j = some id then none else b.lensE id) with
    | some l => some l
    | none => k.lensE id
  | .ite _ a b | .gd _ _ _ a b => match a.lensE id with
    | some l => some l
    | none => b.lensE id
  | .lp _ _ b => b.lensE id
  | .exit j l _ => if j = id then some l else none
  | _ => none
def leafN (J : List Nat) (s : St) : Option Tm := (leaf s J).map fun l => .norm l.1 l.2
def syRet (i : VI) (s : St) : Option Tm := match i.f with
  | .gather pss => (i.chk.mapM (cell s.σ)).bind fun cu => (i.asr.mapM (cell s.σ)).bind fun ct => (i.rd.mapM (argS s.σ)).bind fun args => (pss.mapM fun (ps : List (Nat × Nat)) => ps.mapM (pkS args)).map fun outs =>
      emT (chkE 0 isUnitA cu ++ (chkE 1 isTrueA ct ++ (ndE s.df outs.flatten).1)) s.d (.ret (outs.map (ats s.d)))
  | _ => none
def lkJ (ex : List (Nat × List Nat)) (id : Nat) : Option (List Nat) := (ex.find? (·.1 == id)).map (·.2)
def sy (gl : List Nat) : VC → List (Nat × List Nat) → St → (St → Option Tm) → Option Tm
  | .ins gs, ex, s, K => syGs gl gs.length gs s K
  | .seq a b, ex, s, K => sy gl a ex s fun s' => sy gl b ex s' K
  | .ren t u, ex, s, K => match lkS s.σ (tC t), lkS s.σ (tC u) with
    | some a, some b => K { s with σ := stS (stS s.σ (tC u) a) (tC t) b }
    | some a, none => K { s with σ := stS (s.σ.filter fun p => p.1 != tC t) (tC u) a }
    | _, _ => none
  | .cond c J x y, ex, s, K => match lkS s.σ c with
    | some [.k (.bool b)] => if b then sy gl x ex s K else sy gl y ex s K
    | some [a] =>
      if x.canN && y.canN then
        let wr := (VC.cond c J x y).wr
        let J' := dedup (J.filter fun p => wr.contains p && gl.contains p)
        (sy gl x ex s (leafN J')).bind fun tx => (sy gl y ex s (leafN J')).bind fun ty => (Tm.lensN (.ite a tx ty)).bind fun lens =>
          if lens.length = J'.length ∧ nodupN J' = true then (K (s.join wr J' lens)).map fun k => .blk none (.ite (a.at s.d) tx ty) lens k else none
      else (sy gl x ex s K).bind fun tx => (sy gl y ex s K).map fun ty => .ite (a.at s.d) tx ty
    | _ => none
  | .block id J b, ex, s, K =>
    if b.goes id then
      let J' := dedup (J.filter fun p => b.wr.contains p && gl.contains p)
      (sy gl b ((id, J') :: ex) s (leafN J')).bind fun tb => match (match tb.lensE id with | some l => some l | none => tb.lensN) with
        | some lens => if lens.length = J'.length ∧ nodupN J' = true then (K (s.join b.wr J' lens)).map fun k => .blk (some id) tb lens k else none
        | none => none
    else sy gl b ex s K
  | .loop b, ex, s, K =>
    let J := (dedup b.wr).filter fun p => gl.contains p && (lkS s.σ p).isSome
    (leaf s J).bind fun l => (sy gl b ex (s.join b.wr J l.1) (leafN J)).map fun tb => .lp l.1 l.2 tb
  | .exit id, ex, s, K => (lkJ ex id).bind fun J => (leaf s J).map fun l => .exit id l.1 l.2
  | .ret i, ex, s, K => syRet i s
  | .stuck, ex, s, K => some .fail

/-! ### a function -/
def expIs : List Nat → List VI → List Nat
  | _, [] => []
  | w, i :: r => (rdI i).filter (fun p => !w.contains p) ++ expIs (i.wr ++ w) r
def expGs : List Nat → List VG → List Nat
  | _, [] => []
  | w, g :: r => (match g.gd with | some p => if w.contains p.1 then [] else [p.1] | none => []) ++ (expIs w g.is ++ expGs (wrG g ++ w) r)
def VC.exp : VC → List Nat
  | .ins gs => expGs [] gs
  | .seq a b => a.exp ++ b.exp
  | .cond _ _ x y => x.exp ++ y.exp
  | .block _ _ b => b.exp
  | .loop b => b.exp
  | .ren t u => [tC t, tC u]
  | .ret i => rdI i
  | _ => []
/-- the places of a parameter: of which slot, from which level on -/
def inP (s d : Nat) : PSh → List (Nat × List SA)
  | .one m => inPc (sC s) (tokS s 0) d [m]
  | .agg ms => inPc (sC s) (tokS s 0) d ms
  | .ptr _ ms => (sC s, [.k .unit]) :: inPc (bC (pinB + s)) (tokB (pinB + s) 0) d ms
  | .nilp => [(sC s, [.k .unit])]
  | .nils => [(sC s, [])]
  where
  inPc (p base d : Nat) (ms : List PM) : List (Nat × List SA) :=
    (p, (ms.zipIdx d).map fun q => if q.1 = .own then .k .unit else .x q.2) :: (ms.zipIdx.filterMap fun q => if q.1 = .own then some (tC (base + q.2), [.x (d + q.2)]) else none)
def inS : Nat → Nat → List PSh → List (Nat × List SA) × Nat
  | _, d, [] => ([], d)
  | s, d, p :: r => let q := inS (s + 1) (d + p.ms.length) r; (inP s d p ++ q.1, q.2)
def tmOf (c : VC) (ps : List PSh) : Option Tm := let q := inS 0 0 ps; sy (dedup c.exp) c [] ⟨q.1, q.2, []⟩ fun _ => none
end Go.Proofs.YtlhcgiegganbpaaDoorVs
