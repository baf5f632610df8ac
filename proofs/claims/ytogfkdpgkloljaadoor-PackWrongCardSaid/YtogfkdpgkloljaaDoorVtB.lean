/-
  A region's operations, with their guards. Conditions: each lemma's own premises.
-/
import Derived.Test.YtogfkdpgkloljaaDoorVtA
set_option linter.unusedVariables false
set_option linter.unusedSimpArgs false
namespace Go.Proofs.YtogfkdpgkloljaaDoorVs
def sameBs : List (Nat × Bx) → RM Unit
  | [] => .ok ()
  | p :: r => .bx p.1 fun b => do
    RM.need (b == some p.2)
    sameBs r
def okSetb (E : Eff) : RM Unit :=
  if E.setb.all fun p => E.kill.contains (bxK p.1) then .ok () else do
    RM.need (E.kill.all fun k => k % 2 == 0)
    sameBs E.setb
def own1S : Sh → Sh
  | .one a => .one a
  | _ => .one .dead
/-- one operation of a region; G: the slots whose 'undef' is Go's own -/
def stepOp (P : Program) (sg : Sigs) (h : Nat) (ops : Array Oper) (G : List Nat) (o : Oper) : RM (VG × Eff) := do
  let E ← cop P sg h o
  RM.need (E.vis.all fun i => i.wr.all fun c => c % 3 != 0 || o.dst == some (c / 3))
  match o.guard with
  | none => .ok ({ d := o.dst, is := E.vis }, E)
  | some (j, want) => match (ops[j]?).bind (·.dst) with
    | none => .no
    | some gs => .sl gs fun gh => match gh with
      | .one (.v _) => do
        okSetb E
        .ok ({ gd := some (sC gs, want), d := o.dst, is := E.vis, ud := G.contains gs }, { E with dst := own1S E.dst })
      | _ => .no
/-- .. the quick way -/
def Eff.apF (E : Eff) (α : Al) (d : Option Nat) : Al := match E with
  | ⟨_, [], [], sb, h⟩ => match d with
    | some d => (α.setBs sb).setS d h
    | none => α.setBs sb
  | E => E.ap α d
theorem apF_eq (E : Eff) (α : Al) (d : Option Nat) : E.apF α d = E.ap α d := by
  obtain ⟨vis, ks, st, sb, h⟩ := E
  cases ks with
  | cons => rfl
  | nil =>
    cases st with
    | cons => rfl
    | nil =>
      have e : (α.map (At.stale [])).map (At.kill []) = α := by rw [ap_sk, Al.sk_nil]
      simp only [Eff.apF, Eff.ap, e]
      cases d <;> rfl
def stepG (G : List Nat) (o : Oper) : List Nat := match o.dst with
  | none => G
  | some d => if o.guard.isSome then d :: G else G.filter (· != d)
section
variable {P : Program} {w0 : World} {M : Nat → Prop} {N : Fr} {α : Al} {ν ν' : Env} {L : Lay} {a : Act} {w w' : World} {Φ : Funs} {o : Oper} {d : Nat} {E : Eff}
theorem sameBs_ok : ∀ {l : List (Nat × Bx)} {c : Unit}, RM.out α (sameBs l) c → ∀ p ∈ l, α.box p.1 = some p.2
  | [], c, _ => by simp
  | p :: r, c, h => by
    simp only [sameBs, out_bx, out_bind, out_need, beq_iff_eq] at h
    obtain ⟨_, h1, h2⟩ := h
    intro q hq
    rcases List.mem_cons.1 hq with rfl | hq
    · exact h1
    · exact sameBs_ok h2 q hq
theorem okSetb_ok {c : Unit} (h : RM.out α (okSetb E) c) : (∀ p ∈ E.setb, bxK p.1 ∈ E.kill) ∨ ((∀ u, bxK u ∉ E.kill) ∧ ∀ p ∈ E.setb, α.box p.1 = some p.2) := by
  unfold okSetb at h
  split at h
  · rename_i hs
    left
    intro p hp
    have := List.all_eq_true.1 hs p hp
    exact List.contains_iff_mem.1 this
  · simp only [out_bind, out_need] at h
    obtain ⟨_, h1, h2⟩ := h
    refine .inr ⟨fun u hu => ?_, sameBs_ok h2⟩
    have := List.all_eq_true.1 h1 _ hu
    simp only [bxK, beq_iff_eq] at this
    omega
theorem Rel.sk (R : Rel P w0 M N α ν L a w) (st ks : List Nat) : Rel P w0 M N (α.sk st ks) ν L a w where
  nt := R.nt
  nd := R.nd
  kp := R.kp
  fs := R.fs
  sl := R.sl
  slots s := by
    rw [Al.sk, slot_map _ (sk_dead st ks)]
    exact (R.slots s).ext (Ext.refl L w R.fs ks st)
  rows := R.rows
  boxes u b ro hu x hx := by
    rw [Al.sk, box_map] at hx
    simp only [Option.map_eq_some_iff] at hx
    obtain ⟨y, hy, rfl⟩ := hx
    obtain ⟨h1, h2⟩ := R.boxes u b ro hu y hy
    exact ⟨h1, h2.ext (Ext.refl L w R.fs ks st) rfl⟩
  rowmine := R.rowmine
  boxmine := R.boxmine
  boxro := R.boxro
  rr := R.rr
  rb := R.rb
  bb := R.bb
def Lay.forget (L : Lay) (ks : List Nat) : Lay := { L with box := fun u => if bxK u ∈ ks then none else L.box u }
theorem forget_box {ks : List Nat} {u b : Nat} {ro : Bool} (h : (L.forget ks).box u = some (b, ro)) : bxK u ∉ ks ∧ L.box u = some (b, ro) := by
  simp only [Lay.forget] at h
  split at h
  · cases h
  · rename_i hn; exact ⟨hn, h⟩
theorem Rel.forget (R : Rel P w0 M N α ν L a w) (st ks : List Nat) : Rel P w0 M N (α.sk st ks) ν (L.forget ks) a w := by
  have E : Ext L (L.forget ks) w w ks st := ⟨fun _ h => h, fun _ h => h, R.fs, fun _ _ => rfl, fun _ _ _ h => h, fun _ _ _ _ _ _ _ => rfl, fun u b ro h1 h2 => by simp only [Lay.forget, if_neg h1]; exact h2⟩
  refine ⟨R.nt, R.nd, R.kp, R.fs, R.sl, fun s => ?_, R.rows, fun u b ro hu x hx => ?_, R.rowmine, fun u b hu => R.boxmine u b (forget_box hu).2, fun u b hu => R.boxro u b (forget_box hu).2, R.rr, fun t r u b ro h h1 hu => R.rb t r u b ro h h1 (forget_box hu).2, fun u u' b ro h h' => R.bb u u' b ro (forget_box h).2 (forget_box h').2⟩
  · rw [Al.sk, slot_map _ (sk_dead st ks)]
    exact (R.slots s).ext E
  · rw [Al.sk, box_map] at hx
    simp only [Option.map_eq_some_iff] at hx
    obtain ⟨y, hy, rfl⟩ := hx
    obtain ⟨h1, h2⟩ := R.boxes u b ro (forget_box hu).2 y hy
    exact ⟨h1, h2.ext E rfl⟩
theorem Rel.setBs_ok (R : Rel P w0 M N α ν L a w) {l : List (Nat × Bx)} (h : ∀ p ∈ l, ∀ b ro, L.box p.1 = some (b, ro) → p.2.ro = ro ∧ BoxOK P L w b p.2.as (ν (bC p.1))) : Rel P w0 M N (α.setBs l) ν L a w := by
  refine ⟨R.nt, R.nd, R.kp, R.fs, R.sl, fun s => by rw [slot_setBs]; exact R.slots s, R.rows, fun u b ro hu x hx => ?_, R.rowmine, R.boxmine, R.boxro, R.rr, R.rb, R.bb⟩
  rw [box_setBs'] at hx
  cases hs : setbOf l u with
  | some y =>
    rw [hs] at hx
    cases hx
    exact h (u, x) (List.mem_reverse.1 (find_mem hs)) b ro hu
  | none => rw [hs] at hx; exact R.boxes u b ro hu x hx
/-- an operation that is not wanted -/
theorem Rel.skip (R : Rel P w0 M N α ν L a w) {dst : Option Nat} (hd : ∀ d, dst = some d → N.W d) (hdst : ∃ a1, E.dst = .one a1) (hsb : (∀ p ∈ E.setb, bxK p.1 ∈ E.kill) ∨ ((∀ u, bxK u ∉ E.kill) ∧ ∀ p ∈ E.setb, α.box p.1 = some p.2)) :
    Goal P w0 M N (E.ap α dst) (ν.undef dst) (a.put dst undef) w := by
  have key : ∃ L', Rel P w0 M N ((α.sk E.stale E.kill).setBs E.setb) ν L' a w := by
    rcases hsb with h | ⟨h1, h2⟩
    · exact ⟨_, (R.forget E.stale E.kill).setBs_ok (fun p hp b ro hb => absurd (h p hp) (forget_box hb).1)⟩
    · exact ⟨_, (R.sk E.stale E.kill).setBs_ok (fun p hp b ro hb => R.boxes p.1 b ro hb p.2 (h2 p hp))⟩
  obtain ⟨L', R'⟩ := key
  cases dst with
  | none =>
    refine ⟨L', ?_⟩
    simp only [Eff.ap, ap_sk]
    exact R'
  | some d =>
    obtain ⟨a1, ha⟩ := hdst
    have : RSl P L' w E.dst [.undef] undef := by rw [ha]; exact RSl.one (RAs.one (.inl rfl))
    refine ⟨L', ?_⟩
    simp only [Eff.ap, ap_sk]
    exact R'.put (hd d rfl) this
theorem wp_put {K : Act → World → Prop} {Q : Exit → Act → World → Prop} (h : o.wp P a w K Q) (hK : ∀ a' w', K a' w' → a'.defers = []) : o.wp P a w (fun a' w' => K a' w' ∧ ∃ v, a' = a.put o.dst v) Q := by
  unfold Oper.wp at *
  generalize (execOp a.eval o).run P w = r at *
  cases r with
  | ok n w' =>
    cases n <;> simp only [Oper.upon] at h ⊢ <;>
      first
        | exact ⟨h, _, rfl⟩
        | exact Calls.mono h (fun e w'' he => by cases e <;> first | exact ⟨he, _, rfl⟩ | exact he)
        | exact Rows.mono h (fun _ _ he => ⟨he, _, rfl⟩)
        | (have := hK _ _ h; cases hdst : o.dst <;> simp [Act.put, hdst] at this)
        | exact h
  | halt x w' => cases x <;> simp only [Oper.upon] at h ⊢ <;> exact h
theorem yielded_of {ops : Array Oper} {tmps : Array Value} {j gs : Nat} {b : Bool} (hj : (ops[j]?).bind (·.dst) = some gs) (h : tmps.getD gs undef = .bool b) : yielded ops tmps j = some b := by
  unfold yielded
  rw [hj]
  simp only [Array.getD_eq_getD_getElem?] at h
  simp only [Option.bind_some]
  cases ht : tmps[gs]? with
  | none => rw [ht] at h; cases h
  | some v => rw [ht] at h; simp only [Option.getD_some] at h; subst h; rfl
theorem yielded_no {ops : Array Oper} {tmps : Array Value} {j gs : Nat} (hj : (ops[j]?).bind (·.dst) = some gs) (h : tmps.getD gs undef = undef) : yielded ops tmps j = none := by
  unfold yielded
  rw [hj]
  simp only [Array.getD_eq_getD_getElem?] at h
  simp only [Option.bind_some]
  cases ht : tmps[gs]? with
  | none => rfl
  | some v => rw [ht] at h; simp only [Option.getD_some] at h; subst h; rfl
def GInv (G : List Nat) (ν : Env) (a : Act) : Prop := ∀ s ∈ G, ν (sC s) = [.undef] → a.tmps.getD s undef = undef
/-- all functions that a step may call do what Φ says -/
def Sims (P : Program) (w0 : World) (M : Nat → Prop) (sg : Sigs) (Φ : Funs) : Prop := ∃ GW : World → Prop, GWOK GW w0 M ∧ ∀ f k g, (k, g) ∈ sg f → Sim P GW f g (Φ f k)
theorem GInv.step {G : List Nat} {ν ν' : Env} {a : Act} (h : GInv G ν a) {o : Oper} (v : Value) (hN : ∀ d, o.dst = some d → d < a.tmps.size) (hν : ∀ s, o.dst ≠ some s → ν' (sC s) = ν (sC s)) (hd : ∀ d, o.dst = some d → o.guard.isSome = true → ν' (sC d) = [.undef] → v = undef) : GInv (stepG G o) ν' (a.put o.dst v) := by
  intro s hs hu
  cases hdst : o.dst with
  | none =>
    simp only [stepG, hdst] at hs
    rw [hν s (by rw [hdst]; simp)] at hu
    exact h s hs hu
  | some d =>
    simp only [stepG, hdst] at hs
    rw [getD_put a d v s (hN d hdst)]
    by_cases hsd : s = d
    · subst hsd
      rw [if_pos rfl]
      split at hs
      · rename_i hg; exact hd s hdst hg hu
      · simp at hs
    · rw [if_neg hsd]
      rw [hν s (by rw [hdst]; simpa using fun e => hsd e.symm)] at hu
      refine h s ?_ hu
      split at hs
      · rcases List.mem_cons.1 hs with h1 | h1
        · exact absurd h1 hsd
        · exact h1
      · exact (List.mem_filter.1 hs).1
theorem wr_slots {E : Eff} {dst : Option Nat} (h : (E.vis.all fun i => i.wr.all fun c => c % 3 != 0 || dst == some (c / 3)) = true) {s : Nat} (hs : dst ≠ some s) : sC s ∉ (E.vis.map (·.wr)).flatten := by
  intro hm
  obtain ⟨i, hi, hc⟩ := mem_flat.1 hm
  have := List.all_eq_true.1 (List.all_eq_true.1 h i hi) _ hc
  simp only [sC, Nat.mul_mod_right, bne_self_eq_false, Bool.false_or, beq_iff_eq] at this
  rw [Nat.mul_div_cancel_left s (by omega)] at this
  exact hs this
theorem Rel.deadS {h : Sh} (R : Rel P w0 M N (α.setS d h) ν L a w) : Rel P w0 M N (α.setS d (.one .dead)) ν L a w := by
  refine ⟨R.nt, R.nd, R.kp, R.fs, R.sl, fun s => ?_, R.rows, R.boxes, R.rowmine, R.boxmine, R.boxro, R.rr, R.rb, R.bb⟩
  have := R.slots s
  rw [slot_setS] at this ⊢
  split at this
  · rename_i hc; rw [if_pos hc]; trivial
  · rename_i hc; rw [if_neg hc]; exact this
/-- a step of a region -/
theorem stepOp_if {sg : Sigs} {k : Nat} {ops : Array Oper} {G : List Nat} {g : VG} {K : Act → World → Prop} {Q : Exit → Act → World → Prop} (R : Rel P w0 M N α ν L a w) (hG : GInv G ν a) (hd : ∀ d, o.dst = some d → N.W d) (hsims : Sims P w0 M sg Φ)
    (h : RM.out α (stepOp P sg k ops G o) (g, E)) (hv : g.run Φ ν = some ν') (hK : ∀ a' w' L', Rel P w0 M N (E.ap α o.dst) ν' L' a' w' → GInv (stepG G o) ν' a' → K a' w') : if Region.wanted o (yielded ops a.tmps) = true then o.wp P a w K Q else K (a.put o.dst undef) w := by
  simp only [stepOp, out_bind, out_need] at h
  obtain ⟨E0, h0, _, hwr, h⟩ := h
  have hNa : ∀ d, o.dst = some d → d < a.tmps.size := fun d hd' => by rw [R.nt.size]; exact (hd d hd').1
  obtain ⟨GW, hgw, hsims⟩ := hsims
  have run0 : ∀ ν1, runIs Φ E0.vis ν = some ν1 → o.wp P a w (fun a' w' => Goal P w0 M N (E0.ap α o.dst) ν1 a' w' ∧ ∃ v, a' = a.put o.dst v) Q := fun ν1 hr =>
    wp_put (cop_ok R hd h0 hr (fun c f k gg h1 h2 h3 h4 h5 => copFunc_ok R hd h1 h2 h4 hgw (hsims f k gg h3) h5 hr) Q) (fun a' w' ⟨L', R'⟩ => R'.nd.nd)
  have hfr : ∀ ν1, runIs Φ E0.vis ν = some ν1 → ∀ s, o.dst ≠ some s → ν1 (sC s) = ν (sC s) := fun ν1 hr s hs => runIs_frame hr _ (wr_slots hwr hs)
  cases hgd : o.guard with
  | none =>
    simp only [hgd, out_ok, Prod.mk.injEq] at h
    obtain ⟨rfl, rfl⟩ := h
    have hw : Region.wanted o (yielded ops a.tmps) = true := by simp [Region.wanted, hgd]
    rw [if_pos hw]
    have hr : runIs Φ E.vis ν = some ν' := hv
    refine Oper.wp_mono ?_ (run0 ν' hr)
    rintro a' w' ⟨⟨L', R'⟩, v, rfl⟩
    exact hK _ _ L' R' (hG.step v hNa (hfr ν' hr) (fun d _ hg => by rw [hgd] at hg; cases hg))
  | some p =>
    obtain ⟨j, want⟩ := p
    simp only [hgd] at h
    split at h
    · rw [out_no] at h; exact h.elim
    · rename_i gs hj
      rw [out_sl] at h
      split at h
      · rename_i src hsl
        simp only [out_bind, out_ok, Prod.mk.injEq] at h
        obtain ⟨_, hsb, rfl, rfl⟩ := h
        have hsb' := okSetb_ok hsb
        have hgslot := R.slots gs
        rw [hsl] at hgslot
        obtain ⟨y, hy, hry⟩ := v_of hgslot
        simp only [VG.run, hy] at hv
        have hnot : ∀ hw : Region.wanted o (yielded ops a.tmps) = false, ν' = ν.undef o.dst → (if Region.wanted o (yielded ops a.tmps) = true then o.wp P a w K Q else K (a.put o.dst undef) w) := by
          intro hw hν
          rw [if_neg (by rw [hw]; simp)]
          subst hν
          obtain ⟨L', R'⟩ := R.skip (E := { E0 with dst := own1S E0.dst }) hd (by unfold own1S; cases E0.dst <;> exact ⟨_, rfl⟩) hsb'
          refine hK _ _ L' R' (hG.step undef hNa (fun s hs => ?_) (fun _ _ _ _ => rfl))
          cases hdst : o.dst with
          | none => rfl
          | some d => exact upd_ne (fun e => hs (by rw [hdst, sC_inj e]))
        split at hv
        · rename_i b hb
          simp only [List.cons.injEq, and_true] at hb
          subst hb
          have hbv : a.tmps.getD gs undef = .bool b := by
            rcases hry with h | h
            · cases h
            · exact h.bool_inv
          have hyl := yielded_of (ops := ops) hj hbv
          split at hv
          · rename_i hbw
            subst hbw
            simp only [Option.bind_eq_some_iff] at hv
            obtain ⟨ν1, hr, hv⟩ := hv
            split at hv
            · rename_i hdf
              cases hv
              have hw : Region.wanted o (yielded ops a.tmps) = true := by simp [Region.wanted, hgd, hyl]
              rw [if_pos hw]
              refine Oper.wp_mono ?_ (run0 _ hr)
              rintro a' w' ⟨⟨L', R'⟩, v, rfl⟩
              have R2 : ∃ L2, Rel P w0 M N (Eff.ap { E0 with dst := own1S E0.dst } α o.dst) ν' L2 (a.put o.dst v) w' := by
                cases hdst : o.dst with
                | none => exact ⟨L', by rw [hdst] at R'; exact R'⟩
                | some d =>
                  rw [hdst] at R'
                  simp only [Eff.ap] at R' ⊢
                  unfold own1S
                  split
                  · rename_i a1 he; rw [he] at R'; exact ⟨L', R'⟩
                  · exact ⟨L', R'.deadS⟩
              obtain ⟨L2, R2⟩ := R2
              refine hK _ _ L2 R2 (hG.step v hNa (hfr _ hr) (fun d hdst _ hu => ?_))
              simp only [Env.defd, hdst, hu] at hdf
              cases hdf
            · cases hv
          · rename_i hbw
            cases hv
            exact hnot (by simp [Region.wanted, hgd, hyl, hbw]) rfl
        · rename_i hb
          simp only [List.cons.injEq, and_true] at hb
          subst hb
          split at hv
          · rename_i hud
            cases hv
            have hyl := yielded_no (ops := ops) hj (hG gs (by simpa using hud) hy)
            exact hnot (by simp [Region.wanted, hgd, hyl]) rfl
          · cases hv
        · cases hv
      · rw [out_no] at h; exact h.elim
theorem stepOp_ok {sg : Sigs} {k i : Nat} {ops : Array Oper} {G : List Nat} {g : VG} {K : Act → World → Prop} {Q : Exit → Act → World → Prop} (R : Rel P w0 M N α ν L a w) (hG : GInv G ν a) (hd : ∀ d, o.dst = some d → N.W d) (hi : ops[i]? = some o) (hsims : Sims P w0 M sg Φ)
    (h : RM.out α (stepOp P sg k ops G o) (g, E)) (hv : g.run Φ ν = some ν') (hK : ∀ a' w' L', Rel P w0 M N (E.ap α o.dst) ν' L' a' w' → GInv (stepG G o) ν' a' → K a' w') : wpOp P ops Q i K a w := by
  have := stepOp_if (K := K) (Q := Q) R hG hd hsims h hv hK
  unfold wpOp
  simp only [hi]
  split
  · rename_i hw; rw [if_pos hw] at this; exact .inl this
  · rename_i hw; rw [if_neg hw] at this; exact this
/-- a move, taken at once -/
theorem stepOp_move {sg : Sigs} {k : Nat} {ops : Array Oper} {G : List Nat} {g : VG} {K : Act → World → Prop} {Q : Exit → Act → World → Prop} {x : Operand} (R : Rel P w0 M N α ν L a w) (hG : GInv G ν a) (hd : ∀ d, o.dst = some d → N.W d) (ho : o.op = .move x) (hsims : Sims P w0 M sg Φ)
    (h : RM.out α (stepOp P sg k ops G o) (g, E)) (hv : g.run Φ ν = some ν') (hK : ∀ a' w' L', Rel P w0 M N (E.ap α o.dst) ν' L' a' w' → GInv (stepG G o) ν' a' → K a' w') : ∃ v, Yields P ops o v a ∧ K (a.put o.dst v) w := by
  have := stepOp_if (K := K) (Q := Q) R hG hd hsims h hv hK
  by_cases hw : Region.wanted o (yielded ops a.tmps) = true
  · rw [if_pos hw] at this
    have hr : ∀ w, (execOp a.eval o).run P w = .ok (.value (a.eval x)) w := fun w => by simp [execOp, ho]
    refine ⟨a.eval x, .inl ⟨hw, hr⟩, ?_⟩
    unfold Oper.wp at this
    rw [hr w] at this
    exact this
  · rw [if_neg hw] at this
    exact ⟨undef, .inr ⟨by simpa using hw, rfl⟩, this⟩
end
end Go.Proofs.YtogfkdpgkloljaaDoorVs
