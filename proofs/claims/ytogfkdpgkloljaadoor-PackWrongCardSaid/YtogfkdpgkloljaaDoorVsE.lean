/-
  Operations that only compute or read come to what their instructions say. Conditions: each lemma's own premises.
-/
import Derived.Test.YtogfkdpgkloljaaDoorVsD
set_option linter.unusedVariables false
set_option linter.unusedSimpArgs false
namespace Go.Proofs.YtogfkdpgkloljaaDoorVs

/-! ### looks at what is known -/
def RM.out {β : Type} (α : Al) (m : RM β) (b : β) : Prop := ∃ l, m.run α = some (b, l)
section
variable {α : Al} {β γ : Type}
theorem out_ok (b c : β) : RM.out α (.ok b) c ↔ c = b := by simp [RM.out, RM.run, eq_comm]
theorem out_pure (b c : β) : RM.out α (pure b : RM β) c ↔ c = b := out_ok b c
theorem out_no (c : β) : RM.out α (.no : RM β) c ↔ False := by simp [RM.out, RM.run]
theorem out_sl (s : Nat) (k : Sh → RM β) (c : β) : RM.out α (.sl s k) c ↔ RM.out α (k (α.slot s)) c := by
  simp only [RM.out, RM.run, Option.map_eq_some_iff, Prod.exists, Prod.mk.injEq]
  constructor
  · rintro ⟨l, b, l', h, rfl, rfl⟩; exact ⟨l', h⟩
  · rintro ⟨l, h⟩; exact ⟨_, c, l, h, rfl, rfl⟩
theorem out_bx (u : Nat) (k : Option Bx → RM β) (c : β) : RM.out α (.bx u k) c ↔ RM.out α (k (α.box u)) c := by
  simp only [RM.out, RM.run, Option.map_eq_some_iff, Prod.exists, Prod.mk.injEq]
  constructor
  · rintro ⟨l, b, l', h, rfl, rfl⟩; exact ⟨l', h⟩
  · rintro ⟨l, h⟩; exact ⟨_, c, l, h, rfl, rfl⟩
theorem out_bind' (m : RM β) (f : β → RM γ) (c : γ) : RM.out α (m.bind f) c ↔ ∃ b, RM.out α m b ∧ RM.out α (f b) c := by
  induction m with
  | ok b => simp [RM.bind, out_ok]
  | no => simp [RM.bind, out_no]
  | sl s k ih => simp only [RM.bind, out_sl, ih]
  | bx u k ih => simp only [RM.bind, out_bx, ih]
theorem out_bind (m : RM β) (f : β → RM γ) (c : γ) : RM.out α (m >>= f) c ↔ ∃ b, RM.out α m b ∧ RM.out α (f b) c := out_bind' m f c
theorem out_orElse (m m' : RM β) (c : β) (h : RM.out α (m.orElse m') c) : RM.out α m c ∨ RM.out α m' c := by
  induction m with
  | ok b => exact .inl h
  | no => exact .inr h
  | sl s k ih => rw [RM.orElse, out_sl] at h; rw [out_sl]; exact ih _ h
  | bx u k ih => rw [RM.orElse, out_bx] at h; rw [out_bx]; exact ih _ h
theorem out_opt (o : Option β) (c : β) : RM.out α (.opt o) c ↔ o = some c := by cases o <;> simp [RM.opt, out_ok, out_no, eq_comm]
theorem out_need (b : Bool) (c : Unit) : RM.out α (.need b) c ↔ b = true := by cases b <;> simp [RM.need, out_ok, out_no]
end

/-! ### an operation that yields a value -/
def OpG (P : Program) (o : Oper) (a : Act) (w : World) (K : Act → World → Prop) : Prop := ∀ Q, o.wp P a w K Q
theorem OpG.value {P : Program} {o : Oper} {a : Act} {w w' : World} {K : Act → World → Prop} {v : Value} (h : (execOp a.eval o).run P w = .ok (.value v) w') (hK : K (a.put o.dst v) w') : OpG P o a w K := fun Q => by
  unfold Oper.wp; rw [h]; exact hK
theorem OpG.skip {P : Program} {o : Oper} {a : Act} {w w' : World} {K : Act → World → Prop} (h : (execOp a.eval o).run P w = .ok .skip w') (hK : K (a.put o.dst undef) w') : OpG P o a w K := fun Q => by
  unfold Oper.wp; rw [h]; exact hK

section
variable {P : Program} {w0 : World} {M : Nat → Prop} {N : Fr} {α : Al} {ν : Env} {L : Lay} {a : Act} {w : World} {Φ : Funs}
theorem RAs.single {at1 : At} {xs : List V} {c : Value} (h : RAs P L w [at1] xs [c]) : ∃ x, xs = [x] ∧ RA P L w at1 x c := by
  obtain ⟨h1, h2, h3⟩ := h
  obtain ⟨x, rfl⟩ := List.length_eq_one_iff.1 (by simpa using h2)
  exact ⟨x, rfl, h3 0 (by simp) (by simp) (by simp)⟩
theorem RAs.one {at1 : At} {x : V} {c : Value} (h : RA P L w at1 x c) : RAs P L w [at1] [x] [c] :=
  ⟨rfl, rfl, fun i h0 h1 h2 => by
    have : i = 0 := by simpa using h0
    subst this; exact h⟩
theorem zV_ok {v : Value} {t : TypeId} {at1 : At} {y : V} (h : zV P v t = some (at1, y)) : RA P L w at1 y v := by
  unfold zV at h
  split at h
  · simp only [Option.some.injEq, Prod.mk.injEq] at h; obtain ⟨rfl, rfl⟩ := h; exact .inr (.int _ _)
  · simp only [Option.some.injEq, Prod.mk.injEq] at h; obtain ⟨rfl, rfl⟩ := h; exact .inr (.bool _)
  · simp only [Option.some.injEq, Prod.mk.injEq] at h; obtain ⟨rfl, rfl⟩ := h; exact .inr (.str _)
  · simp only [Option.some.injEq, Prod.mk.injEq] at h; obtain ⟨rfl, rfl⟩ := h; exact .inr .nilI
  · simp only [Option.map_eq_some_iff, Prod.mk.injEq] at h; obtain ⟨e, _, rfl, rfl⟩ := h; exact .inr ⟨rfl, e, rfl⟩
  · simp only [Option.some.injEq, Prod.mk.injEq] at h; obtain ⟨rfl, rfl⟩ := h; exact .inr ⟨rfl, rfl⟩
  · cases h
/-- an operand's place is told -/
theorem opd_ok (R : Rel P w0 M N α ν L a w) {x : Operand} {ty : TypeId} {s : Seg} (h : RM.out α (opd P x ty) s) : RSl P L w s.sh (s.arg.get ν) (a.eval x) := by
  unfold opd at h
  split at h
  · rename_i t
    rw [out_sl, out_ok] at h
    subst h
    exact R.slots t
  · rename_i v
    split at h
    · rename_i a1 y hz
      rw [out_ok] at h
      subst h
      exact RSl.one (RAs.one (zV_ok hz))
    · rw [out_no] at h; exact h.elim
  · rw [out_no] at h; exact h.elim
theorem one1_ok {s : Seg} {k : Src} (h : RM.out α (one1 s) k) : s.sh = .one (.v k) := by
  unfold one1 at h
  split at h
  · rename_i k' hs; rw [out_ok] at h; rw [hs, h]
  · rw [out_no] at h; exact h.elim
theorem v_of {k : Src} {xs : List V} {c : Value} (h : RSl P L w (.one (.v k)) xs c) : ∃ x, xs = [x] ∧ (x = .undef ∨ Rd P (L.src k) w x c) := RAs.single h
/-- a scalar operand -/
theorem opd1 (R : Rel P w0 M N α ν L a w) {x : Operand} {ty : TypeId} {s : Seg} {k : Src} (h : RM.out α (opd P x ty) s) (h1 : RM.out α (one1 s) k) : ∃ y, s.arg.get ν = [y] ∧ (y = .undef ∨ Rd P (L.src k) w y (a.eval x)) := by
  have := opd_ok R h
  rw [one1_ok h1] at this
  exact v_of this

/-! ### instructions that come to an answer -/
theorem get_c (ν : Env) (i : Nat) : VArg.get ν (.c i) = ν i := rfl
theorem run_ins1 {i : VI} {ν' : Env} (h : runIs Φ [i] ν = some ν') : i.run Φ ν = some ν' := by simpa [runIs] using h
theorem VI.inv {i : VI} {ν' : Env} (h : i.run Φ ν = some ν') : i.chk.all (unitAt ν) = true ∧ i.asr.all (trueAt ν) = true ∧ ∃ outs, i.f.sem Φ (i.rd.map (VArg.get ν)) = some outs ∧ outs.length = i.wr.length ∧ ν' = ν.upds i.wr outs := by
  unfold VI.run at h
  split at h
  · rename_i hc
    simp only [Option.bind_eq_some_iff] at h
    obtain ⟨outs, h1, h2⟩ := h
    split at h2
    · rename_i hl
      exact ⟨hc.1.1, hc.1.2, outs, h1, hl, (Option.some.inj h2).symm⟩
    · cases h2
  · cases h
theorem VI.inv_dfn {i : VI} {ν' : Env} (h : i.run Φ ν = some ν') : i.dfn.all (defAt ν) = true := by
  unfold VI.run at h
  split at h
  · rename_i hc; exact hc.2
  · cases h
theorem upds1 (ν : Env) (c : Nat) (outs : List (List V)) (h : outs.length = 1) : ∃ x, outs = [x] ∧ ν.upds [c] outs = ν.upd c x := by
  obtain ⟨x, rfl⟩ := List.length_eq_one_iff.1 h
  exact ⟨x, rfl, rfl⟩
/-- one instruction that writes one place -/
theorem VI.inv1 {f : VF} {rd : List VArg} {chk asr dfn : List (Nat × Nat)} {c : Nat} {ν' : Env} (h : (VI.mk f rd chk asr dfn [c]).run Φ ν = some ν') :
    chk.all (unitAt ν) = true ∧ asr.all (trueAt ν) = true ∧ ∃ x, f.sem Φ (rd.map (VArg.get ν)) = some [x] ∧ ν' = ν.upd c x := by
  obtain ⟨h1, h2, outs, h3, h4, h5⟩ := VI.inv h
  obtain ⟨x, rfl, hx⟩ := upds1 ν c outs h4
  exact ⟨h1, h2, x, h3, h5.trans hx⟩

/-! ### gathering -/
theorem pk_get {args : List (List V)} {p : Nat × Nat} {x : V} (h : pk args p = some x) : (args[p.1]?).bind (·[p.2]?) = some x ∧ x ≠ .undef := by
  unfold pk at h
  split at h
  · cases h
  · rename_i hn
    exact ⟨h, fun e => hn (by rw [h, e])⟩
theorem pks_get {args : List (List V)} : ∀ {ps : List (Nat × Nat)} {xs : List V}, pks args ps = some xs → xs.length = ps.length ∧ ∀ i (h : i < ps.length) (h' : i < xs.length), pk args ps[i] = some xs[i]
  | [], xs, h => by
    simp only [pks, List.mapM_nil] at h
    cases h
    exact ⟨rfl, fun i h => by cases h⟩
  | p :: ps, xs, h => by
    simp only [pks, List.mapM_cons, Option.bind_eq_bind, Option.bind_eq_some_iff, Option.pure_def, Option.some.injEq] at h
    obtain ⟨x, hx, r, hr, rfl⟩ := h
    obtain ⟨h1, h2⟩ := pks_get (ps := ps) hr
    refine ⟨by simp [h1], fun i hi hi' => ?_⟩
    cases i with
    | zero => simpa using hx
    | succ i => simpa using h2 i (by simpa using hi) (by simpa using hi')
theorem numb_args (outs : List (List Pc)) : ∀ (pre : List Pc), ∀ i (h : i < outs.length), ∃ h' : i < (numb pre.length outs).length, ∀ xs, pks ((pre ++ outs.flatten).map fun p => VArg.get ν p.1) (numb pre.length outs)[i] = some xs →
    xs.length = outs[i].length ∧ ∀ j (hj : j < outs[i].length) (hj' : j < xs.length), (outs[i][j].1.get ν)[outs[i][j].2]? = some xs[j] ∧ xs[j] ≠ .undef := by
  induction outs with
  | nil => intro pre i h; cases h
  | cons ps r ih =>
    intro pre i h
    cases i with
    | zero =>
      refine ⟨by simp [numb], fun xs hx => ?_⟩
      simp only [numb, List.getElem_cons_zero] at hx ⊢
      obtain ⟨h1, h2⟩ := pks_get hx
      simp only [List.length_map, List.length_zipIdx] at h1
      refine ⟨h1, fun j hj hj' => ?_⟩
      have := h2 j (by simpa using hj) hj'
      simp only [List.getElem_map, List.getElem_zipIdx] at this
      obtain ⟨h3, h4⟩ := pk_get this
      refine ⟨?_, h4⟩
      simp only [List.flatten_cons, List.map_append] at h3
      rw [List.getElem?_append_right (by simp)] at h3
      simp only [List.length_map, Nat.add_sub_cancel_left] at h3
      rw [List.getElem?_append_left (by simpa using hj)] at h3
      simpa [List.getElem?_eq_getElem hj] using h3
    | succ i =>
      obtain ⟨h', H⟩ := ih (pre ++ ps) i (by simpa using h)
      simp only [List.length_append] at h' H
      refine ⟨by simpa [numb] using h', fun xs hx => ?_⟩
      simp only [numb, List.getElem_cons_succ] at hx ⊢
      exact H xs (by simpa [List.append_assoc] using hx)
theorem gather_get {args : List (List V)} : ∀ {pss : List (List (Nat × Nat))} {outs : List (List V)}, pss.mapM (pks args) = some outs → outs.length = pss.length ∧ ∀ i (h : i < pss.length) (h' : i < outs.length), pks args pss[i] = some outs[i]
  | [], outs, h => by
    simp only [List.mapM_nil] at h
    cases h
    exact ⟨rfl, fun i h => by cases h⟩
  | p :: ps, outs, h => by
    simp only [List.mapM_cons, Option.bind_eq_bind, Option.bind_eq_some_iff, Option.pure_def, Option.some.injEq] at h
    obtain ⟨x, hx, r, hr, rfl⟩ := h
    obtain ⟨h1, h2⟩ := gather_get (pss := ps) hr
    refine ⟨by simp [h1], fun i hi hi' => ?_⟩
    cases i with
    | zero => simpa using hx
    | succ i => simpa using h2 i (by simpa using hi) (by simpa using hi')
/-- what a gathering instruction brings: each place gets its pieces -/
def pcGet (ν : Env) (p : Pc) : Option V := (p.1.get ν)[p.2]?
def Pieces (ν : Env) (ps : List Pc) (xs : List V) : Prop := xs.length = ps.length ∧ ∀ j (hj : j < ps.length) (hj' : j < xs.length), pcGet ν ps[j] = some xs[j] ∧ xs[j] ≠ .undef
theorem viG_inv {outs : List (Nat × List Pc)} {chk asr : List (Nat × Nat)} {ν' : Env} (h : (viG outs chk asr).run Φ ν = some ν') :
    chk.all (unitAt ν) = true ∧ asr.all (trueAt ν) = true ∧ ∃ xss : List (List V), xss.length = outs.length ∧ (∀ i (h : i < outs.length) (h' : i < xss.length), Pieces ν outs[i].2 xss[i]) ∧ ν' = ν.upds (outs.map (·.1)) xss := by
  obtain ⟨h1, h2, xss, h3, h4, h5⟩ := VI.inv h
  refine ⟨h1, h2, xss, by simpa [viG] using h4, fun i hi hi' => ?_, h5⟩
  simp only [viG, VF.sem] at h3
  obtain ⟨h6, h7⟩ := gather_get h3
  obtain ⟨hi2, H⟩ := numb_args (ν := ν) (outs.map (·.2)) [] i (by simpa using hi)
  have := h7 i (by simpa using hi2) hi'
  rw [List.map_map] at this
  have h8 := H xss[i] this
  simpa [Pieces, pcGet] using h8
theorem viG1 {c : Nat} {ps : List Pc} {chk asr : List (Nat × Nat)} {ν' : Env} (h : (viG [(c, ps)] chk asr).run Φ ν = some ν') :
    chk.all (unitAt ν) = true ∧ asr.all (trueAt ν) = true ∧ ∃ xs, Pieces ν ps xs ∧ ν' = ν.upd c xs := by
  obtain ⟨h1, h2, xss, h3, h4, h5⟩ := viG_inv h
  obtain ⟨xs, rfl⟩ := List.length_eq_one_iff.1 (by simpa using h3)
  exact ⟨h1, h2, xs, by simpa using h4 0 (by simp) (by simp), h5⟩
theorem Pieces.range {g : VArg} {off n : Nat} {xs : List V} (h : Pieces ν ((List.range n).map fun j => (g, off + j)) xs) : xs = ((g.get ν).drop off).take n ∧ off + n ≤ (g.get ν).length ∨ n = 0 ∧ xs = [] := by
  obtain ⟨h1, h2⟩ := h
  simp only [List.length_map, List.length_range] at h1 h2
  by_cases hn : n = 0
  · subst hn; exact .inr ⟨rfl, List.eq_nil_of_length_eq_zero h1⟩
  · have hlast := (h2 (n - 1) (by omega) (by omega)).1
    simp only [pcGet, List.getElem_map, List.getElem_range] at hlast
    have hlen : off + (n - 1) < (g.get ν).length := (List.getElem?_eq_some_iff.1 hlast).1
    refine .inl ⟨?_, by omega⟩
    apply List.ext_getElem
    · simp [h1]; omega
    · intro i hi hi'
      have := (h2 i (by omega) hi).1
      simp only [pcGet, List.getElem_map, List.getElem_range] at this
      simp only [List.getElem_take, List.getElem_drop]
      exact (List.getElem?_eq_some_iff.1 this).2.symm
theorem Pieces.all {g : VArg} {n : Nat} {xs : List V} (h : Pieces ν (allPc g n) xs) (hn : (g.get ν).length = n) : xs = g.get ν := by
  have : allPc g n = (List.range n).map fun j => (g, 0 + j) := by simp [allPc]
  rw [this] at h
  rcases h.range with ⟨h, _⟩ | ⟨rfl, rfl⟩
  · rw [h, List.drop_zero, ← hn, List.take_length]
  · exact (List.eq_nil_of_length_eq_zero hn).symm
theorem Pieces.unit {xs : List V} (h : Pieces ν [pcU] xs) : xs = [.unit] := by
  obtain ⟨h1, h2⟩ := h
  obtain ⟨x, rfl⟩ := List.length_eq_one_iff.1 (by simpa using h1)
  have := (h2 0 (by simp) (by simp)).1
  simp [pcGet, pcU, VArg.get] at this
  rw [← this]
theorem Pieces.one {g : VArg} {j : Nat} {xs : List V} (h : Pieces ν [(g, j)] xs) : ∃ x, xs = [x] ∧ (g.get ν)[j]? = some x ∧ x ≠ .undef := by
  obtain ⟨h1, h2⟩ := h
  obtain ⟨x, rfl⟩ := List.length_eq_one_iff.1 (by simpa using h1)
  have := h2 0 (by simp) (by simp)
  exact ⟨x, rfl, by simpa [pcGet] using this.1, by simpa using this.2⟩

/-! ### nothing is struck -/
theorem ap_plain (E : Eff) (α : Al) (d : Nat) (hk : E.kill = []) (hs : E.stale = []) (hb : E.setb = []) : E.ap α (some d) = α.setS d E.dst := by
  simp only [Eff.ap, hk, hs, hb, ap_sk, Al.sk_nil, Al.setBs]
/-- the goal of an operation -/
def Goal (P : Program) (w0 : World) (M : Nat → Prop) (N : Fr) (α' : Al) (ν' : Env) (a : Act) (w : World) : Prop := ∃ L', Rel P w0 M N α' ν' L' a w
theorem Goal.plain (R : Rel P w0 M N α ν L a w) {E : Eff} {d : Nat} (hd : N.W d) (hk : E.kill = []) (hs : E.stale = []) (hb : E.setb = []) {xs : List V} {v : Value} (hv : RSl P L w E.dst xs v) :
    Goal P w0 M N (E.ap α (some d)) (ν.upd (sC d) xs) (a.put (some d) v) w := by
  rw [ap_plain E α d hk hs hb]
  exact ⟨L, R.put hd hv⟩
/-- a scalar comes of it -/
theorem Goal.scalar (R : Rel P w0 M N α ν L a w) {E : Eff} {d : Nat} (hd : N.W d) (hk : E.kill = []) (hs : E.stale = []) (hb : E.setb = []) {k : Src} (hE : E.dst = .one (.v k)) {x : V} {v : Value} (hv : Rd P (L.src k) w x v) :
    Goal P w0 M N (E.ap α (some d)) (ν.upd (sC d) [x]) (a.put (some d) v) w :=
  Goal.plain R hd hk hs hb (by rw [hE]; exact RSl.one (RAs.one (.inr hv)))
end
end Go.Proofs.YtogfkdpgkloljaaDoorVs
