/-
  Several texts in one: Operations that only compute or read come to what their instructions say: one by one. Conditions: each lemma's own premises. | Reads of rows, of variables in memory, and the rest of what makes no memory. Conditions: each lemma's own premises. | Places in rows and in variables, loads and cuts. Conditions: each lemma's own premises. | A row or a variable in memory is made, or written. Conditions: each lemma's own premises. | Operations that make memory, or write it. Conditions: each lemma's own premises. | Stores, literals of structs. Conditions: each lemma's own premises.
-/
import Derived.Test.YtlhcgiegganbpaaDoorVM1
set_option linter.unusedVariables false
set_option linter.unusedSimpArgs false
namespace Go.Proofs.YtlhcgiegganbpaaDoorVs
section
variable {P : Program} {w0 : World} {M : Nat → Prop} {N : Fr} {α : Al} {ν ν' : Env} {L : Lay} {a : Act} {w : World} {Φ : Funs} {o : Oper} {d : Nat} {E : Eff}

theorem atoms_len {h : Sh} {xs : List V} {c : Value} (H : RSl P L w h xs c) (hd : h ≠ .one .dead) (hg : ∀ k, h ≠ .one (.gone k)) (ho : h.isOgg = false) : xs.length = h.atoms.length := by
  cases h with
  | one a => cases a with
    | dead => exact absurd rfl hd
    | gone k => exact absurd rfl (hg k)
    | _ => exact H.2.1
  | agg as => obtain ⟨cs, _, h⟩ := H; exact h.2.1
  | ogg as => cases ho
  | tup ps =>
    obtain ⟨cs, _, h⟩ := H
    have go : ∀ (ps : List (Bool × List At)) (xs : List V) (cs : List Value), RParts P L w ps xs cs → xs.length = ((ps.map (·.2)).flatten).length := by
      intro ps
      induction ps with
      | nil => intro xs cs h; obtain ⟨rfl, _⟩ := h; rfl
      | cons p ps ih =>
        rintro xs cs ⟨x1, x2, c, c2, rfl, _, h1, h2⟩
        have h3 := ih x2 c2 h2
        have h4 : x1.length = p.2.length := by
          unfold RPart at h1
          split at h1
          · obtain ⟨_, _, h⟩ := h1; exact h.2.1
          · exact h1.2.1
        simp only [List.map_cons, List.flatten_cons, List.length_append] at h3 ⊢
        omega
    exact go ps xs cs.toList h

/-! #### numbers and strings -/
theorem Rd.int_inv {S : Nat → Prop} {k : IntKind} {n : Int} {c : Value} (h : Rd P S w (.int k n) c) : c = .int k n := by cases h; rfl
theorem Rd.bool_inv {S : Nat → Prop} {b : Bool} {c : Value} (h : Rd P S w (.bool b) c) : c = .bool b := by cases h; rfl
theorem Rd.str_inv {S : Nat → Prop} {s : ByteArray} {c : Value} (h : Rd P S w (.str s) c) : c = .string s := by cases h; rfl
theorem Rd.nilI_inv {S : Nat → Prop} {c : Value} (h : Rd P S w .nilI c) : c = .nilIface := by cases h; rfl
theorem Rd.iface_inv {S : Nat → Prop} {t : TypeId} {x : V} {c : Value} (h : Rd P S w (.iface t x) c) : ∃ c', c = .iface t c' ∧ Rd P S w x c' := by cases h with | iface _ _ c h => exact ⟨c, rfl, h⟩

theorem vun_run {op : UnOp} {x z : V} {S S' : Nat → Prop} {c : Value} (h : vun op x = some z) (hc : x = .undef ∨ Rd P S w x c) : ∃ v, (Op.unary op c).run P w = .ok v w ∧ Rd P S' w z v := by
  unfold vun at h
  split at h
  · rename_i k n
    cases h
    rcases hc with hc | hc
    · cases hc
    · rw [hc.int_inv]; exact ⟨_, by simp only [Op.unary, Op.intArith]; rfl, .int _ _⟩
  · rename_i k n
    cases h
    rcases hc with hc | hc
    · cases hc
    · rw [hc.int_inv]; exact ⟨_, by simp only [Op.unary, Op.intBits]; rfl, .int _ _⟩
  · rename_i b
    cases h
    rcases hc with hc | hc
    · cases hc
    · rw [hc.bool_inv]; exact ⟨_, by simp only [Op.unary]; rfl, .bool _⟩
  · cases h
theorem copUn_ok (R : Rel P w0 M N α ν L a w) (hd : N.W d) {op : UnOp} {t : TypeId} {x : Operand} (ho : o.op = .unOp op t x) (hod : o.dst = some d) (h : RM.out α (copUn P d op t x) E) (hv : runIs Φ E.vis ν = some ν') :
    OpG P o a w (Goal P w0 M N (E.ap α (some d)) ν') := by
  simp only [copUn, out_bind, out_ok] at h
  obtain ⟨s, h1, k, h2, rfl⟩ := h
  obtain ⟨y, hy, hr⟩ := opd1 R h1 h2
  obtain ⟨_, _, z, hz, rfl⟩ := VI.inv1 (run_ins1 hv)
  simp only [List.map_cons, List.map_nil, hy, VF.sem, Option.map_eq_some_iff] at hz
  obtain ⟨q, hq, hqz⟩ := hz
  cases hqz
  obtain ⟨v, hv1, hv2⟩ := vun_run (S' := L.F) hq hr
  refine OpG.value (v := v) (w' := w) (by simp [execOp, ho, hv1]) ?_
  rw [hod]
  exact Goal.scalar (k := .fz) R hd rfl rfl rfl rfl hv2

theorem vcmp_run {op : BinOp} {x y : Int} {z : V} (S : Nat → Prop) (h : vcmp op x y = some z) : ∃ v, (Op.intCmp op x y).run P w = .ok v w ∧ Rd P S w z v := by
  unfold vcmp at h
  split at h <;> first | (cases h; done) | (cases h; exact ⟨_, by simp only [Op.intCmp]; rfl, .bool _⟩)
theorem vint_run {op : BinOp} {k : IntKind} {x y : Int} {z : V} (S : Nat → Prop) (t : TypeId) (hs : isShift op = false) (h : vint op k x y = some z) : ∃ v, (binOp op t (.int k x) (.int k y)).run P w = .ok v w ∧ Rd P S w z v := by
  have C : ∀ op, vcmp op x y = some z → (∀ u v : Value, binOp op t (.int k x) (.int k y) = Op.intCmp op x y) → ∃ v, (binOp op t (.int k x) (.int k y)).run P w = .ok v w ∧ Rd P S w z v := by
    intro op h1 h2
    obtain ⟨v, h3, h4⟩ := vcmp_run (P := P) (w := w) S h1
    exact ⟨v, by rw [h2 .nilFunc .nilFunc]; exact h3, h4⟩
  cases op <;> simp only [vint] at h
  case add => cases h; refine ⟨_, ?_, .int _ _⟩; simp only [binOp, ne_eq, not_true_eq_false, if_false, Op.intArith]; rfl
  case sub => cases h; refine ⟨_, ?_, .int _ _⟩; simp only [binOp, ne_eq, not_true_eq_false, if_false, Op.intArith]; rfl
  case mul => cases h; refine ⟨_, ?_, .int _ _⟩; simp only [binOp, ne_eq, not_true_eq_false, if_false, Op.intArith]; rfl
  case quo =>
    by_cases hy : y = 0
    · rw [if_pos hy] at h; cases h
    · rw [if_neg hy] at h; cases h; refine ⟨_, ?_, .int _ _⟩; simp only [binOp, ne_eq, not_true_eq_false, if_false, Op.intDiv]; rw [if_neg hy]; rfl
  case rem =>
    by_cases hy : y = 0
    · rw [if_pos hy] at h; cases h
    · rw [if_neg hy] at h; cases h; refine ⟨_, ?_, .int _ _⟩; simp only [binOp, ne_eq, not_true_eq_false, if_false, Op.intDiv]; rw [if_neg hy]; rfl
  case and => cases h; refine ⟨_, ?_, .int _ _⟩; simp only [binOp, ne_eq, not_true_eq_false, if_false, Op.intBits]; rfl
  case or => cases h; refine ⟨_, ?_, .int _ _⟩; simp only [binOp, ne_eq, not_true_eq_false, if_false, Op.intBits]; rfl
  case xor => cases h; refine ⟨_, ?_, .int _ _⟩; simp only [binOp, ne_eq, not_true_eq_false, if_false, Op.intBits]; rfl
  case andNot => cases h; refine ⟨_, ?_, .int _ _⟩; simp only [binOp, ne_eq, not_true_eq_false, if_false, Op.intBits]; rfl
  case shl => simp [isShift] at hs
  case shr => simp [isShift] at hs
  all_goals exact C _ h (fun _ _ => by simp only [binOp, ne_eq, not_true_eq_false, if_false])
theorem vshift_run {op : BinOp} {k k' : IntKind} {x y : Int} {z : V} (S : Nat → Prop) (t : TypeId) (h : vshift op k x y = some z) : ∃ v, (binOp op t (.int k x) (.int k' y)).run P w = .ok v w ∧ Rd P S w z v := by
  unfold vshift at h
  split at h
  · cases h
  · rename_i hy
    split at h
    · cases h; exact ⟨_, by simp only [binOp, Op.shift, hy, if_false]; rfl, .int _ _⟩
    · cases h; exact ⟨_, by simp only [binOp, Op.shift, hy, if_false]; rfl, .int _ _⟩
    · cases h
theorem vstr_run {op : BinOp} {x y : ByteArray} {z : V} (S : Nat → Prop) (t : TypeId) (h : vstr op x y = some z) : ∃ v, (binOp op t (.string x) (.string y)).run P w = .ok v w ∧ Rd P S w z v := by
  cases op <;> simp only [vstr] at h
  case add =>
    by_cases hc : ((x.size + y.size : Nat) : Int) > IntKind.i64.max
    · rw [if_pos hc] at h; cases h
    · rw [if_neg hc] at h; cases h; refine ⟨_, ?_, .str _⟩; simp only [binOp, Op.stringOp]; rw [if_neg hc]; rfl
  all_goals first
    | (cases h; done)
    | (cases h; refine ⟨_, ?_, .bool _⟩; simp only [binOp, Op.stringOp]; rfl)
theorem eval_const (a : Act) (v : Value) : a.eval (.const v) = v := rfl
theorem eqGuard_scalar {op : BinOp} {t : TypeId} {x y : Operand} {c c' : Value} (h : (∀ cs, c ≠ .agg cs) ∧ (c = .nilIface → c' = .nilIface → (∃ v, y = .const v))) : (eqGuard op t x y c c').run P w = .ok () w := by
  cases op <;> first
    | (simp [eqGuard]; done)
    | (simp only [eqGuard, Bool.not_true, Bool.false_eq_true, if_false]
       split
       · obtain ⟨v, rfl⟩ := h.2 rfl rfl
         cases x <;> simp
       · exact absurd rfl (h.1 _)
       · rfl)
theorem eqGuard_ptr {op : BinOp} {t : TypeId} {x y : Operand} {p : Option Addr} {c' : Value} : (eqGuard op t x y (.pointer p) c').run P w = .ok () w :=
  eqGuard_scalar ⟨fun cs e => (by cases e), fun e => (by cases e)⟩
theorem unit_chk {i : Nat} {chk : List (Nat × Nat)} (h : chk.all (unitAt ν) = true) (hm : (i, 0) ∈ chk) {xs : List V} (hx : ν i = xs) {x : V} (h1 : xs = [x]) : x = .unit := by
  have := List.all_eq_true.1 h _ hm
  simp only [unitAt, hx, h1] at this
  split at this
  · rename_i e; simpa using e
  · cases this
theorem isConst_out {y : Operand} (h : isConst y = true) : ∃ v, y = .const v := by cases y <;> simp [isConst] at h; exact ⟨_, rfl⟩
theorem clsOf_bool {P : Program} {t : TypeId} (h : clsOf P t = some 2) : P.underlying t = some .bool := by
  unfold clsOf at h; split at h <;> simp_all
theorem clsOf_iface {P : Program} {t : TypeId} (h : clsOf P t = some 3) : ∃ ms, P.underlying t = some (.interface ms) := by
  unfold clsOf at h; split at h <;> simp_all
theorem vbin_run {op : BinOp} {cls : Nat} {t : TypeId} {x y z : V} {S S' : Nat → Prop} (S'' : Nat → Prop) {c c' : Value} (ho : clsOf P t = some cls)
    (h : vbin op cls x y = some z) (hc : x = .undef ∨ Rd P S w x c) (hc' : y = .undef ∨ Rd P S' w y c') :
    ∃ v, (binOp op t c c').run P w = .ok v w ∧ Rd P S'' w z v := by
  unfold vbin at h
  split at h
  · rename_i k a k' b
    rcases hc with hc | hc
    · cases hc
    rcases hc' with hc' | hc'
    · cases hc'
    rw [hc.int_inv, hc'.int_inv]
    split at h
    · exact vshift_run S'' t h
    · rename_i hs
      split at h
      · rename_i hk; subst hk; exact vint_run S'' t (by simpa using hs) h
      · cases h
  · rename_i a b
    rcases hc with hc | hc
    · cases hc
    rcases hc' with hc' | hc'
    · cases hc'
    rw [hc.str_inv, hc'.str_inv]
    exact vstr_run S'' t h
  · rename_i a b
    rcases hc with hc | hc
    · cases hc
    rcases hc' with hc' | hc'
    · cases hc'
    rw [hc.bool_inv, hc'.bool_inv]
    have hu := clsOf_bool ho
    have heq : (Op.equal t (.bool a) (.bool b)).run P w = .ok (a == b) w := by
      unfold Op.equal; rw [show Op.maxDepth = 9999 + 1 from rfl]; unfold Op.equalIn; simp [run_underlying hu]
    split at h
    · cases h; exact ⟨_, by simp only [binOp, Sem.run_bind, heq, Result.andThen_ok]; rfl, .bool _⟩
    · cases h; exact ⟨_, by simp only [binOp, Sem.run_bind, heq, Result.andThen_ok]; rfl, .bool _⟩
    · cases h
  · rename_i q y
    rcases hc with hc | hc
    · cases hc
    rcases hc' with hc' | hc'
    · cases hc'
    obtain ⟨c1, rfl, _⟩ := hc.iface_inv
    rw [hc'.nilI_inv]
    obtain ⟨ms, hu⟩ := clsOf_iface ho
    have heq : (Op.equal t (.iface q c1) .nilIface).run P w = .ok false w := by
      unfold Op.equal; rw [show Op.maxDepth = 9999 + 1 from rfl]; unfold Op.equalIn; simp [run_underlying hu]
    split at h
    · cases h; exact ⟨_, by simp only [binOp, Sem.run_bind, heq, Result.andThen_ok]; rfl, .bool _⟩
    · cases h; exact ⟨_, by simp only [binOp, Sem.run_bind, heq, Result.andThen_ok]; rfl, .bool _⟩
    · cases h
  · rcases hc with hc | hc
    · cases hc
    rcases hc' with hc' | hc'
    · cases hc'
    rw [hc.nilI_inv, hc'.nilI_inv]
    obtain ⟨ms, hu⟩ := clsOf_iface ho
    have heq : (Op.equal t .nilIface .nilIface).run P w = .ok true w := by
      unfold Op.equal; rw [show Op.maxDepth = 9999 + 1 from rfl]; unfold Op.equalIn; simp [run_underlying hu]
    split at h
    · cases h; exact ⟨_, by simp only [binOp, Sem.run_bind, heq, Result.andThen_ok]; rfl, .bool _⟩
    · cases h; exact ⟨_, by simp only [binOp, Sem.run_bind, heq, Result.andThen_ok]; rfl, .bool _⟩
    · cases h
  · cases h
theorem copEqA_ok (R : Rel P w0 M N α ν L a w) (hd : N.W d) {op : BinOp} {t u : TypeId} {x y : Operand} {s s' : Seg} (ho : o.op = .binOp op t x y u) (hod : o.dst = some d) (h1 : RM.out α (opd P x t) s) (h2 : RM.out α (opd P y u) s') (h : RM.out α (copEqA P d op t s s') E) (hv : runIs Φ E.vis ν = some ν') :
    OpG P o a w (Goal P w0 M N (E.ap α (some d)) ν') := by
  have H1 := opd_ok R h1
  have H2 := opd_ok R h2
  unfold copEqA at h
  split at h
  · rename_i as bs hs hs'
    simp only [out_bind, out_need, out_opt, out_ok, Bool.and_eq_true, beq_iff_eq, Bool.not_eq_true'] at h
    obtain ⟨_, ⟨ha, hb⟩, cl, hcl, _, ⟨hag, hg⟩, _, hop, rfl⟩ := h
    have hop : op = .eql ∨ op = .neq := by cases op <;> simp [isEq] at hop ⊢
    obtain ⟨_, _, z, hz, rfl⟩ := VI.inv1 (run_ins1 hv)
    simp only [List.map_cons, List.map_nil, VF.sem, Option.map_eq_some_iff] at hz
    obtain ⟨q, hq, hqz⟩ := hz
    cases hqz
    rw [hs] at H1
    rw [hs'] at H2
    obtain ⟨cs, e1, k1⟩ := H1
    obtain ⟨cs', e2, k2⟩ := H2
    have p1 := ps_of ha k1 (.inl hq)
    have p2 := ps_of hb k2 (.inr hq)
    have heq := eqT_run 8 10000 t cl hcl (by omega) w (.agg cs) (.agg cs') _ _ q ⟨fun _ => ⟨_, rfl⟩, fun h => by rw [hag] at h; cases h⟩ ⟨fun _ => ⟨_, rfl⟩, fun h => by rw [hag] at h; cases h⟩ p1 p2 hq
    have hgd : (eqGuard op t x y (.agg cs) (.agg cs')).run P w = .ok () w := run_eqGuard_agg w op t x y cs cs' hg
    rcases hop with rfl | rfl
    · have hrun : (binOp .eql t (.agg cs) (.agg cs')).run P w = .ok (.bool q) w := by rw [run_eql_struct, heq]; rfl
      refine OpG.value (v := .bool q) (w' := w) (by simp [execOp, ho, e1, e2, hgd, hrun]) ?_
      rw [hod]
      have : (q != isNe .eql) = q := by cases q <;> rfl
      exact Goal.scalar (k := .fz) R hd rfl rfl rfl rfl (by rw [this]; exact .bool _)
    · have hrun : (binOp .neq t (.agg cs) (.agg cs')).run P w = .ok (.bool !q) w := by rw [run_neq_struct, heq]; rfl
      refine OpG.value (v := .bool !q) (w' := w) (by simp [execOp, ho, e1, e2, hgd, hrun]) ?_
      rw [hod]
      have : (q != isNe .neq) = !q := by cases q <;> rfl
      exact Goal.scalar (k := .fz) R hd rfl rfl rfl rfl (by rw [this]; exact .bool _)
  · rw [out_no] at h; exact h.elim
theorem copBin_ok (R : Rel P w0 M N α ν L a w) (hd : N.W d) {op : BinOp} {t u : TypeId} {x y : Operand} (ho : o.op = .binOp op t x y u) (hod : o.dst = some d) (h : RM.out α (copBin P d op t x y u) E) (hv : runIs Φ E.vis ν = some ν') :
    OpG P o a w (Goal P w0 M N (E.ap α (some d)) ν') := by
  simp only [copBin, out_bind] at h
  obtain ⟨s, h1, s', h2, h⟩ := h
  split at h
  · rename_i hn
    have hy : y = .const (.pointer none) := by
      cases y with
      | const v => cases v with
        | pointer q => cases q with
          | none => rfl
          | some q => simp [isNilP] at hn
        | _ => simp [isNilP] at hn
      | _ => simp [isNilP] at hn
    subst hy
    have H := opd_ok R h1
    split at h
    · rename_i e hu
      have hu' : P.underlying t = some (.pointer (P.pointee t)) := by simp [Program.pointee, hu]
      split at h
      · rename_i q hs hg
        rw [out_ok] at h; subst h
        obtain ⟨h5, _, xs, h6, rfl⟩ := viG1 (run_ins1 hv)
        obtain ⟨z, rfl, h7, _⟩ := h6.one
        simp only [VArg.get, List.getElem?_cons_zero, Option.some.injEq] at h7; subst h7
        rw [hs, hg] at H
        obtain ⟨p, hp, hr⟩ := RAs.single H
        have hu1 := unit_chk h5 (List.mem_singleton.2 rfl) hp rfl
        subst hu1
        rcases hr with hr | ⟨_, b, ro, _, hc⟩
        · cases hr
        refine OpG.value (v := .bool false) (w' := w) (by simp [execOp, ho, hc, eval_const, eqGuard_ptr, run_eql_pointer_nil w t _ hu']) ?_
        rw [hod]
        exact Goal.scalar (k := .fz) R hd rfl rfl rfl rfl (.bool _)
      · rename_i q hs hg
        rw [out_ok] at h; subst h
        obtain ⟨h5, _, xs, h6, rfl⟩ := viG1 (run_ins1 hv)
        obtain ⟨z, rfl, h7, _⟩ := h6.one
        simp only [VArg.get, List.getElem?_cons_zero, Option.some.injEq] at h7; subst h7
        rw [hs, hg] at H
        obtain ⟨p, hp, hr⟩ := RAs.single H
        have hu1 := unit_chk h5 (List.mem_singleton.2 rfl) hp rfl
        subst hu1
        rcases hr with hr | ⟨hc, _⟩
        · cases hr
        refine OpG.value (v := .bool true) (w' := w) (by simp [execOp, ho, hc, eval_const, eqGuard_ptr, run_eql_pointer_nil w t _ hu']) ?_
        rw [hod]
        exact Goal.scalar (k := .fz) R hd rfl rfl rfl rfl (.bool _)
      · rename_i q u hs hg
        rw [out_ok] at h; subst h
        obtain ⟨_, _, z, hz, rfl⟩ := VI.inv1 (run_ins1 hv)
        rw [hs, hg] at H
        obtain ⟨p, hp, hr⟩ := RAs.single H
        simp only [VArg.get] at hp
        simp only [List.map_cons, List.map_nil, VArg.get, hp] at hz
        rcases hr with rfl | ⟨rfl, hc⟩ | ⟨rfl, b, ro, _, hc⟩
        · cases hz
        · cases hz
          refine OpG.value (v := .bool true) (w' := w) (by simp [execOp, ho, hc, eval_const, eqGuard_ptr, run_eql_pointer_nil w t _ hu']) ?_
          rw [hod]
          exact Goal.scalar (k := .fz) R hd rfl rfl rfl rfl (.bool _)
        · cases hz
          refine OpG.value (v := .bool false) (w' := w) (by simp [execOp, ho, hc, eval_const, eqGuard_ptr, run_eql_pointer_nil w t _ hu']) ?_
          rw [hod]
          exact Goal.scalar (k := .fz) R hd rfl rfl rfl rfl (.bool _)
      · rw [out_no] at h; exact h.elim
    · rename_i e hu
      have hu' : P.underlying t = some (.pointer (P.pointee t)) := by simp [Program.pointee, hu]
      split at h
      · rename_i q hs hg
        rw [out_ok] at h; subst h
        obtain ⟨h5, _, xs, h6, rfl⟩ := viG1 (run_ins1 hv)
        obtain ⟨z, rfl, h7, _⟩ := h6.one
        simp only [VArg.get, List.getElem?_cons_zero, Option.some.injEq] at h7; subst h7
        rw [hs, hg] at H
        obtain ⟨p, hp, hr⟩ := RAs.single H
        have hu1 := unit_chk h5 (List.mem_singleton.2 rfl) hp rfl
        subst hu1
        rcases hr with hr | ⟨_, b, ro, _, hc⟩
        · cases hr
        refine OpG.value (v := .bool true) (w' := w) (by simp [execOp, ho, hc, eval_const, eqGuard_ptr, run_neq_pointer_nil w t _ hu']) ?_
        rw [hod]
        exact Goal.scalar (k := .fz) R hd rfl rfl rfl rfl (.bool _)
      · rename_i q hs hg
        rw [out_ok] at h; subst h
        obtain ⟨h5, _, xs, h6, rfl⟩ := viG1 (run_ins1 hv)
        obtain ⟨z, rfl, h7, _⟩ := h6.one
        simp only [VArg.get, List.getElem?_cons_zero, Option.some.injEq] at h7; subst h7
        rw [hs, hg] at H
        obtain ⟨p, hp, hr⟩ := RAs.single H
        have hu1 := unit_chk h5 (List.mem_singleton.2 rfl) hp rfl
        subst hu1
        rcases hr with hr | ⟨hc, _⟩
        · cases hr
        refine OpG.value (v := .bool false) (w' := w) (by simp [execOp, ho, hc, eval_const, eqGuard_ptr, run_neq_pointer_nil w t _ hu']) ?_
        rw [hod]
        exact Goal.scalar (k := .fz) R hd rfl rfl rfl rfl (.bool _)
      · rename_i q u hs hg
        rw [out_ok] at h; subst h
        simp only [runIs, Option.bind_eq_some_iff, Option.some.injEq] at hv
        obtain ⟨ν1, hv1, ν2, hv2, rfl⟩ := hv
        obtain ⟨_, _, z, hz, rfl⟩ := VI.inv1 hv1
        obtain ⟨_, _, z', hz', rfl⟩ := VI.inv1 hv2
        rw [hs, hg] at H
        obtain ⟨p, hp, hr⟩ := RAs.single H
        simp only [VArg.get] at hp
        simp only [List.map_cons, List.map_nil, VArg.get, hp] at hz
        simp only [List.map_cons, List.map_nil, VArg.get, upd_same] at hz'
        have hupd : ∀ x : List V, (ν.upd (sC d) z).upd (sC d) x = ν.upd (sC d) x := fun x => funext fun i => by simp only [Env.upd]; split <;> rfl
        rw [hupd]
        rcases hr with rfl | ⟨rfl, hc⟩ | ⟨rfl, b, ro, _, hc⟩
        · cases hz
        · cases hz; cases hz'
          refine OpG.value (v := .bool false) (w' := w) (by simp [execOp, ho, hc, eval_const, eqGuard_ptr, run_neq_pointer_nil w t _ hu']) ?_
          rw [hod]
          exact Goal.scalar (k := .fz) R hd rfl rfl rfl rfl (.bool _)
        · cases hz; cases hz'
          refine OpG.value (v := .bool true) (w' := w) (by simp [execOp, ho, hc, eval_const, eqGuard_ptr, run_neq_pointer_nil w t _ hu']) ?_
          rw [hod]
          exact Goal.scalar (k := .fz) R hd rfl rfl rfl rfl (.bool _)
      · rw [out_no] at h; exact h.elim
    · rw [out_no] at h; exact h.elim
  split at h
  · exact copEqA_ok R hd ho hod h1 h2 h hv
  · simp only [out_bind, out_opt, out_need, out_ok] at h
    obtain ⟨k, hk, k', hk', cls, hc, _, hi, rfl⟩ := h
    obtain ⟨p, hp, hr⟩ := opd1 R h1 hk
    obtain ⟨q, hq, hr'⟩ := opd1 R h2 hk'
    obtain ⟨_, _, z, hz, rfl⟩ := VI.inv1 (run_ins1 hv)
    simp only [List.map_cons, List.map_nil, hp, hq, VF.sem, Option.map_eq_some_iff] at hz
    obtain ⟨zz, hzz, e⟩ := hz
    cases e
    obtain ⟨v, hv1, hv2⟩ := vbin_run (P := P) (w := w) L.F hc hzz hr hr'
    have hg : (eqGuard op t x y (a.eval x) (a.eval y)).run P w = .ok () w := by
      refine eqGuard_scalar ⟨fun cs e => ?_, fun e1 e2 => ?_⟩
      · rcases hr with rfl | hr
        · simp [vbin] at hzz
        · rw [e] at hr; cases hr; simp [vbin] at hzz
      · have : cls = 3 := by
          rcases hr with rfl | hr
          · simp [vbin] at hzz
          · rw [e1] at hr
            cases hr with
            | undef => simp [vbin] at hzz
            | nilI =>
              unfold vbin at hzz
              split at hzz <;> simp_all
        subst this
        exact isConst_out (by simpa using hi)
    refine OpG.value (v := v) (w' := w) (by simp [execOp, ho, hg, hv1]) ?_
    rw [hod]
    exact Goal.scalar (k := .fz) R hd rfl rfl rfl rfl hv2
end
end Go.Proofs.YtlhcgiegganbpaaDoorVs
set_option linter.unusedVariables false
set_option linter.unusedSimpArgs false
namespace Go.Proofs.YtlhcgiegganbpaaDoorVs
section
variable {P : Program} {w0 : World} {M : Nat → Prop} {N : Fr} {α : Al} {ν ν' : Env} {L : Lay} {a : Act} {w : World} {Φ : Funs} {o : Oper} {d : Nat} {E : Eff}

theorem srcMeet_le (R : Rel P w0 M N α ν L a w) {s1 s2 s : Src} (h : srcMeet s1 s2 = some s) : (∀ b, L.src s1 b → L.src s b) ∧ (∀ b, L.src s2 b → L.src s b) := by
  unfold srcMeet at h
  split at h
  · cases h; exact ⟨fun _ h => h, fun _ h => h⟩
  · cases h; exact ⟨R.fs, fun _ h => h⟩
  · cases h; exact ⟨fun _ h => h, R.fs⟩
  · cases h; exact ⟨fun _ h => h, fun _ h => h⟩
  · split at h
    · rename_i e; cases h; subst e; exact ⟨fun _ h => h, fun _ h => h⟩
    · cases h
  · cases h
theorem copPick_ok (R : Rel P w0 M N α ν L a w) (hd : N.W d) {c x y : Operand} {t : TypeId} (ho : o.op = .pick c x y) (hod : o.dst = some d) (h : RM.out α (copPick P d c x y t) E) (hv : runIs Φ E.vis ν = some ν') :
    OpG P o a w (Goal P w0 M N (E.ap α (some d)) ν') := by
  simp only [copPick, out_bind, out_ok, out_opt] at h
  obtain ⟨sc, h1, sx, h2, sy, h3, k1, h4, k2, h5, k3, h6, k, h7, rfl⟩ := h
  obtain ⟨p, hp, hr⟩ := opd1 R h1 h4
  obtain ⟨q, hq, hr'⟩ := opd1 R h2 h5
  obtain ⟨q', hq', hr''⟩ := opd1 R h3 h6
  obtain ⟨hm1, hm2⟩ := srcMeet_le R h7
  obtain ⟨_, _, z, hz, rfl⟩ := VI.inv1 (run_ins1 hv)
  simp only [List.map_cons, List.map_nil, hp, hq, hq'] at hz
  cases p with
  | bool b =>
    rcases hr with hr | hr
    · cases hr
    have hc := hr.bool_inv
    simp only [VF.sem, Option.some.injEq, List.cons.injEq, and_true] at hz
    subst hz
    refine OpG.value (v := if b then a.eval x else a.eval y) (w' := w) (by simp [execOp, ho, hc, asBool]) ?_
    rw [hod]
    cases b with
    | true => exact Goal.plain R hd rfl rfl rfl (RSl.one (RAs.one (by rcases hr' with h | h; exact .inl h; exact .inr (h.mono hm1 (fun _ _ => rfl)))))
    | false => exact Goal.plain R hd rfl rfl rfl (RSl.one (RAs.one (by rcases hr'' with h | h; exact .inl h; exact .inr (h.mono hm2 (fun _ _ => rfl)))))
  | _ => cases hz

/-! #### a row's value -/
theorem src_of {t : Nat} {r : Row} {b : Nat} (h : L.row t = some r) (hb : r.blk = some b) : L.src (.of t) b := .inr ⟨r, h, hb⟩
theorem of_le (R : Rel P w0 M N α ν L a w) (t : Nat) : ∀ b, L.F b → L.src (.of t) b := fun b h => .inl (R.fs b h)
theorem row_rd (R : Rel P w0 M N α ν L a w) {t : Nat} {r : Row} (h : L.row t = some r) : ∃ xs, ν (tC t) = [.list r.e xs] ∧ Rd P (L.src (.of t)) w (.list r.e xs) r.val := by
  obtain ⟨xs, hx, H⟩ := R.rows t r h
  refine ⟨xs, hx, ?_⟩
  rcases H with ⟨h1, rfl⟩ | ⟨b, o, cap, sz, ag, C, fz, H⟩
  · rw [h1]; exact .nil _ _ _
  · rw [H.hv]
    refine Rd.of_row (H.rd.mono (of_le R t) (fun _ _ => rfl)) b o cap (src_of h (by rw [Row.blk, H.hv]; rfl)) H.hc (fun i hi => ?_)
    have : o + i < C.size := by
      have h1 := H.hs
      have h2 : xs.length * sz ≤ cap * sz := Nat.mul_le_mul_right _ H.hc
      omega
    simp [World.cell?, H.hh, this]
theorem cont_ok (R : Rel P w0 M N α ν L a w) {s : Seg} {c : Value} {g : VArg} {k : Src} {chk : List (Nat × Nat)} (h : RSl P L w s.sh (s.arg.get ν) c) (hc : cont s = some (g, k, chk)) (hk : chk.all (unitAt ν) = true) :
    ∃ x, g.get ν = [x] ∧ (x = .undef ∨ Rd P (L.src k) w x c) := by
  obtain ⟨sh, arg⟩ := s
  cases sh with
  | one a1 => cases a1 with
    | v k' => cases hc; exact v_of h
    | nils =>
      cases hc
      obtain ⟨x, hx, hr⟩ := RAs.single h
      refine ⟨x, hx, ?_⟩
      rcases hr with hr | ⟨rfl, e, rfl⟩
      · exact .inl hr
      · exact .inr (.nil e _ _)
    | own t => cases arg with
      | c i =>
        cases hc
        obtain ⟨x, hx, hr⟩ := RAs.single h
        have hu := unit_chk hk (List.mem_singleton.2 rfl) hx rfl
        subst hu
        rcases hr with hr | ⟨_, r, hr, rfl⟩
        · cases hr
        obtain ⟨xs, hxs, H⟩ := row_rd R hr
        exact ⟨_, hxs, .inr H⟩
      | lit vs => cases hc
    | _ => cases hc
  | _ => cases hc

/-! #### lengths, conversions, strings -/
theorem elem_of {t e : TypeId} (h : P.underlying t = some (.slice e)) : P.underlying t = some (.slice (P.elem t)) := by simp [Program.elem, h]
theorem elem_eq {t e : TypeId} (h : P.underlying t = some (.slice e)) : P.elem t = e := by simp [Program.elem, h]
theorem copLen_ok (R : Rel P w0 M N α ν L a w) (hd : N.W d) {x : Operand} {t : TypeId} (ho : o.op = .call { callee := .builtin .len, args := #[x], argTypes := #[t] }) (hod : o.dst = some d) (h : RM.out α (copLen P d x t) E) (hv : runIs Φ E.vis ν = some ν') :
    OpG P o a w (Goal P w0 M N (E.ap α (some d)) ν') := by
  simp only [copLen, out_bind] at h
  obtain ⟨s, h1, h⟩ := h
  split at h
  · rename_i hu
    simp only [out_bind, out_ok] at h
    obtain ⟨k, hk, rfl⟩ := h
    obtain ⟨p, hp, hr⟩ := opd1 R h1 hk
    obtain ⟨_, _, z, hz, rfl⟩ := VI.inv1 (run_ins1 hv)
    simp only [List.map_cons, List.map_nil, hp] at hz
    rcases hr with rfl | hr
    · cases hz
    cases p with
    | str s' =>
      rw [VF.sem] at hz; cases hz
      have hc := hr.str_inv
      refine OpG.value (v := goInt s'.size) (w' := w) (by simp [execOp, ho, resolve, invoke, builtin, hc, Builtin.len_, run_underlying hu]) ?_
      rw [hod]
      exact Goal.scalar (k := .fz) R hd rfl rfl rfl rfl (.int _ _)
    | _ => cases hz
  · rename_i e hu
    simp only [out_bind, out_opt, out_ok] at h
    obtain ⟨⟨g, k, chk⟩, hc, rfl⟩ := h
    obtain ⟨hk, _, z, hz, rfl⟩ := VI.inv1 (run_ins1 hv)
    obtain ⟨p, hp, hr⟩ := cont_ok R (opd_ok R h1) hc hk
    simp only [List.map_cons, List.map_nil, hp] at hz
    rcases hr with rfl | hr
    · cases hz
    cases p with
    | list e' xs =>
      rw [VF.sem] at hz; cases hz
      obtain ⟨a1, cap, hc⟩ := hr.slice
      refine OpG.value (v := goInt xs.length) (w' := w) (by simp [execOp, ho, resolve, invoke, builtin, hc, Builtin.len_, run_underlying hu]) ?_
      rw [hod]
      exact Goal.scalar (k := .fz) R hd rfl rfl rfl rfl (.int _ _)
    | _ => cases hz
  · rw [out_no] at h; exact h.elim
theorem nums_of {e : TypeId} : ∀ {xs : List V} {ns : List Int}, xs.mapM numOf = some ns → xs = ns.map (V.int .u8)
  | [], ns, h => by simp only [List.mapM_nil] at h; cases h; rfl
  | x :: r, ns, h => by
    simp only [List.mapM_cons, Option.bind_eq_bind, Option.bind_eq_some_iff, Option.pure_def, Option.some.injEq] at h
    obtain ⟨y, hy, l, hl, rfl⟩ := h
    have := nums_of (e := e) hl
    subst this
    unfold numOf at hy
    split at hy
    · cases hy; rfl
    · cases hy
theorem copConv_ok (R : Rel P w0 M N α ν L a w) (hd : N.W d) {s t : TypeId} {x : Operand} (ho : o.op = .convert s t x) (hod : o.dst = some d) (h : RM.out α (copConv P d s t x) E) (hv : runIs Φ E.vis ν = some ν')
    (hn : ∀ e, P.underlying s = some .string → P.underlying t = some (.slice e) → OpG P o a w (Goal P w0 M N (E.ap α (some d)) ν')) :
    OpG P o a w (Goal P w0 M N (E.ap α (some d)) ν') := by
  simp only [copConv, out_bind] at h
  obtain ⟨sx, h1, h⟩ := h
  split at h
  · rename_i k0 k hs ht
    simp only [out_bind, out_ok] at h
    obtain ⟨k1, hk, rfl⟩ := h
    obtain ⟨p, hp, hr⟩ := opd1 R h1 hk
    obtain ⟨_, _, z, hz, rfl⟩ := VI.inv1 (run_ins1 hv)
    simp only [List.map_cons, List.map_nil, hp] at hz
    rcases hr with rfl | hr
    · cases hz
    cases p with
    | int k2 n =>
      rw [VF.sem] at hz; cases hz
      have hc := hr.int_inv
      refine OpG.value (v := .int k (k.wrap n)) (w' := w) (by simp [execOp, ho, hc, convert, run_underlying hs, run_underlying ht, Conv.intToInt]) ?_
      rw [hod]
      exact Goal.scalar (k := .fz) R hd rfl rfl rfl rfl (.int _ _)
    | _ => cases hz
  · rename_i hs ht
    simp only [out_bind, out_ok] at h
    obtain ⟨k1, hk, rfl⟩ := h
    obtain ⟨p, hp, hr⟩ := opd1 R h1 hk
    obtain ⟨_, _, z, hz, rfl⟩ := VI.inv1 (run_ins1 hv)
    simp only [List.map_cons, List.map_nil, hp] at hz
    rcases hr with rfl | hr
    · cases hz
    cases p with
    | str s' =>
      rw [VF.sem] at hz; cases hz
      refine OpG.value (v := .string s') (w' := w) (by simp [execOp, ho, hr.str_inv, convert, run_underlying hs, run_underlying ht]) ?_
      rw [hod]
      exact Goal.scalar (k := .fz) R hd rfl rfl rfl rfl (.str _)
    | _ => cases hz
  · rename_i e hs ht
    simp only [out_bind, out_opt, out_need, out_ok] at h
    obtain ⟨⟨g, k, chk⟩, hc, _, he, _, hz1, rfl⟩ := h
    obtain ⟨hk, _, z, hz, rfl⟩ := VI.inv1 (run_ins1 hv)
    obtain ⟨p, hp, hr⟩ := cont_ok R (opd_ok R h1) hc hk
    simp only [List.map_cons, List.map_nil, hp] at hz
    have he' : P.underlying e = some (.int .u8) := by split at he <;> simp_all
    rcases hr with rfl | hr
    · cases hz
    cases p with
    | list e' xs =>
      simp only [VF.sem, Option.map_eq_some_iff] at hz
      obtain ⟨ns, hns, hz⟩ := hz
      cases hz
      have hxs := nums_of (e := e) hns
      subst hxs
      have hrun : (convert s t (a.eval x)).run P w = .ok (.string (strOfNums ns)) w := by
        by_cases hnil : ns = []
        · subst hnil
          obtain ⟨a1, cap, hc2⟩ := hr.slice
          rw [hc2]
          simp only [List.map_nil, List.length_nil]
          cases a1 with
          | none => rw [run_convert_bytes_nil w s e hs he' 0 cap t ht]; rfl
          | some ad =>
            rw [run_convert_bytes_string w s t e _ 0 cap hs he' ht]
            rw [run_bytesToString w ad 0 cap [] (by simp [loadCells, loadCellsFrom])]
            rfl
        · obtain ⟨b, o1, cap, sz, ag, f, hc2, _, _, hrow, hf⟩ := hr.row (by simpa using hnil)
          rw [hc2]
          cases ag with
          | true =>
            cases ns with
            | nil => exact absurd rfl hnil
            | cons n r => obtain ⟨ys, hy, _⟩ := hrow.hx 0 (by simp); simp at hy
          | false =>
            have := hrow.ha rfl; subst this
            have hlen : (ns.map (V.int .u8)).length = ns.length := by simp
            rw [hlen]
            refine run_convert_bytes_arg w s e hs he' b o1 ns.length cap ns rfl (fun i hi => ?_) t ht
            rw [hf i (by simpa using hi)]
            have h3 : Rd P _ w _ _ := (show _ ∧ _ from hrow.hx i (by simpa using hi)).2
            simp only [List.getElem_map, Nat.mul_one, Nat.add_zero] at h3
            rw [h3.int_inv]
            simp [List.getD, List.getElem?_eq_getElem hi]
      refine OpG.value (v := .string (strOfNums ns)) (w' := w) (by simp [execOp, ho, hrun]) ?_
      rw [hod]
      exact Goal.scalar (k := .fz) R hd rfl rfl rfl rfl (.str _)
    | _ => cases hz
  · rename_i e hs ht
    exact hn e hs ht
  · rw [out_no] at h; exact h.elim

/-! #### parts of values -/
theorem RAs.sub {as : List At} {xs : List V} {cs : List Value} (h : RAs P L w as xs cs) (off n : Nat) (hn : off + n ≤ as.length) : RAs P L w ((as.drop off).take n) ((xs.drop off).take n) ((cs.drop off).take n) := by
  obtain ⟨h1, h2, h3⟩ := h
  refine ⟨by simp; omega, by simp; omega, fun i h0 h1' h2' => ?_⟩
  simp only [List.getElem_take, List.getElem_drop]
  simp only [List.length_take, List.length_drop] at h0
  exact h3 (off + i) (by omega) (by omega) (by omega)
theorem mkSh_ok {ag : Bool} {as : List At} {h : Sh} {xs : List V} {cs : List Value} (hm : mkSh ag as = some h) (H : RAs P L w as xs cs) : RSl P L w h xs (if ag then .agg cs.toArray else cs.headD undef) := by
  unfold mkSh at hm
  cases ag with
  | true => cases hm; exact ⟨cs.toArray, by simp, by simpa using H⟩
  | false =>
    simp only [Bool.false_eq_true, if_false] at hm ⊢
    split at hm
    · cases hm
      obtain ⟨c, rfl⟩ := List.length_eq_one_iff.1 (H.1.symm.trans (by simp))
      exact RSl.one H
    · cases hm
theorem RParts.nth : ∀ {ps : List (Bool × List At)} {xs : List V} {cs : List Value}, RParts P L w ps xs cs → ∀ (i : Nat) {p : Bool × List At}, ps[i]? = some p → ∃ c, cs[i]? = some c ∧ RPart P L w p ((xs.drop ((ps.take i).map (·.2.length)).sum).take p.2.length) c ∧ ((ps.take i).map (·.2.length)).sum + p.2.length ≤ xs.length
  | [], xs, cs, h, i, p, hp => by simp at hp
  | q :: ps, xs, cs, ⟨x1, x2, c, c2, hxs, hcs, h1, h2⟩, i, p, hp => by
    subst hxs; subst hcs
    have hlen : x1.length = q.2.length := by
      unfold RPart at h1
      split at h1
      · obtain ⟨_, _, h⟩ := h1; exact h.2.1
      · exact h1.2.1
    cases i with
    | zero =>
      simp only [List.getElem?_cons_zero, Option.some.injEq] at hp
      subst hp
      refine ⟨c, rfl, ?_, by simp [hlen]⟩
      have : ((x1 ++ x2).drop ((List.take 0 (q :: ps)).map (·.2.length)).sum).take q.2.length = x1 := by
        simp only [List.take_zero, List.map_nil, List.sum_nil, List.drop_zero]
        rw [← hlen, List.take_left]
      rw [this]; exact h1
    | succ i =>
      simp only [List.getElem?_cons_succ] at hp
      obtain ⟨c', h3, h4, h5⟩ := RParts.nth h2 i hp
      refine ⟨c', by simpa using h3, ?_, by simp only [List.take_succ_cons, List.map_cons, List.sum_cons, List.length_append]; omega⟩
      have : (x1 ++ x2).drop ((List.take (i + 1) (q :: ps)).map (·.2.length)).sum = x2.drop ((ps.take i).map (·.2.length)).sum := by
        simp only [List.take_succ_cons, List.map_cons, List.sum_cons, ← hlen]
        rw [← List.drop_drop, List.drop_left]
      rw [this]; exact h4
theorem RPart.sh {p : Bool × List At} {h : Sh} {xs : List V} {c : Value} (hm : mkSh p.1 p.2 = some h) (H : RPart P L w p xs c) : RSl P L w h xs c := by
  obtain ⟨b, as⟩ := p
  cases b with
  | true =>
    obtain ⟨cs, rfl, h1⟩ := H
    have := mkSh_ok hm h1
    simpa using this
  | false =>
    have := mkSh_ok hm (show RAs P L w as xs [c] from H)
    simpa using this
theorem opd_len {x : Operand} {ty : TypeId} {s : Seg} (h : RM.out α (opd P x ty) s) : True := trivial
theorem copExtract_ok (R : Rel P w0 M N α ν L a w) (hd : N.W d) {x : Operand} {i : Nat} (ho : o.op = .extract x i) (hod : o.dst = some d) (h : RM.out α (copExtract P d x i) E) (hv : runIs Φ E.vis ν = some ν') :
    OpG P o a w (Goal P w0 M N (E.ap α (some d)) ν') := by
  simp only [copExtract, out_bind] at h
  obtain ⟨s, h1, h⟩ := h
  have H := opd_ok R h1
  split at h
  · rename_i ps hs
    simp only [out_bind, out_opt, out_ok] at h
    obtain ⟨p, hp, hh, hm, rfl⟩ := h
    rw [hs] at H
    obtain ⟨cs, hc, hps⟩ := H
    obtain ⟨c, hci, hpart, hle⟩ := hps.nth i hp
    obtain ⟨_, _, xs, hx, rfl⟩ := viG1 (run_ins1 hv)
    have hxs : xs = ((s.arg.get ν).drop ((ps.take i).map (·.2.length)).sum).take p.2.length := by
      rcases hx.range with ⟨h, _⟩ | ⟨h0, rfl⟩
      · exact h
      · rw [h0]; simp
    subst hxs
    have hci' : cs[i]? = some c := by simpa using hci
    refine OpG.value (v := c) (w' := w) (by simp [execOp, ho, hc, Instr.extract, hci']) ?_
    rw [hod]
    exact Goal.plain R hd rfl rfl rfl (RPart.sh hm hpart)
  · rw [out_no] at h; exact h.elim
theorem fieldOf_ok {t : TypeId} {f off n : Nat} {ag : Bool} (h : fieldOf P t f = some (off, n, ag)) : ∃ fs g, P.underlying t = some (.struct fs) ∧ fs[f]? = some g ∧ szOf P g.type = some n ∧ agT P g.type = some ag ∧ g.offset = off := by
  unfold fieldOf at h
  split at h
  · rename_i fs hu
    simp only [Option.bind_eq_some_iff, Option.map_eq_some_iff, Prod.mk.injEq] at h
    obtain ⟨g, hg, m, hm, b, hb, rfl, rfl, rfl⟩ := h
    exact ⟨fs, g, hu, hg, hm, hb, rfl⟩
  · cases h
theorem run_isAgg {t : TypeId} {b : Bool} (h : agT P t = some b) : (isAgg t).run P w = .ok b w := by
  unfold agT at h
  unfold isAgg
  split at h
  · rename_i fs hu; cases h; simp [run_underlying hu]
  · rename_i n e hu; cases h; simp [run_underlying hu]
  · rename_i dd h1 h2 hu
    cases h
    simp only [Sem.run_bind, run_underlying hu, Result.andThen_ok]
    rfl
  · cases h
theorem run_sizeOf {t : TypeId} {n : Nat} (h : szOf P t = some n) : (sizeOf t).run P w = .ok n w := by
  simp only [szOf, Option.map_eq_some_iff] at h
  obtain ⟨i, hi, rfl⟩ := h
  simp [sizeOf, typeInfo, hi]
theorem copField_ok (R : Rel P w0 M N α ν L a w) (hd : N.W d) {x : Operand} {t : TypeId} {f : Nat} (ho : o.op = .field t x f) (hod : o.dst = some d) (h : RM.out α (copField P d t x f) E) (hv : runIs Φ E.vis ν = some ν') :
    OpG P o a w (Goal P w0 M N (E.ap α (some d)) ν') := by
  simp only [copField, out_bind] at h
  obtain ⟨s, h1, h⟩ := h
  have H := opd_ok R h1
  split at h
  · rename_i as hs
    simp only [out_bind, out_opt, out_need, out_ok] at h
    obtain ⟨⟨off, n, ag⟩, hf, _, hle, hh, hm, rfl⟩ := h
    simp only [decide_eq_true_eq] at hle
    rw [hs] at H
    obtain ⟨cs, hc, has⟩ := H
    obtain ⟨fs, g, hu, hg, hsz, hag, hoff⟩ := fieldOf_ok hf
    obtain ⟨_, _, xs, hx, rfl⟩ := viG1 (run_ins1 hv)
    have hxs : xs = ((s.arg.get ν).drop off).take n := by
      rcases hx.range with ⟨h, _⟩ | ⟨h0, rfl⟩
      · exact h
      · simp only at h0; rw [h0]; simp
    subst hxs
    have hsub := has.sub off n hle
    have hcl : as.length = cs.size := by simpa using has.1
    have hrun : (execOp a.eval o).run P w = .ok (.value (if ag then .agg ((cs.toList.drop off).take n).toArray else ((cs.toList.drop off).take n).headD undef)) w := by
      simp only [execOp, ho, Instr.field, Sem.run_bind, run_underlying hu, Result.andThen_ok, hg, hc, asAgg, Sem.run_pure, part, run_isAgg hag, hoff]
      cases ag with
      | true =>
        simp only [if_true, Sem.run_bind, run_sizeOf hsz, Result.andThen_ok, Sem.run_pure]
        congr 3
        apply Array.ext'
        simp [List.take_drop, List.extract_eq_take_drop]
      | false =>
        have : n = 1 := by
          unfold mkSh at hm
          simp only [Bool.false_eq_true, if_false] at hm
          split at hm
          · rename_i a1 e
            have := congrArg List.length e
            simp at this
            omega
          · cases hm
        subst this
        have hlt : off < cs.size := by omega
        simp [hlt, List.take_one, List.head?_drop, List.headD]
    refine OpG.value hrun ?_
    rw [hod]
    exact Goal.plain R hd rfl rfl rfl (mkSh_ok hm hsub)
  · rw [out_no] at h; exact h.elim

/-! #### places -/
theorem add_plain (b o n : Nat) : (⟨b, o, none⟩ : Addr).add n = ⟨b, o + n, none⟩ := by
  unfold Addr.add
  split
  · rename_i h; subst h; rfl
  · rfl
theorem copMoveA (R : Rel P w0 M N α ν L a w) (hd : N.W d) {s : Seg} {at1 at2 : At} {c v : Value} {chk : List (Nat × Nat)} (hs : s.sh = .one at1) (hx : RSl P L w s.sh (s.arg.get ν) c)
    (hrun : (execOp a.eval o).run P w = .ok (.value v) w) (hod : o.dst = some d) (hv : runIs Φ [viG [(sC d, [(s.arg, 0)])] chk []] ν = some ν')
    (hn : ∀ x, x ≠ V.undef → (RA P L w at1 x c) → chk.all (unitAt ν) = true → (s.arg.get ν) = [x] → RA P L w at2 x v) (hl : ∀ x, RSl P L w (.one at1) x c → x.length = 1) :
    OpR P o a w (Goal P w0 M N ((Eff.mk [viG [(sC d, [(s.arg, 0)])] chk []] [] [] [] (.one at2)).ap α (some d)) ν') := by
  obtain ⟨hk, _, xs, h6, rfl⟩ := viG1 (run_ins1 hv)
  obtain ⟨z, rfl, h7, h8⟩ := h6.one
  rw [hs] at hx
  obtain ⟨x, hx1⟩ := List.length_eq_one_iff.1 (hl _ hx)
  rw [hx1] at h7 hx
  simp only [List.getElem?_cons_zero, Option.some.injEq] at h7
  subst h7
  refine OpR.value hrun ?_
  rw [hod]
  refine Goal.plain R hd rfl rfl rfl (RSl.one (RAs.one (hn x h8 ?_ hk hx1)))
  cases at1 with
  | dead => exact .inr trivial
  | gone k => exact .inr trivial
  | _ => obtain ⟨y, hy, hr⟩ := RAs.single hx; cases hy; exact hr
theorem len1 {at1 : At} {xs : List V} {c : Value} (h1 : at1 ≠ .dead) (h2 : ∀ k, at1 ≠ .gone k) (h : RSl P L w (.one at1) xs c) : xs.length = 1 := by
  have := atoms_len h (by simpa using h1) (by simpa using h2) rfl
  simpa [Sh.atoms] using this
theorem copFieldAddr_ok (R : Rel P w0 M N α ν L a w) (hd : N.W d) {x : Operand} {t : TypeId} {f : Nat} (ho : o.op = .fieldAddr t x f) (hod : o.dst = some d) (h : RM.out α (copFieldAddr P d t x f) E) (hv : runIs Φ E.vis ν = some ν') :
    OpR P o a w (Goal P w0 M N (E.ap α (some d)) ν') := by
  simp only [copFieldAddr, out_bind, out_opt, out_need] at h
  obtain ⟨s, h1, ⟨off, n, ag⟩, hf, _, hn, h⟩ := h
  have H := opd_ok R h1
  obtain ⟨fs, g, hu, hg, hsz, hag, hoff⟩ := fieldOf_ok hf
  have hn0 : n ≠ 0 := by simpa using hn
  have hrun : ∀ b q, a.eval x = .pointer (some ⟨b, q, none⟩) → (execOp a.eval o).run P w = .ok (.value (.pointer (some ⟨b, q + off, none⟩))) w := by
    intro b q hc
    simp [execOp, ho, Instr.fieldAt, run_underlying hu, hg, hc, Instr.sureAddr, fieldPlace, run_sizeOf hsz, hn0, hoff, add_plain]
  split at h
  · rename_i u q hs
    rw [out_ok] at h; subst h
    have H' := H; rw [hs] at H'
    obtain ⟨y, hy, hr⟩ := RAs.single H'
    rcases hr with rfl | ⟨rfl, b, ro, hb, hc⟩
    · obtain ⟨_, _, xs, h6, _⟩ := viG1 (run_ins1 hv)
      obtain ⟨z, _, h7, h8⟩ := h6.one
      rw [hy] at h7; simp at h7; exact absurd h7.symm h8
    · exact copMoveA R hd hs H (hrun b q hc) hod hv (fun z hz hr _ hz1 => by
        rw [hy] at hz1; cases hz1
        exact .inr ⟨rfl, b, ro, hb, rfl⟩) (fun z hz => len1 (by simp) (by simp) hz)
  · rename_i k j hs
    rw [out_ok] at h; subst h
    have H' := H; rw [hs] at H'
    obtain ⟨y, hy, hr⟩ := RAs.single H'
    rcases hr with rfl | ⟨r, i, b, q, m, cap, sz, h3, rfl, h4, h5, h6, hc⟩
    · obtain ⟨_, _, xs, h6, _⟩ := viG1 (run_ins1 hv)
      obtain ⟨z, _, h7, h8⟩ := h6.one
      rw [hy] at h7; simp at h7; exact absurd h7.symm h8
    · exact copMoveA R hd hs H (hrun b _ hc) hod hv (fun z hz hr _ hz1 => by
        rw [hy] at hz1; cases hz1
        exact .inr ⟨r, i, b, q, m, cap, sz, h3, rfl, h4, h5, h6, by rw [Nat.add_assoc]⟩) (fun z hz => len1 (by simp) (by simp) hz)
  · rename_i s1 j hs
    rw [out_ok] at h; subst h
    have H' := H; rw [hs] at H'
    obtain ⟨y, hy, hr⟩ := RAs.single H'
    rcases hr with rfl | ⟨b, q, h3, h4, hc⟩
    · obtain ⟨_, _, xs, h6, _⟩ := viG1 (run_ins1 hv)
      obtain ⟨z, _, h7, h8⟩ := h6.one
      rw [hy] at h7; simp at h7; exact absurd h7.symm h8
    · refine copMoveA R hd hs H (hrun b _ hc) hod hv (fun z hz hr _ hz1 => ?_) (fun z hz => len1 (by simp) (by simp) hz)
      rw [hy] at hz1; cases hz1
      exact .inr ⟨b, q, h3, h4, by rw [Nat.add_assoc]⟩
  · rw [out_no] at h; exact h.elim
end
end Go.Proofs.YtlhcgiegganbpaaDoorVs
set_option linter.unusedVariables false
set_option linter.unusedSimpArgs false
namespace Go.Proofs.YtlhcgiegganbpaaDoorVs
section
variable {P : Program} {w0 : World} {M : Nat → Prop} {N : Fr} {α : Al} {ν ν' : Env} {L : Lay} {a : Act} {w : World} {Φ : Funs} {o : Oper} {d : Nat} {E : Eff}

theorem true_chk {i : Nat} {asr : List (Nat × Nat)} (h : asr.all (trueAt ν) = true) (hm : (i, 0) ∈ asr) {xs : List V} (hx : ν i = xs) {x : V} (h1 : xs = [x]) : x = .bool true := by
  have := List.all_eq_true.1 h _ hm
  simp only [trueAt, hx, h1] at this
  split at this
  · rename_i e; simpa using e
  · cases this
theorem copNilCheck_ok (R : Rel P w0 M N α ν L a w) (hd : N.W d) {x : Operand} (ho : o.op = .nilCheck x) (hod : o.dst = some d) (h : RM.out α (copNilCheck P d x) E) (hv : runIs Φ E.vis ν = some ν') :
    OpR P o a w (Goal P w0 M N (E.ap α (some d)) ν') := by
  simp only [copNilCheck, out_bind] at h
  obtain ⟨s, h1, h⟩ := h
  have H := opd_ok R h1
  split at h
  · rename_i u q i hs hg
    rw [out_ok] at h; subst h
    have H' := H; rw [hs, hg] at H'
    obtain ⟨y, hy, hr⟩ := RAs.single H'
    obtain ⟨hk, _, xs, h6, rfl⟩ := viG1 (run_ins1 hv)
    have hu := unit_chk hk (List.mem_singleton.2 rfl) hy rfl
    subst hu
    obtain ⟨z, rfl, h7, h8⟩ := h6.one
    rw [hg] at h7; simp only [hy, List.getElem?_cons_zero, Option.some.injEq] at h7; subst h7
    rcases hr with hr | ⟨_, b, ro, hb, hc⟩
    · cases hr
    refine OpR.value (v := a.eval x) (by simp [execOp, ho, hc]) ?_
    rw [hod]
    exact Goal.plain R hd rfl rfl rfl (RSl.one (RAs.one (.inr ⟨rfl, b, ro, hb, hc⟩)))
  · rename_i u i hs hg
    rw [out_ok] at h; subst h
    have H' := H; rw [hs, hg] at H'
    obtain ⟨y, hy, hr⟩ := RAs.single H'
    obtain ⟨_, hk, xs, h6, rfl⟩ := viG1 (run_ins1 hv)
    have hu := true_chk hk (List.mem_singleton.2 rfl) hy rfl
    subst hu
    have := h6.unit; subst this
    rcases hr with hr | ⟨hr, _⟩ | ⟨_, b, ro, hb, hc⟩
    · cases hr
    · cases hr
    refine OpR.value (v := a.eval x) (by simp [execOp, ho, hc]) ?_
    rw [hod]
    exact Goal.plain R hd rfl rfl rfl (RSl.one (RAs.one (.inr ⟨rfl, b, ro, hb, hc⟩)))
  · rw [out_no] at h; exact h.elim
theorem copIndex_ok (R : Rel P w0 M N α ν L a w) (hd : N.W d) {x i : Operand} {t : TypeId} (ho : o.op = .index t x i) (hod : o.dst = some d) (h : RM.out α (copIndex P d t x i) E) (hv : runIs Φ E.vis ν = some ν') :
    OpG P o a w (Goal P w0 M N (E.ap α (some d)) ν') := by
  simp only [copIndex, out_bind] at h
  obtain ⟨s, h1, s', h2, k, hk, k', hk', h⟩ := h
  split at h
  · rename_i hu
    rw [out_ok] at h; subst h
    obtain ⟨p, hp, hr⟩ := opd1 R h1 hk
    obtain ⟨q, hq, hr'⟩ := opd1 R h2 hk'
    obtain ⟨_, _, z, hz, rfl⟩ := VI.inv1 (run_ins1 hv)
    simp only [List.map_cons, List.map_nil, hp, hq] at hz
    rcases hr with rfl | hr
    · cases hz
    rcases hr' with rfl | hr'
    · cases p <;> cases hz
    cases p with
    | str s' => cases q with
      | int k2 n =>
        rw [VF.sem] at hz
        split at hz
        · rename_i h0
          simp only [Option.map_eq_some_iff] at hz
          obtain ⟨b, hb, hz⟩ := hz
          cases hz
          have hc := hr.str_inv
          have hc' := hr'.int_inv
          have hb' : s'[n.toNat]? = some b := by
            obtain ⟨hlt, hb2⟩ := List.getElem?_eq_some_iff.1 hb
            have hsz : n.toNat < s'.size := by simpa using hlt
            rw [getElem?_pos s' n.toNat hsz]
            have h3 : s'.data[n.toNat] = b := by simpa using hb2
            exact congrArg some h3
          refine OpG.value (v := .int .u8 b.toNat) (w' := w) (by simp [execOp, ho, hc, hc', Instr.index, asIntOf, run_underlying hu, h0, hb']) ?_
          rw [hod]
          exact Goal.scalar (k := .fz) R hd rfl rfl rfl rfl (.int _ _)
        · cases hz
      | _ => cases hz
    | _ => cases hz
  · rw [out_no] at h; exact h.elim
theorem copMM_ok (R : Rel P w0 M N α ν L a w) (hd : N.W d) {mx : Bool} {xs : List Operand} {ts : List TypeId} (ho : o.op = .call { callee := .builtin (if mx then .max else .min), args := xs.toArray, argTypes := ts.toArray }) (hod : o.dst = some d) (h : RM.out α (copMM P d mx xs ts) E) (hv : runIs Φ E.vis ν = some ν') :
    OpG P o a w (Goal P w0 M N (E.ap α (some d)) ν') := by
  unfold copMM at h
  split at h
  · rename_i x y t u
    simp only [out_bind, out_ok] at h
    obtain ⟨s, h1, s', h2, k, hk, k', hk', rfl⟩ := h
    obtain ⟨p, hp, hr⟩ := opd1 R h1 hk
    obtain ⟨q, hq, hr'⟩ := opd1 R h2 hk'
    obtain ⟨_, _, z, hz, rfl⟩ := VI.inv1 (run_ins1 hv)
    simp only [List.map_cons, List.map_nil, hp, hq] at hz
    rcases hr with rfl | hr
    · cases mx <;> cases hz
    rcases hr' with rfl | hr'
    · cases mx <;> cases p <;> cases hz
    cases p with
    | int k1 n => cases q with
      | int k2 m =>
        have hc := hr.int_inv
        have hc' := hr'.int_inv
        cases mx with
        | true =>
          cases hz
          refine OpG.value (v := .int k1 (if n < m then m else n)) (w' := w) (by simp [execOp, ho, hc, hc', resolve, invoke, builtin, Builtin.max_, Builtin.max2]) ?_
          rw [hod]
          exact Goal.scalar (k := .fz) R hd rfl rfl rfl rfl (.int _ _)
        | false =>
          cases hz
          refine OpG.value (v := .int k1 (if m < n then m else n)) (w' := w) (by simp [execOp, ho, hc, hc', resolve, invoke, builtin, Builtin.min_, Builtin.min2]) ?_
          rw [hod]
          exact Goal.scalar (k := .fz) R hd rfl rfl rfl rfl (.int _ _)
      | _ => cases mx <;> cases hz
    | _ => cases mx <;> cases hz
  · rw [out_no] at h; exact h.elim
theorem copIface_ok (R : Rel P w0 M N α ν L a w) (hd : N.W d) {x : Operand} {t : TypeId} (ho : o.op = .makeInterface t x) (hod : o.dst = some d) (h : RM.out α (copIface P d t x) E) (hv : runIs Φ E.vis ν = some ν') :
    OpG P o a w (Goal P w0 M N (E.ap α (some d)) ν') := by
  simp only [copIface, out_bind, out_need] at h
  obtain ⟨s, h1, _, hc, h⟩ := h
  have H := opd_ok R h1
  split at h
  · rename_i hs
    rw [out_ok] at h; subst h
    rw [hs] at H
    obtain ⟨p, hp, hr⟩ := v_of H
    obtain ⟨_, _, z, hz, rfl⟩ := VI.inv1 (run_ins1 hv)
    simp only [List.map_cons, List.map_nil, hp, VF.sem, Option.some.injEq, List.cons.injEq, and_true] at hz
    subst hz
    refine OpG.value (v := .iface t (a.eval x)) (w' := w) (by simp [execOp, ho, run_makeInterface w t _ hc]) ?_
    rw [hod]
    exact Goal.scalar (k := .fz) R hd rfl rfl rfl rfl (.iface t p _ (by rcases hr with rfl | hr; exact .undef _; exact hr))
  · rw [out_no] at h; exact h.elim

/-! #### elements -/
theorem Rd.not_agg {S : Nat → Prop} {x : V} {c : Value} (h : Rd P S w x c) : ∀ ys, x ≠ .agg ys := by
  intro ys e; subst e; cases h
theorem el_of {S : Nat → Prop} {ag : Bool} {sz b p : Nat} {x : V} {f : Nat → Value} (h : RdE P S w ag sz x f) (hc : ∀ j, j < sz → w.cell? ⟨b, p + j, none⟩ = some (f j)) (hz : ag = false → sz = 1) : ElAt P S w b p x := by
  cases ag with
  | true =>
    obtain ⟨ys, rfl, hl, hr⟩ := h
    exact .inl ⟨ys, rfl, fun i hi => ⟨f i, hc i (by omega), (hr i hi).2⟩⟩
  | false =>
    have := hz rfl; subst this
    exact .inr ⟨Rd.not_agg h.2, f 0, hc 0 (by omega), h.2⟩
theorem idx_lt {i n sz j : Nat} (h : i < n) (hj : j < sz) : i * sz + j < n * sz := by
  have : (i + 1) * sz ≤ n * sz := Nat.mul_le_mul_right _ h
  rw [Nat.add_mul] at this
  omega
theorem constIx_ok {x : Operand} {j : Nat} (h : constIx x = some j) : a.eval x = .int .i64 j := by
  unfold constIx at h
  split at h
  · rename_i n
    split at h
    · rename_i hn
      cases h
      simp only [eval_const]
      congr 1
      omega
    · cases h
  · cases h
theorem copIndexAddr_ok (R : Rel P w0 M N α ν L a w) (hd : N.W d) {x i : Operand} {t : TypeId} (ho : o.op = .indexAddr t x i) (hod : o.dst = some d) (h : RM.out α (copIndexAddr P d t x i) E) (hv : runIs Φ E.vis ν = some ν') :
    OpR P o a w (Goal P w0 M N (E.ap α (some d)) ν') := by
  simp only [copIndexAddr, out_bind] at h
  obtain ⟨s, h1, h⟩ := h
  have H := opd_ok R h1
  split at h
  · rename_i e hu
    simp only [out_bind, out_need] at h
    obtain ⟨s', h2, k, hk, _, hsz, h⟩ := h
    obtain ⟨q, hq, hr'⟩ := opd1 R h2 hk
    have hu' := elem_of hu
    have he := elem_eq hu
    split at h
    · rename_i k1 hs
      rw [out_ok] at h; subst h
      rw [hs] at H
      obtain ⟨p, hp, hr⟩ := v_of H
      obtain ⟨_, _, z, hz, rfl⟩ := VI.inv1 (run_ins1 hv)
      simp only [List.map_cons, List.map_nil, hp, hq] at hz
      rcases hr with rfl | hr
      · cases hz
      rcases hr' with rfl | hr'
      · cases p <;> cases hz
      cases p with
      | list e' xs => cases q with
        | int k2 n =>
          rw [VF.sem] at hz
          split at hz
          · rename_i h0
            obtain ⟨he', hn⟩ := h0
            subst he'
            simp only [Option.map_eq_some_iff] at hz
            obtain ⟨y, hy, hz⟩ := hz
            cases hz
            obtain ⟨hlt, hy'⟩ := List.getElem?_eq_some_iff.1 hy
            obtain ⟨b, o1, cap, sz, ag, f, hc, hb, _, hrow, hf⟩ := hr.row (by intro e; rw [e] at hlt; simp at hlt)
            have hc' := hr'.int_inv
            have hn2 : n < (xs.length : Int) := by omega
            refine OpR.value (v := .pointer (some ⟨b, o1 + n.toNat * sz, none⟩)) (by simp [execOp, ho, hc, hc', run_indexAt_slice w t _ _ _ _ _ hu', hn, hn2, he, run_sizeOf hrow.hz, add_plain]) ?_
            rw [hod]
            refine Goal.plain R hd rfl rfl rfl (RSl.one (RAs.one (.inr ⟨b, o1 + n.toNat * sz, hb, ?_, rfl⟩)))
            have hx := hrow.hx n.toNat hlt
            rw [hy'] at hx
            refine el_of hx (fun j hj => ?_) hrow.ha
            have := hf (n.toNat * sz + j) (idx_lt hlt hj)
            rw [← this, Nat.add_assoc]
          · cases hz
        | _ => cases hz
      | _ => cases hz
    · rename_i k1 c hs hg
      rw [out_ok] at h; subst h
      rw [hs, hg] at H
      obtain ⟨p, hp, hr⟩ := RAs.single H
      obtain ⟨hck, _, z, hz, rfl⟩ := VI.inv1 (run_ins1 hv)
      have hun := unit_chk hck (List.mem_singleton.2 rfl) hp rfl
      subst hun
      rcases hr with hr | ⟨_, r, hrow, hc⟩
      · cases hr
      obtain ⟨xs, hxs, hrd⟩ := row_rd R hrow
      simp only [List.map_cons, List.map_nil, hq, get_c, hxs] at hz
      rcases hr' with rfl | hr'
      · cases hz
      cases q with
      | int k2 n =>
        rw [VF.sem] at hz
        split at hz
        · rename_i h0
          obtain ⟨he', hn, hlt⟩ := h0
          cases hz
          have hlt' : n.toNat < xs.length := by omega
          obtain ⟨b, o1, cap, sz, ag, f, hc2, hb, _, hrw, hf⟩ := hrd.row (by intro e; rw [e] at hlt'; simp at hlt')
          have hc' := hr'.int_inv
          rw [hc2] at hc
          refine OpR.value (v := .pointer (some ⟨b, o1 + n.toNat * sz, none⟩)) (by simp [execOp, ho, hc, hc', run_indexAt_slice w t _ _ _ _ _ hu', hn, hlt, he, ← he', run_sizeOf hrw.hz, add_plain]) ?_
          rw [hod]
          exact Goal.plain R hd rfl rfl rfl (RSl.one (RAs.one (.inr ⟨r, n.toNat, b, o1, xs.length, cap, sz, hrow, by congr 1; omega, hc2, hrw.hz, hlt', rfl⟩)))
        · cases hz
      | _ => cases hz
    · rw [out_no] at h; exact h.elim
  · rename_i len e hu
    simp only [out_bind, out_need, out_opt] at h
    obtain ⟨n, hsz, j, hj, _, hn, h⟩ := h
    simp only [Bool.and_eq_true, decide_eq_true_eq] at hn
    have hidx := constIx_ok (a := a) hj
    have hu' : P.underlying t = some (.array (P.arrayLen t) (P.elem t)) := by simp [Program.elem, Program.arrayLen, hu]
    have he : P.elem t = e := by simp [Program.elem, hu]
    have hlen : P.arrayLen t = len := by simp [Program.arrayLen, hu]
    have hrun : ∀ b q, a.eval x = .pointer (some ⟨b, q, none⟩) → (execOp a.eval o).run P w = .ok (.value (.pointer (some ⟨b, q + j * n, none⟩))) w := by
      intro b q hc
      have h1 : (j : Int) < len := by omega
      simp [execOp, ho, hc, hidx, run_indexAt_array w t _ _ _ hu', hlen, h1, he, run_sizeOf hsz, add_plain]
    split at h
    · rename_i u q hs
      rw [out_ok] at h; subst h
      have H' := H; rw [hs] at H'
      obtain ⟨y, hy, hr⟩ := RAs.single H'
      rcases hr with rfl | ⟨rfl, b, ro, hb, hc⟩
      · obtain ⟨_, _, xs, h6, _⟩ := viG1 (run_ins1 hv)
        obtain ⟨z, _, h7, h8⟩ := h6.one
        rw [hy] at h7; simp at h7; exact absurd h7.symm h8
      · exact copMoveA R hd hs H (hrun b q hc) hod hv (fun z hz hr _ hz1 => by
          rw [hy] at hz1; cases hz1
          exact .inr ⟨rfl, b, ro, hb, rfl⟩) (fun z hz => len1 (by simp) (by simp) hz)
    · rename_i k j hs
      rw [out_ok] at h; subst h
      have H' := H; rw [hs] at H'
      obtain ⟨y, hy, hr⟩ := RAs.single H'
      rcases hr with rfl | ⟨r, i, b, q, m, cap, sz, h3, rfl, h4, h5, h6, hc⟩
      · obtain ⟨_, _, xs, h6, _⟩ := viG1 (run_ins1 hv)
        obtain ⟨z, _, h7, h8⟩ := h6.one
        rw [hy] at h7; simp at h7; exact absurd h7.symm h8
      · exact copMoveA R hd hs H (hrun b _ hc) hod hv (fun z hz hr _ hz1 => by
          rw [hy] at hz1; cases hz1
          exact .inr ⟨r, i, b, q, m, cap, sz, h3, rfl, h4, h5, h6, by simp only [Nat.add_assoc]⟩) (fun z hz => len1 (by simp) (by simp) hz)
    · rename_i s1 j hs
      rw [out_ok] at h; subst h
      have H' := H; rw [hs] at H'
      obtain ⟨y, hy, hr⟩ := RAs.single H'
      rcases hr with rfl | ⟨b, q, h3, h4, hc⟩
      · obtain ⟨_, _, xs, h6, _⟩ := viG1 (run_ins1 hv)
        obtain ⟨z, _, h7, h8⟩ := h6.one
        rw [hy] at h7; simp at h7; exact absurd h7.symm h8
      · refine copMoveA R hd hs H (hrun b _ hc) hod hv (fun z hz hr _ hz1 => ?_) (fun z hz => len1 (by simp) (by simp) hz)
        rw [hy] at hz1; cases hz1
        exact .inr ⟨b, q, h3, h4, by simp only [Nat.add_assoc]⟩
    · rw [out_no] at h; exact h.elim
  · rw [out_no] at h; exact h.elim

/-! #### loads -/
theorem run_loadVar_ag {t : TypeId} {b q n : Nat} {f : Nat → Value} (hag : agT P t = some true) (hsz : szOf P t = some n) (hc : ∀ j, j < n → w.cell? ⟨b, q + j, none⟩ = some (f j)) :
    (loadVar t ⟨b, q, none⟩).run P w = .ok (.agg ((List.range n).map f).toArray) w := by
  have := run_loadCells (P := P) w ⟨b, q, none⟩ n f (fun j hj => by rw [add_plain]; exact hc j hj)
  simp [loadVar, run_isAgg hag, run_sizeOf hsz, this]
theorem run_loadVar_1 {t : TypeId} {b q : Nat} {c : Value} (hag : agT P t = some false) (hc : w.cell? ⟨b, q, none⟩ = some c) : (loadVar t ⟨b, q, none⟩).run P w = .ok c w := by
  simp [loadVar, run_isAgg hag, hc]
theorem run_load_at {t : TypeId} {x : Operand} {b q n : Nat} {ag : Bool} {f : Nat → Value} (ho : o.op = .load t x) (hx : a.eval x = .pointer (some ⟨b, q, none⟩)) (hag : agT P t = some ag) (hsz : szOf P t = some n) (h1 : ag || n == 1)
    (hc : ∀ j, j < n → w.cell? ⟨b, q + j, none⟩ = some (f j)) : (execOp a.eval o).run P w = .ok (.value (if ag then .agg ((List.range n).map f).toArray else ((List.range n).map f).headD undef)) w := by
  simp only [execOp, ho, hx, Instr.loadAt, Instr.sureAddr]
  cases ag with
  | true => simp [run_loadVar_ag hag hsz hc]
  | false =>
    have : n = 1 := by simpa using h1
    subst this
    have := hc 0 (by omega)
    simp only [Nat.add_zero] at this
    simp [run_loadVar_1 hag this]
theorem leafAts_ok {s : Src} {t : TypeId} {as : List At} (h : leafAts P s t = some as) : ∀ at1 ∈ as, at1 = .v s ∨ at1 = .v .fz := by
  have go : ∀ (l : List TypeId) (as : List At), l.mapM (leafAt P s) = some as → ∀ at1 ∈ as, at1 = .v s ∨ at1 = .v .fz := by
    intro l
    induction l with
    | nil => intro as h; simp only [List.mapM_nil] at h; cases h; simp
    | cons x r ih =>
      intro as h
      simp only [List.mapM_cons, Option.bind_eq_bind, Option.bind_eq_some_iff, Option.pure_def, Option.some.injEq] at h
      obtain ⟨y, hy, l', hl, rfl⟩ := h
      intro a1 ha
      rcases List.mem_cons.1 ha with rfl | ha
      · unfold leafAt at hy
        split at hy <;> first | (cases hy; exact .inr rfl) | (cases hy; exact .inl rfl) | (cases hy; done)
      · exact ih l' hl a1 ha
  simp only [leafAts, Option.bind_eq_some_iff] at h
  obtain ⟨l, _, h⟩ := h
  exact go l as h
theorem Rd.scalar {S S' : Nat → Prop} {w' : World} {x : V} {c : Value} (h : Rd P S w x c) (hs : scalarV x = true) : Rd P S' w' x c := by
  cases h <;> first | (simp [scalarV] at hs; done) | constructor
theorem maskOk_get : ∀ {m : List Bool} {zs : List V}, maskOk m zs = true → ∀ (i : Nat), m[i]? = some true → ∀ (z : V), zs[i]? = some z → scalarV z = true
  | [], zs, h, i, hi, z, hz => by simp at hi
  | b :: m, [], h, i, hi, z, hz => by simp at hz
  | b :: m, y :: zs, h, i, hi, z, hz => by
    cases i with
    | zero =>
      simp only [List.getElem?_cons_zero, Option.some.injEq] at hi hz
      subst hi; subst hz
      simp only [maskOk, Bool.and_eq_true] at h
      exact h.1
    | succ i =>
      simp only [List.getElem?_cons_succ] at hi hz
      have h' : maskOk m zs = true := by cases b <;> simp [maskOk] at h <;> simp [h]
      exact maskOk_get h' i hi z hz
/-- a part of an element: values and cells -/
theorem vsub_el {S : Nat → Prop} {b p j n : Nat} {ag : Bool} {x : V} {zs : List V} (h : vsub j n ag x = some zs) (hel : ElAt P S w b p x) : zs.length = n ∧ ∃ f : Nat → Value, (∀ i, i < n → w.cell? ⟨b, p + j + i, none⟩ = some (f i)) ∧ ∀ i (hi : i < zs.length), Rd P S w zs[i] (f i) := by
  unfold vsub at h
  split at h
  · rename_i ys
    split at h
    · rename_i hl
      cases h
      rcases hel with ⟨ys', hy, H⟩ | ⟨h1, _⟩
      · injection hy with hy; subst hy
        refine ⟨by simp; omega, fun i => (w.cell? ⟨b, p + j + i, none⟩).getD undef, fun i hi => ?_, fun i hi => ?_⟩
        · obtain ⟨c, hc, _⟩ := H (j + i) (by omega)
          rw [← Nat.add_assoc] at hc
          simp [hc]
        · simp only [List.length_take, List.length_drop] at hi
          obtain ⟨c, hc, hr⟩ := H (j + i) (by omega)
          rw [← Nat.add_assoc] at hc
          simpa [hc] using hr
      · exact absurd rfl (h1 ys)
    · cases h
  · cases h
  · rename_i hna _
    split at h
    · rename_i hj
      obtain ⟨rfl, rfl, _⟩ := hj
      cases h
      rcases hel with ⟨ys', hy, H⟩ | ⟨_, c, hc, hr⟩
      · exact absurd hy (hna ys')
      · refine ⟨rfl, fun _ => c, fun i hi => ?_, fun i hi => ?_⟩
        · have : i = 0 := by omega
          subst this; exact hc
        · have : i = 0 := by simpa using hi
          subst this; exact hr
    · cases h
theorem mkSh_val {ag : Bool} {as : List At} {h : Sh} {xs : List V} {n : Nat} {f : Nat → Value} (hm : mkSh ag as = some h) (hn : as.length = n) (hx : xs.length = n) (H : ∀ i (h0 : i < as.length) (h1 : i < xs.length), RA P L w as[i] xs[i] (f i)) :
    RSl P L w h xs (if ag then .agg ((List.range n).map f).toArray else ((List.range n).map f).headD undef) :=
  mkSh_ok hm ⟨by simp [hn], by omega, fun i h0 h1 h2 => by simpa using H i h0 h1⟩
theorem sub_agg (ag : Bool) {x : V} {j n : Nat} {zs : List V} (h : vsub j n ag x = some zs) : True := trivial
theorem copLoad_ok (R : Rel P w0 M N α ν L a w) (hd : N.W d) {x : Operand} {t : TypeId} (ho : o.op = .load t x) (hod : o.dst = some d) (h : RM.out α (copLoad P d t x) E) (hv : runIs Φ E.vis ν = some ν') :
    OpR P o a w (Goal P w0 M N (E.ap α (some d)) ν') := by
  simp only [copLoad, out_bind, out_opt] at h
  obtain ⟨s, h1, n, hsz, ag, hag, h⟩ := h
  have H := opd_ok R h1
  split at h
  · rename_i u off i hs hg
    simp only [out_bx, out_bind, out_opt, out_need, out_ok, Bool.and_eq_true, decide_eq_true_eq] at h
    obtain ⟨bx, hbx, _, ⟨hle, h11⟩, hh, hm, rfl⟩ := h
    rw [hs, hg] at H
    obtain ⟨y, hy, hr⟩ := RAs.single H
    obtain ⟨hk, _, xs, hx, rfl⟩ := viG1 (run_ins1 hv)
    have hun := unit_chk hk (List.mem_singleton.2 rfl) hy rfl
    subst hun
    rcases hr with hr | ⟨_, b, ro, hb, hc⟩
    · cases hr
    obtain ⟨C, ty, fz, hhp, _, hra⟩ := ((R.boxes u b ro hb bx hbx).2).cells
    have hxs : xs = ((ν (bC u)).drop off).take n := by
      rcases hx.range with ⟨h, _⟩ | ⟨h0, rfl⟩
      · exact h
      · rw [h0]; simp
    subst hxs
    have hsub := hra.sub off n hle
    have hcl : bx.as.length = C.size := by simpa using hra.1
    have hcell : ∀ j, j < n → w.cell? ⟨b, off + j, none⟩ = some (C.getD (off + j) undef) := by
      intro j hj
      have : off + j < C.size := by omega
      simp [World.cell?, hhp, this]
    refine OpR.value (run_load_at ho hc hag hsz h11 hcell) ?_
    rw [hod]
    refine Goal.plain R hd rfl rfl rfl (mkSh_val hm (by simp; omega) (by simp [hra.2.1]; omega) (fun i h0 h1' => ?_))
    simp only [List.length_take, List.length_drop] at h0 h1'
    have := hsub.2.2 i (by simp; omega) (by simp; omega) (by simp; omega)
    have hlt : off + i < C.size := by omega
    simpa [hlt] using this
  · rename_i k j i hs hg
    simp only [out_bind, out_opt, out_need, out_ok, Bool.and_eq_true, beq_iff_eq] at h
    obtain ⟨as, has, _, ⟨hlen, h11⟩, hh, hm, rfl⟩ := h
    rw [hs, hg] at H
    obtain ⟨y, hy, hr⟩ := RAs.single H
    obtain ⟨_, _, z, hz, rfl⟩ := VI.inv1 (run_ins1 hv)
    simp only [List.map_cons, List.map_nil, get_c] at hz
    rw [get_c] at hy
    rw [hy] at hz
    rcases hr with rfl | ⟨r, m, b, q, nn, cap, sz, hrow, rfl, hval, hsze, hlt, hc⟩
    · cases hz
    obtain ⟨xs, hxs, Hr⟩ := R.rows k r hrow
    rw [hxs] at hz
    rw [VF.sem] at hz
    split at hz
    · simp only [Option.bind_eq_some_iff, Option.map_eq_some_iff] at hz
      obtain ⟨el, hel, zs, hzs, hz⟩ := hz
      cases hz
      rcases Hr with ⟨h3, _⟩ | ⟨b', o', cap', sz', ag', C, fz, HR⟩
      · rw [h3] at hval; cases hval
      · rw [HR.hv] at hval
        cases hval
        have : sz' = sz := by have := HR.rd.hz; rw [hsze] at this; exact (Option.some.inj this).symm
        subst this
        have hlt2 : m < xs.length := hlt
        have hel2 : xs[m] = el := by simpa [List.getElem?_eq_getElem hlt2] using hel
        have hE := HR.rd.hx m hlt2
        rw [hel2] at hE
        have hat : ElAt P L.F w b (q + m * sz') el := el_of hE (fun jj hjj => by
          have h5 : q + (m * sz' + jj) < C.size := by
            have h6 := HR.hs
            have h7 := idx_lt (n := xs.length) hlt2 hjj
            have h8 : xs.length * sz' ≤ cap * sz' := Nat.mul_le_mul_right _ HR.hc
            omega
          rw [Nat.add_assoc]
          simp [World.cell?, HR.hh, h5]) HR.rd.ha
        obtain ⟨hzl, f, hf, hrd⟩ := vsub_el hzs hat
        refine OpR.value (run_load_at ho hc hag hsz (by simpa using h11) (f := f) hf) ?_
        rw [hod]
        refine Goal.plain R hd rfl rfl rfl (mkSh_val hm hlen hzl (fun i h0 h1' => ?_))
        have := leafAts_ok has as[i] (List.getElem_mem h0)
        have e : as[i] = .v .fz := by rcases this with h | h <;> exact h
        rw [e]
        exact .inr (hrd i h1')
    · cases hz
  · rename_i s1 j i hs hg
    simp only [out_bind, out_opt, out_need, out_ok, Bool.and_eq_true, beq_iff_eq] at h
    obtain ⟨as, has, _, ⟨hlen, h11⟩, hh, hm, rfl⟩ := h
    rw [hs, hg] at H
    obtain ⟨y, hy, hr⟩ := RAs.single H
    obtain ⟨_, _, z, hz, rfl⟩ := VI.inv1 (run_ins1 hv)
    simp only [List.map_cons, List.map_nil, get_c] at hz
    rw [get_c] at hy
    rw [hy] at hz
    rw [VF.sem] at hz
    simp only [Option.bind_eq_some_iff] at hz
    obtain ⟨zs, hzs, hz⟩ := hz
    by_cases hmask : maskOk (if s1 = Src.fz then [] else as.map (· == At.v Src.fz)) zs = true
    · rw [if_pos hmask] at hz
      cases hz
      rcases hr with rfl | ⟨b, q, hb, hel, hc⟩
      · cases hzs
      · obtain ⟨hzl, f, hf, hrd⟩ := vsub_el hzs hel
        refine OpR.value (run_load_at ho hc hag hsz (by simpa using h11) (f := f) hf) ?_
        rw [hod]
        refine Goal.plain R hd rfl rfl rfl (mkSh_val hm hlen hzl (fun i h0 h1' => ?_))
        rcases leafAts_ok has as[i] (List.getElem_mem h0) with e | e
        · rw [e]; exact .inr (hrd i h1')
        · rw [e]
          by_cases hs1 : s1 = .fz
          · subst hs1; exact .inr (hrd i h1')
          · rw [if_neg hs1] at hmask
            refine .inr ((hrd i h1').scalar (maskOk_get hmask i ?_ _ (List.getElem?_eq_getElem h1')))
            simp [List.getElem?_eq_getElem h0, e]
    · rw [if_neg hmask] at hz
      cases hz
  · rw [out_no] at h; exact h.elim
end
end Go.Proofs.YtlhcgiegganbpaaDoorVs
set_option linter.unusedVariables false
set_option linter.unusedSimpArgs false
namespace Go.Proofs.YtlhcgiegganbpaaDoorVs

structure WStep (w w' : World) (ex : Nat → Prop) : Prop where
  os : w'.os = w.os
  tape : w'.tape = w.tape
  output : w'.output = w.output
  size : w.heap.size ≤ w'.heap.size
  block : ∀ b, b < w.heap.size → ¬ ex b → w'.heap[b]? = w.heap[b]?
theorem WStep.refl (w : World) (ex : Nat → Prop) : WStep w w ex := ⟨rfl, rfl, rfl, Nat.le_refl _, fun _ _ _ => rfl⟩
theorem WStep.mono {w w' : World} {ex ex' : Nat → Prop} (h : WStep w w' ex) (he : ∀ b, ex b → ex' b) : WStep w w' ex' := ⟨h.os, h.tape, h.output, h.size, fun b hb hn => h.block b hb (fun e => hn (he b e))⟩
theorem WStep.alloc (w : World) (o : Obj) (ex : Nat → Prop) : WStep w (w.alloc o) ex := ⟨rfl, rfl, rfl, by simp, fun b hb _ => heap_alloc_old w o b hb⟩
theorem WStep.drew (w : World) (ex : Nat → Prop) : WStep w w.drew ex := ⟨rfl, rfl, rfl, Nat.le_refl _, fun _ _ _ => rfl⟩
theorem WStep.trans {w w' w'' : World} {ex : Nat → Prop} (h : WStep w w' ex) (h' : WStep w' w'' ex) : WStep w w'' ex :=
  ⟨h'.os.trans h.os, h'.tape.trans h.tape, h'.output.trans h.output, Nat.le_trans h.size h'.size, fun b hb hn => (h'.block b (Nat.lt_of_lt_of_le hb h.size) hn).trans (h.block b hb hn)⟩
theorem WStep.setRow (w : World) (g : Nat) (cs : Array Value) (ex : Nat → Prop) (h : ex g) : WStep w (w.setRow g cs) ex :=
  ⟨rfl, rfl, rfl, by simp, fun b hb hn => setRow_other w g b cs (fun e => hn (e ▸ h))⟩
theorem Keep.step {w0 w w' : World} {M ex : Nat → Prop} (h : Keep w0 M w) (hw : WStep w w' ex) (he : ∀ b, ex b → b < w.heap.size → mine w0 M b) : Keep w0 M w' where
  os := hw.os.trans h.os
  tape := hw.tape.trans h.tape
  output := hw.output.trans h.output
  size := Nat.le_trans h.size hw.size
  block b hb hn := by
    refine (hw.block b (Nat.lt_of_lt_of_le hb h.size) (fun e => ?_)).trans (h.block b hb hn)
    rcases he b e (Nat.lt_of_lt_of_le hb h.size) with h1 | h1
    · omega
    · exact hn h1

/-- the blocks of some rows -/
def Lay.blks (L : Lay) (ts : List Nat) (b : Nat) : Prop := ∃ t, t ∈ ts ∧ ∃ r, L.row t = some r ∧ r.blk = some b
def Lay.withRow (L : Lay) (k : Nat) (r' : Row) (gn cons : List Nat) : Lay where
  row := fun t => if t = k then some r' else if t ∈ gn ∨ t ∈ cons then none else L.row t
  box := L.box
  F := fun b => L.F b ∨ L.blks cons b
  S := fun b => L.S b ∨ L.blks cons b
section
variable {P : Program} {w0 : World} {M : Nat → Prop} {N : Fr} {α : Al} {ν ν' : Env} {L : Lay} {a : Act} {w w' : World} {Φ : Funs} {o : Oper} {d : Nat} {E : Eff}
theorem Lay.withRow_row {k : Nat} {r' : Row} {gn cons : List Nat} {t : Nat} {r : Row} (h : (L.withRow k r' gn cons).row t = some r) : (t = k ∧ r = r') ∨ (t ≠ k ∧ t ∉ gn ∧ t ∉ cons ∧ L.row t = some r) := by
  simp only [Lay.withRow] at h
  by_cases h1 : t = k
  · rw [if_pos h1] at h; exact .inl ⟨h1, (Option.some.inj h).symm⟩
  · rw [if_neg h1] at h
    by_cases h2 : t ∈ gn ∨ t ∈ cons
    · rw [if_pos h2] at h; cases h
    · rw [if_neg h2] at h; exact .inr ⟨h1, fun e => h2 (.inl e), fun e => h2 (.inr e), h⟩
theorem Rel.rowStep (R : Rel P w0 M N α ν L a w) (k : Nat) (r' : Row) (x' : List V) (gn cons st ks : List Nat) (hgn : k ∈ gn) (hw : WStep w w' (L.blks gn))
    (hks : ∀ t, t ∈ gn ∨ t ∈ cons → tkK t ∈ ks ∨ (t = k ∧ k ∈ st ∧ L.row k = some r')) (hdis : ∀ t, t ∈ cons → t ∉ gn)
    (hr : RowOK P (L.withRow k r' gn cons).F w' r' x') (hb : ∀ b, r'.blk = some b → b < w'.heap.size ∧ (w.heap.size ≤ b ∨ L.blks gn b)) :
    Rel P w0 M N (α.sk st ks) (ν.upd (tC k) x') (L.withRow k r' gn cons) a w' := by
  have hnS : ∀ b, L.blks gn b → ¬ L.S b := fun b ⟨t, _, r, h1, h2⟩ => (R.rowmine t r b h1 h2).2.2
  have hltS : ∀ b, L.blks gn b → b < w.heap.size := fun b ⟨t, _, r, h1, h2⟩ => (R.rowmine t r b h1 h2).2.1
  have hheapS : ∀ b, L.S b → w'.heap[b]? = w.heap[b]? := fun b h => hw.block b (R.sl b h) (fun e => hnS b e h)
  have hother : ∀ t r b, t ∉ gn → L.row t = some r → r.blk = some b → w'.heap[b]? = w.heap[b]? := by
    intro t r b ht h1 h2
    refine hw.block b (R.rowmine t r b h1 h2).2.1 ?_
    rintro ⟨t', ht', r2, h3, h4⟩
    exact ht (R.rr t t' r r2 b h1 h3 h2 h4 ▸ ht')
  have hcons : ∀ b, L.blks cons b → b < w.heap.size ∧ ¬ L.S b ∧ w'.heap[b]? = w.heap[b]? := by
    rintro b ⟨t, ht, r, h1, h2⟩
    exact ⟨(R.rowmine t r b h1 h2).2.1, (R.rowmine t r b h1 h2).2.2, hother t r b (hdis t ht) h1 h2⟩
  have E : Ext L (L.withRow k r' gn cons) w w' ks st := by
    refine ⟨fun b h => .inl h, fun b h => .inl h, R.fs, hheapS, fun t r h1 h2 => ?_, fun t r b h1 h2 h3 h4 => ?_, fun u b ro _ h => h⟩
    · simp only [Lay.withRow]
      by_cases h3 : t = k
      · subst h3
        rw [if_pos rfl]
        rcases hks t (.inl hgn) with h | ⟨_, _, h⟩
        · exact absurd h h1
        · rw [h] at h2; exact h2
      · rw [if_neg h3]
        by_cases h4 : t ∈ gn ∨ t ∈ cons
        · rcases hks t h4 with h | ⟨h, _⟩
          · exact absurd h h1
          · exact absurd h h3
        · rw [if_neg h4]; exact h2
    · refine hother t r b (fun hg => ?_) h3 h4
      rcases hks t (.inl hg) with h | ⟨h, h', _⟩
      · exact h1 h
      · subst h; exact h2 h'
  refine ⟨R.nt, ⟨R.nd.nd, fun b h => .inl (R.nd.lo b h), fun b h => h.elim (R.nd.hi b) (fun ⟨t, _, r, h1, h2⟩ => .inr (R.rowmine t r b h1 h2).1)⟩, R.kp.step hw (fun b ⟨t, _, r, h1, h2⟩ _ => (R.rowmine t r b h1 h2).1), ?_, ?_, ?_, ?_, ?_, ?_, ?_, ?_, ?_, ?_, ?_⟩
  · rintro b (h | h)
    · exact .inl (R.fs b h)
    · exact .inr h
  · rintro b (h | h)
    · exact Nat.lt_of_lt_of_le (R.sl b h) hw.size
    · exact Nat.lt_of_lt_of_le (hcons b h).1 hw.size
  · intro s
    rw [Al.sk, slot_map _ (sk_dead st ks), upd_ne (by simp only [sC, tC]; omega)]
    exact (R.slots s).ext E
  · intro t r h
    rcases Lay.withRow_row h with ⟨rfl, rfl⟩ | ⟨h1, h2, h3, h4⟩
    · rw [upd_same]; exact hr
    · rw [upd_ne (by simp only [tC]; omega)]
      exact (R.rows t r h4).ext (fun b h => .inl h) (fun b h => hheapS b (R.fs b h)) (fun b hb => hother t r b h2 h4 hb)
  · intro u b ro hu x hx
    rw [Al.sk, box_map] at hx
    simp only [Option.map_eq_some_iff] at hx
    obtain ⟨y, hy, rfl⟩ := hx
    obtain ⟨h1, h2⟩ := R.boxes u b ro hu y hy
    refine ⟨h1, ?_⟩
    rw [upd_ne (by simp only [bC, tC]; omega)]
    refine h2.ext E ?_
    cases ro with
    | true => exact hheapS b (R.boxro u b hu)
    | false =>
      refine hw.block b (R.boxmine u b hu).2.1 ?_
      rintro ⟨t, _, r, h3, h4⟩
      exact R.rb t r u b false h3 h4 hu
  · intro t r b h hbk
    rcases Lay.withRow_row h with ⟨rfl, rfl⟩ | ⟨h1, h2, h3, h4⟩
    · obtain ⟨h5, h6⟩ := hb b hbk
      refine ⟨?_, h5, ?_⟩
      · rcases h6 with h6 | ⟨t', _, r2, h7, h8⟩
        · exact .inl (Nat.le_trans R.kp.size h6)
        · exact (R.rowmine t' r2 b h7 h8).1
      · rintro (hs | hs)
        · rcases h6 with h6 | h6
          · exact absurd (R.sl b hs) (by omega)
          · exact hnS b h6 hs
        · obtain ⟨h7, _, _⟩ := hcons b hs
          rcases h6 with h6 | ⟨t', ht', r2, h8, h9⟩
          · omega
          · obtain ⟨t2, ht2, r3, h10, h11⟩ := hs
            exact hdis t2 ht2 (R.rr t' t2 r2 r3 b h8 h10 h9 h11 ▸ ht')
    · obtain ⟨h5, h6, h7⟩ := R.rowmine t r b h4 hbk
      refine ⟨h5, Nat.lt_of_lt_of_le h6 hw.size, ?_⟩
      rintro (hs | ⟨t2, ht2, r3, h10, h11⟩)
      · exact h7 hs
      · exact h3 (R.rr t2 t r3 r b h10 h4 h11 hbk ▸ ht2)
  · intro u b hu
    obtain ⟨h5, h6, h7⟩ := R.boxmine u b hu
    refine ⟨h5, Nat.lt_of_lt_of_le h6 hw.size, ?_⟩
    rintro (hs | ⟨t2, ht2, r3, h10, h11⟩)
    · exact h7 hs
    · exact R.rb t2 r3 u b false h10 h11 hu
  · intro u b hu
    exact .inl (R.boxro u b hu)
  · intro t t' r r2 b h h' hbk hbk'
    rcases Lay.withRow_row h with ⟨rfl, rfl⟩ | ⟨h1, h2, h3, h4⟩ <;> rcases Lay.withRow_row h' with ⟨rfl, rfl⟩ | ⟨h1', h2', h3', h4'⟩
    · rfl
    · exfalso
      rcases (hb b hbk).2 with h6 | ⟨t2, ht2, r3, h10, h11⟩
      · have := (R.rowmine t' r2 b h4' hbk').2.1; omega
      · exact h2' (R.rr t2 t' r3 r2 b h10 h4' h11 hbk' ▸ ht2)
    · exfalso
      rcases (hb b hbk').2 with h6 | ⟨t2, ht2, r3, h10, h11⟩
      · have := (R.rowmine t r b h4 hbk).2.1; omega
      · exact h2 (R.rr t2 t r3 r b h10 h4 h11 hbk ▸ ht2)
    · exact R.rr t t' r r2 b h4 h4' hbk hbk'
  · intro t r u b ro h hbk hu
    rcases Lay.withRow_row h with ⟨rfl, rfl⟩ | ⟨h1, h2, h3, h4⟩
    · rcases (hb b hbk).2 with h6 | ⟨t2, ht2, r3, h10, h11⟩
      · cases ro with
        | true => have := R.sl b (R.boxro u b hu); omega
        | false => have := (R.boxmine u b hu).2.1; omega
      · exact R.rb t2 r3 u b ro h10 h11 hu
    · exact R.rb t r u b ro h4 hbk hu
  · exact R.bb

/-! #### a variable in memory -/
def Lay.withBox (L : Lay) (u b : Nat) : Lay := { L with box := fun v => if v = u then some (b, false) else L.box v }
theorem Rel.boxExt (R : Rel P w0 M N α ν L a w) (u b : Nat) (ks : List Nat) (hw : WStep w w' (fun g => g = b)) (hb : (w.heap.size ≤ b ∧ b < w'.heap.size ∧ bxK u ∈ ks) ∨ L.box u = some (b, false)) : Ext L (L.withBox u b) w w' ks [] := by
  have hnS : ¬ L.S b := by
    rcases hb with ⟨h1, _⟩ | h
    · intro h; have := R.sl b h; omega
    · exact (R.boxmine u b h).2.2
  have hheapS : ∀ g, L.S g → w'.heap[g]? = w.heap[g]? := fun g h => hw.block g (R.sl g h) (fun e => hnS (e ▸ h))
  have hrowb : ∀ t r g, L.row t = some r → r.blk = some g → g ≠ b := by
    intro t r g h1 h2 e
    subst e
    rcases hb with ⟨h3, _⟩ | h3
    · have := (R.rowmine t r g h1 h2).2.1; omega
    · exact R.rb t r u g false h1 h2 h3
  refine ⟨fun _ h => h, fun _ h => h, R.fs, hheapS, fun t r _ h => h, fun t r g _ _ h1 h2 => hw.block g (R.rowmine t r g h1 h2).2.1 (hrowb t r g h1 h2), fun v g ro h1 h2 => ?_⟩
  simp only [Lay.withBox]
  by_cases h3 : v = u
  · subst h3
    rw [if_pos rfl]
    rcases hb with ⟨_, _, h⟩ | h
    · exact absurd h h1
    · rw [h2] at h; cases h; rfl
  · rw [if_neg h3]; exact h2
theorem Rel.boxStep (R : Rel P w0 M N α ν L a w) (u b : Nat) (as' : List At) (xs' : List V) (ks : List Nat) (hw : WStep w w' (fun g => g = b))
    (hb : (w.heap.size ≤ b ∧ b < w'.heap.size ∧ bxK u ∈ ks) ∨ L.box u = some (b, false)) (hok : BoxOK P (L.withBox u b) w' b as' xs') :
    Rel P w0 M N ((α.sk [] ks).setB u ⟨false, as'⟩) (ν.upd (bC u) xs') (L.withBox u b) a w' := by
  have hnS : ¬ L.S b := by
    rcases hb with ⟨h1, _⟩ | h
    · intro h; have := R.sl b h; omega
    · exact (R.boxmine u b h).2.2
  have hheapS : ∀ g, L.S g → w'.heap[g]? = w.heap[g]? := fun g h => hw.block g (R.sl g h) (fun e => hnS (e ▸ h))
  have hrowb : ∀ t r g, L.row t = some r → r.blk = some g → g ≠ b := by
    intro t r g h1 h2 e
    subst e
    rcases hb with ⟨h3, _⟩ | h3
    · have := (R.rowmine t r g h1 h2).2.1; omega
    · exact R.rb t r u g false h1 h2 h3
  have hboxb : ∀ v g ro, v ≠ u → L.box v = some (g, ro) → g ≠ b := by
    intro v g ro hv h1 e
    subst e
    rcases hb with ⟨h3, _⟩ | h3
    · cases ro with
      | true => have := R.sl g (R.boxro v g h1); omega
      | false => have := (R.boxmine v g h1).2.1; omega
    · exact hv (R.bb u v g ro h3 h1).symm
  have hbx : ∀ v g ro, (L.withBox u b).box v = some (g, ro) → (v = u ∧ g = b ∧ ro = false) ∨ (v ≠ u ∧ L.box v = some (g, ro)) := by
    intro v g ro h
    simp only [Lay.withBox] at h
    by_cases h1 : v = u
    · rw [if_pos h1] at h; cases h; exact .inl ⟨h1, rfl, rfl⟩
    · rw [if_neg h1] at h; exact .inr ⟨h1, h⟩
  have E : Ext L (L.withBox u b) w w' ks [] := by
    refine ⟨fun _ h => h, fun _ h => h, R.fs, hheapS, fun t r _ h => h, fun t r g _ _ h1 h2 => hw.block g (R.rowmine t r g h1 h2).2.1 (hrowb t r g h1 h2), fun v g ro h1 h2 => ?_⟩
    simp only [Lay.withBox]
    by_cases h3 : v = u
    · subst h3
      rw [if_pos rfl]
      rcases hb with ⟨_, _, h⟩ | h
      · exact absurd h h1
      · rw [h2] at h; cases h; rfl
    · rw [if_neg h3]; exact h2
  have hmineb : mine w0 M b ∧ b < w'.heap.size := by
    rcases hb with ⟨h1, h2, _⟩ | h
    · exact ⟨.inl (Nat.le_trans R.kp.size h1), h2⟩
    · exact ⟨(R.boxmine u b h).1, Nat.lt_of_lt_of_le (R.boxmine u b h).2.1 hw.size⟩
  refine ⟨R.nt, R.nd, R.kp.step hw (fun g e _ => e ▸ hmineb.1), R.fs, fun g h => Nat.lt_of_lt_of_le (R.sl g h) hw.size, ?_, ?_, ?_, ?_, ?_, ?_, R.rr, ?_, ?_⟩
  · intro s
    rw [slot_setB, Al.sk, slot_map _ (sk_dead [] ks), upd_ne (by simp only [sC, bC]; omega)]
    exact (R.slots s).ext E
  · intro t r h
    rw [upd_ne (by simp only [tC, bC]; omega)]
    exact (R.rows t r h).ext (fun _ h => h) (fun g h => hheapS g (R.fs g h)) (fun g hg => hw.block g (R.rowmine t r g h hg).2.1 (hrowb t r g h hg))
  · intro v g ro hv x hx
    rw [box_setB] at hx
    rcases hbx v g ro hv with ⟨rfl, rfl, rfl⟩ | ⟨h1, h2⟩
    · rw [if_pos rfl] at hx
      cases hx
      rw [upd_same]
      exact ⟨rfl, hok⟩
    · rw [if_neg h1, Al.sk, box_map] at hx
      simp only [Option.map_eq_some_iff] at hx
      obtain ⟨y, hy, rfl⟩ := hx
      obtain ⟨h3, h4⟩ := R.boxes v g ro h2 y hy
      refine ⟨h3, ?_⟩
      rw [upd_ne (by simp only [bC]; omega)]
      refine h4.ext E ?_
      cases ro with
      | true => exact hheapS g (R.boxro v g h2)
      | false => exact hw.block g (R.boxmine v g h2).2.1 (hboxb v g false h1 h2)
  · intro t r g h hg
    obtain ⟨h1, h2, h3⟩ := R.rowmine t r g h hg
    exact ⟨h1, Nat.lt_of_lt_of_le h2 hw.size, h3⟩
  · intro v g hv
    rcases hbx v g false hv with ⟨rfl, rfl, _⟩ | ⟨h1, h2⟩
    · exact ⟨hmineb.1, hmineb.2, hnS⟩
    · obtain ⟨h3, h4, h5⟩ := R.boxmine v g h2
      exact ⟨h3, Nat.lt_of_lt_of_le h4 hw.size, h5⟩
  · intro v g hv
    rcases hbx v g true hv with ⟨_, _, h⟩ | ⟨h1, h2⟩
    · cases h
    · exact R.boxro v g h2
  · intro t r v g ro h hg hv
    rcases hbx v g ro hv with ⟨rfl, rfl, rfl⟩ | ⟨h1, h2⟩
    · exact hrowb t r g h hg rfl
    · exact R.rb t r v g ro h hg h2
  · intro v v' g ro hv hv'
    rcases hbx v g false hv with ⟨rfl, rfl, _⟩ | ⟨h1, h2⟩ <;> rcases hbx v' g ro hv' with ⟨rfl, h3, _⟩ | ⟨h1', h2'⟩
    · rfl
    · exact absurd rfl (hboxb v' g ro h1' h2')
    · exact absurd h3 (hboxb v g false h1 h2)
    · exact R.bb v v' g ro h2 h2'
end
end Go.Proofs.YtlhcgiegganbpaaDoorVs
set_option linter.unusedVariables false
set_option linter.unusedSimpArgs false
namespace Go.Proofs.YtlhcgiegganbpaaDoorVs
section
variable {P : Program} {w0 : World} {M : Nat → Prop} {N : Fr} {α : Al} {ν ν' : Env} {L : Lay} {a : Act} {w w' : World} {Φ : Funs} {o : Oper} {d : Nat} {E : Eff}

theorem upds_append (ν : Env) : ∀ (cs : List Nat) (xs : List (List V)) (cs' : List Nat) (xs' : List (List V)), cs.length = xs.length → ν.upds (cs ++ cs') (xs ++ xs') = (ν.upds cs xs).upds cs' xs'
  | [], [], cs', xs', _ => rfl
  | c :: cs, x :: xs, cs', xs', h => by
    simp only [List.cons_append, Env.upds]
    exact upds_append _ cs xs cs' xs' (by simpa using h)
theorem sk_sk (k1 k2 : List Nat) (α : Al) : (α.sk [] k1).sk [] k2 = α.sk [] (k1 ++ k2) := by
  simp only [Al.sk, map_map]
  congr 1
  funext x
  have h0 : ∀ y : At, y.stale [] = y := fun y => by cases y <;> first | rfl | (rename_i s; cases s <;> rfl) | (rename_i s j; cases s <;> rfl)
  simp only [At.sk, h0]
  exact kill_append k1 k2 x
theorem nil_row (F : Nat → Prop) (e : TypeId) : RowOK P F w ⟨.slice none 0 0, e⟩ [.list e []] := ⟨[], rfl, .inl ⟨rfl, rfl⟩⟩
/-- empty rows get their names -/
theorem nilRows : ∀ (ts : List (Nat × TypeId)) {α : Al} {ν : Env} {L : Lay}, Rel P w0 M N α ν L a w →
    ∃ L1, Rel P w0 M N (α.sk [] (ts.map fun p => tkK p.1)) (ν.upds (ts.map fun p => tC p.1) (ts.map fun p => [.list p.2 []])) L1 a w ∧ L1.box = L.box ∧ (∀ b, L1.F b ↔ L.F b) ∧ (∀ b, L1.S b ↔ L.S b) ∧
      (∀ t, t ∉ ts.map (·.1) → L1.row t = L.row t) ∧ (∀ t, t ∈ ts.map (·.1) → ∃ e, L1.row t = some ⟨.slice none 0 0, e⟩)
  | [], α, ν, L, R => ⟨L, by simpa [Al.sk_nil, Env.upds] using R, rfl, fun _ => Iff.rfl, fun _ => Iff.rfl, fun _ _ => rfl, fun t h => by simp at h⟩
  | (k, e) :: ts, α, ν, L, R => by
    have hb : ∀ b, ¬ L.blks ([] : List Nat) b := fun b ⟨t, h, _⟩ => by simp at h
    have hks : ∀ t, t ∈ [k] ∨ t ∈ ([] : List Nat) → tkK t ∈ [tkK k] ∨ (t = k ∧ k ∈ ([] : List Nat) ∧ L.row k = some ⟨.slice none 0 0, e⟩) := by
      intro t h
      have : t = k := by simpa using h
      subst this
      exact .inl (by simp)
    have R1 := R.rowStep k ⟨.slice none 0 0, e⟩ [.list e []] [k] [] [] [tkK k] (by simp) (WStep.refl w _) hks (by simp) (nil_row _ e) (fun b h => by simp [Row.blk, Value.ownBlock] at h)
    obtain ⟨L1, R2, h1, h2, h3, h4, h5⟩ := nilRows ts R1
    refine ⟨L1, ?_, h1, fun b => (h2 b).trans ?_, fun b => (h3 b).trans ?_, fun t ht => ?_, fun t ht => ?_⟩
    · rw [sk_sk] at R2
      exact R2
    · simp [Lay.withRow, hb b]
    · simp [Lay.withRow, hb b]
    · simp only [List.map_cons, List.mem_cons, not_or] at ht
      rw [h4 t ht.2]
      simp [Lay.withRow, ht.1]
    · by_cases hm : t ∈ ts.map (·.1)
      · exact h5 t hm
      · simp only [List.map_cons, List.mem_cons] at ht
        rcases ht with rfl | ht
        · exact ⟨e, by rw [h4 _ hm]; simp [Lay.withRow]⟩
        · exact absurd ht hm
theorem nil_ext {L L1 : Lay} {ks : List Nat} (hfs : ∀ b, L.F b → L.S b) (h1 : L1.box = L.box) (h2 : ∀ b, L1.F b ↔ L.F b) (h3 : ∀ b, L1.S b ↔ L.S b) (h4 : ∀ t, tkK t ∉ ks → L1.row t = L.row t) : Ext L L1 w w ks [] :=
  ⟨fun b h => (h2 b).2 h, fun b h => (h3 b).2 h, hfs, fun _ _ => rfl, fun t r h h' => by rw [h4 t h]; exact h', fun _ _ _ _ _ _ _ => rfl, fun u b ro _ h => by rw [h1]; exact h⟩
theorem tkK_inj {s t : Nat} (h : tkK s = tkK t) : s = t := by simp only [tkK] at h; omega
/-- what the pieces say of some cells -/
def RPcs (P : Program) (L : Lay) (w : World) (ν : Env) (l : List APc) (cs : List Value) : Prop :=
  l.length = cs.length ∧ ∀ i (h : i < l.length) (h' : i < cs.length) x, pcGet ν l[i].2 = some x → x ≠ .undef → RA P L w l[i].1 x cs[i]
theorem ownTl_mem (base : Nat) : ∀ (l : List APc) (j : Nat) (p : Nat × Pc), p ∈ ownTl base j l ↔ ∃ i, ∃ h : i < l.length, l[i].1 = .nils ∧ p = (base + (j + i), l[i].2)
  | [], j, p => by simp [ownTl]
  | q :: r, j, p => by
    have ih := ownTl_mem base r (j + 1) p
    simp only [ownTl]
    constructor
    · intro h
      split at h
      · rename_i hq
        rcases List.mem_cons.1 h with rfl | h
        · exact ⟨0, by simp, by simpa using hq, rfl⟩
        · obtain ⟨i, hi, h1, h2⟩ := ih.1 h
          exact ⟨i + 1, by simpa using hi, by simpa using h1, by rw [h2]; simp; omega⟩
      · obtain ⟨i, hi, h1, h2⟩ := ih.1 h
        exact ⟨i + 1, by simpa using hi, by simpa using h1, by rw [h2]; simp; omega⟩
    · rintro ⟨i, hi, h1, h2⟩
      cases i with
      | zero =>
        have hq : q.1 = .nils := by simpa using h1
        rw [if_pos hq]
        exact List.mem_cons.2 (.inl (by rw [h2]; rfl))
      | succ i =>
        have : p ∈ ownTl base (j + 1) r := ih.2 ⟨i, by simpa using hi, by simpa using h1, by rw [h2]; simp; omega⟩
        split
        · exact List.mem_cons.2 (.inr this)
        · exact this
/-- own names for what is nil, and then the cells -/
theorem own_ok (R : Rel P w0 M N α ν L a w) (base : Nat) (l : List APc) (cs : List Value) (H : RPcs P L w ν l cs) (hcl : clean (ownK base l) (l.map (·.1)) = true)
    (tv : List (List V)) (htl : tv.length = (ownT base l).length) (htv : ∀ i (h : i < (ownT base l).length) (h' : i < tv.length), Pieces ν (ownT base l)[i].2 tv[i]) :
    ∃ L1, Rel P w0 M N (α.sk [] (ownK base l)) (ν.upds ((ownT base l).map (·.1)) tv) L1 a w ∧ Ext L L1 w w (ownK base l) [] ∧ L1.box = L.box ∧ (∀ b, L1.F b ↔ L.F b) ∧ (∀ b, L1.S b ↔ L.S b) ∧ ∀ xs, Pieces ν (ownP l) xs → RAs P L1 w (ownA base l) xs cs := by
  obtain ⟨hlen, hra⟩ := H
  -- the rows' types
  have key : ∀ i (h : i < (ownTl base 0 l).length), ∃ e, pcGet ν ((ownTl base 0 l)[i]).2 = some (.list e []) ∧ tv[i]? = some [.list e []] := by
    intro i hi
    have hmem := (ownTl_mem base l 0 _).1 (List.getElem_mem hi)
    obtain ⟨m, hm, h1, h2⟩ := hmem
    have hp := htv i (by simpa [ownT] using hi) (by rw [htl]; simpa [ownT] using hi)
    simp only [ownT, List.getElem_map] at hp
    obtain ⟨x, hx, hx1, hx2⟩ := hp.one
    have hx3 : pcGet ν l[m].2 = some x := by
      have : (ownTl base 0 l)[i].2 = l[m].2 := by rw [h2]
      rw [← this]; exact hx1
    have := hra m hm (by omega) x hx3 hx2
    rw [h1] at this
    rcases this with h | ⟨_, e, rfl⟩
    · exact absurd h hx2
    · refine ⟨e, hx1, ?_⟩
      rw [List.getElem?_eq_getElem (by rw [htl]; simpa [ownT] using hi), hx]
  let es : List TypeId := (ownTl base 0 l).map fun p => match pcGet ν p.2 with | some (.list e _) => e | _ => 0
  let ts : List (Nat × TypeId) := (ownTl base 0 l).map fun p => (p.1, match pcGet ν p.2 with | some (.list e _) => e | _ => 0)
  have hts1 : ts.map (fun p => tkK p.1) = ownK base l := by simp [ts, ownK]
  have hts2 : ts.map (fun p => tC p.1) = (ownT base l).map (·.1) := by simp [ts, ownT]
  have hts3 : (ts.map fun p => [V.list p.2 []]) = tv := by
    apply List.ext_getElem?
    intro i
    by_cases hi : i < (ownTl base 0 l).length
    · obtain ⟨e, h1, h2⟩ := key i hi
      rw [h2]
      simp [ts, List.getElem?_eq_getElem hi, h1]
    · have h1 : (ts.map fun p => [V.list p.2 []]).length ≤ i := by simpa [ts] using hi
      have h2 : tv.length ≤ i := by rw [htl]; simpa [ownT] using hi
      rw [List.getElem?_eq_none h1, List.getElem?_eq_none h2]
  obtain ⟨L1, R1, h1, h2, h3, h4, h5⟩ := nilRows (a := a) (w := w) ts R
  rw [hts1, hts2, hts3] at R1
  have hts4 : ts.map (·.1) = (ownTl base 0 l).map (·.1) := by simp [ts]
  have hE : Ext L L1 w w (ownK base l) [] := nil_ext R.fs h1 h2 h3 (fun t ht => h4 t (fun hm => ht (by
    rw [hts4] at hm
    obtain ⟨p, hp, rfl⟩ := List.mem_map.1 hm
    exact List.mem_map.2 ⟨p, hp, rfl⟩)))
  refine ⟨L1, R1, hE, h1, h2, h3, fun xs hxs => ?_⟩
  obtain ⟨hx1, hx2⟩ := hxs
  simp only [ownP, List.length_map] at hx1
  refine ⟨by simpa [ownA] using hlen, by simpa [ownA] using hx1, fun i h0 hi1 hi2 => ?_⟩
  have hi : i < l.length := by simpa [ownA] using h0
  have hpc := hx2 i (by simpa [ownP] using hi) hi1
  simp only [ownP, List.getElem_map] at hpc
  simp only [ownA, List.getElem_map, List.getElem_zipIdx]
  by_cases hn : l[i].1 = .nils
  · simp only [hn, if_true] at hpc ⊢
    have hu : xs[i] = .unit := by
      have := hpc.1
      simp [pcGet, pcU, VArg.get] at this
      exact this.symm
    have hm : (base + i, l[i].2) ∈ ownTl base 0 l := (ownTl_mem base l 0 _).2 ⟨i, hi, hn, by simp⟩
    obtain ⟨e, hrow⟩ := h5 (base + i) (by rw [hts4]; exact List.mem_map.2 ⟨_, hm, rfl⟩)
    have hcv : cs[i] = .slice none 0 0 := by
      obtain ⟨q, hq, hqe⟩ := List.getElem_of_mem hm
      obtain ⟨e2, h7, _⟩ := key q hq
      have := hra i hi hi2 (.list e2 []) (by rw [hqe] at h7; exact h7) (by simp)
      rw [hn] at this
      rcases this with h | ⟨h, _⟩
      · cases h
      · exact h
    simp only [Nat.zero_add]
    exact .inr ⟨hu, _, hrow, hcv⟩
  · simp only [hn, if_false] at hpc ⊢
    have hr := hra i hi hi2 xs[i] hpc.1 hpc.2
    have := hr.ext hE
    have hc : l[i].1.kill (ownK base l) = l[i].1 := by
      have := List.all_eq_true.1 hcl l[i].1 (List.mem_map.2 ⟨l[i], List.getElem_mem hi, rfl⟩)
      simpa using this
    have h0 : ∀ y : At, y.stale [] = y := fun y => by cases y <;> first | rfl | (rename_i s; cases s <;> rfl) | (rename_i s j; cases s <;> rfl)
    simpa [At.sk, h0, hc] using this

theorem Pieces.upd_ne : True := trivial
theorem viG_two {ts : List (Nat × List Pc)} {last : List (Nat × List Pc)} {chk asr : List (Nat × Nat)} (h : (viG (ts ++ last) chk asr).run Φ ν = some ν') :
    chk.all (unitAt ν) = true ∧ asr.all (trueAt ν) = true ∧ ∃ tv ls : List (List V), tv.length = ts.length ∧ ls.length = last.length ∧ (∀ i (h : i < ts.length) (h' : i < tv.length), Pieces ν ts[i].2 tv[i]) ∧
      (∀ i (h : i < last.length) (h' : i < ls.length), Pieces ν last[i].2 ls[i]) ∧ ν' = (ν.upds (ts.map (·.1)) tv).upds (last.map (·.1)) ls := by
  obtain ⟨h1, h2, xss, h3, h4, h5⟩ := viG_inv h
  simp only [List.length_append] at h3
  refine ⟨h1, h2, xss.take ts.length, xss.drop ts.length, by simp; omega, by simp; omega, fun i hi hi' => ?_, fun i hi hi' => ?_, ?_⟩
  · have := h4 i (by simp; omega) (by omega)
    rw [List.getElem_append_left hi] at this
    simpa using this
  · have := h4 (ts.length + i) (by simp; omega) (by omega)
    rw [List.getElem_append_right (by omega)] at this
    simpa using this
  · rw [h5, List.map_append]
    conv => lhs; rw [← List.take_append_drop ts.length xss]
    rw [upds_append _ _ _ _ _ (by simp; omega)]
theorem apc_get (as : List At) (g : VArg) (i : Nat) (h : i < (apc as g).length) : (apc as g)[i] = (as[i]'(by simpa [apc] using h), (g, i)) := by simp [apc]
theorem apc_len (as : List At) (g : VArg) : (apc as g).length = as.length := by simp [apc]
theorem apc_fst (as : List At) (g : VArg) : (apc as g).map (·.1) = as := by
  apply List.ext_getElem
  · simp [apc]
  · intro i h1 h2; simp [apc]
/-- an operand's cells, as pieces -/
theorem RAs.pcs {as : List At} {g : VArg} {cs : List Value} (h : RAs P L w as (g.get ν) cs) : RPcs P L w ν (apc as g) cs := by
  refine ⟨by rw [apc_len]; exact h.1, fun i hi hi' x hx hne => ?_⟩
  rw [apc_get] at hx ⊢
  simp only [pcGet] at hx
  obtain ⟨h1, h2⟩ := List.getElem?_eq_some_iff.1 hx
  have := h.2.2 i (by simpa [apc] using hi) h1 hi'
  rw [h2] at this
  exact this
theorem row_val (R : Rel P w0 M N α ν L a w) {t : Nat} {r : Row} (h : L.row t = some r) : ∃ ad n cap, r.val = .slice ad n cap := by
  obtain ⟨xs, _, H⟩ := row_rd R h
  exact ⟨_, _, _, H.slice.choose_spec.choose_spec⟩
theorem RA.cells (R : Rel P w0 M N α ν L a w) {at1 : At} {x : V} {c : Value} (h : RA P L w at1 x c) (hm : memAt at1 = true) (hx : x ≠ .undef) : c.cells = #[c] ∧ c.oneCell' = true := by
  rcases h with h | hr
  · exact absurd h hx
  cases at1 <;> first
    | (simp [memAt] at hm; done)
    | (rcases hr with ⟨_, rfl⟩ | ⟨_, b, ro, _, rfl⟩ <;> exact ⟨rfl, rfl⟩)
    | (cases hr <;> first | (exact absurd rfl hx) | exact ⟨rfl, rfl⟩)
    | (obtain ⟨rfl, _⟩ := hr; exact ⟨rfl, rfl⟩)
    | (obtain ⟨_, r, h1, rfl⟩ := hr; obtain ⟨ad, n, cap, h2⟩ := row_val R h1; rw [h2]; exact ⟨rfl, rfl⟩)
    | (obtain ⟨_, b, ro, _, rfl⟩ := hr; exact ⟨rfl, rfl⟩)
theorem flat_ok (R : Rel P w0 M N α ν L a w) {h : Sh} {b : Bool} {as : List At} {xs : List V} {c : Value} (hf : h.flat = some (b, as)) (hm : as.all memAt = true) (hne : ∀ x ∈ xs, x ≠ .undef) (H : RSl P L w h xs c) :
    RAs P L w as xs c.cells.toList ∧ (∀ v ∈ c.cells.toList, v.oneCell' = true) := by
  have go : ∀ {cs : List Value}, RAs P L w as xs cs → ∀ v ∈ cs, v.oneCell' = true := by
    intro cs hr v hv
    obtain ⟨i, hi, rfl⟩ := List.getElem_of_mem hv
    have h1 : i < as.length := by have := hr.1; omega
    have h2 : i < xs.length := by have := hr.2.1; omega
    exact (RA.cells R (hr.2.2 i h1 h2 hi) (List.all_eq_true.1 hm _ (List.getElem_mem h1)) (hne _ (List.getElem_mem h2))).2
  cases h with
  | one a1 =>
    cases hf
    have hra : RAs P L w [a1] xs [c] := by cases a1 <;> first | exact H | (simp [memAt] at hm; done)
    obtain ⟨x, rfl, hr⟩ := RAs.single hra
    have := (RA.cells R hr (by simpa using hm) (hne x (by simp))).1
    rw [this]
    exact ⟨hra, go hra⟩
  | agg as' =>
    cases hf
    obtain ⟨cs, rfl, hr⟩ := H
    exact ⟨hr, go hr⟩
  | ogg ps => cases hf
  | tup ps => cases hf
theorem pcs_ne {base : Nat} {l : List APc} {tv : List (List V)} {xs : List V} (htl : tv.length = (ownT base l).length) (htv : ∀ i (h : i < (ownT base l).length) (h' : i < tv.length), Pieces ν (ownT base l)[i].2 tv[i]) (hxs : Pieces ν (ownP l) xs) :
    ∀ i (h : i < l.length), ∃ x, pcGet ν l[i].2 = some x ∧ x ≠ .undef := by
  intro i hi
  by_cases hn : l[i].1 = .nils
  · have hm : (base + i, l[i].2) ∈ ownTl base 0 l := (ownTl_mem base l 0 _).2 ⟨i, hi, hn, by simp⟩
    obtain ⟨q, hq, hqe⟩ := List.getElem_of_mem hm
    have := htv q (by simpa [ownT] using hq) (by rw [htl]; simpa [ownT] using hq)
    simp only [ownT, List.getElem_map, hqe] at this
    obtain ⟨x, _, h1, h2⟩ := this.one
    exact ⟨x, h1, h2⟩
  · obtain ⟨h1, h2⟩ := hxs
    have h3 := h2 i (by simpa [ownP] using hi) (by rw [h1]; simpa [ownP] using hi)
    simp only [ownP, List.getElem_map, hn, if_false] at h3
    exact ⟨_, h3⟩
theorem apc_ne {as : List At} {g : VArg} (hlen : (g.get ν).length = as.length) (h : ∀ i (h : i < (apc as g).length), ∃ x, pcGet ν (apc as g)[i].2 = some x ∧ x ≠ .undef) : ∀ x ∈ g.get ν, x ≠ .undef := by
  intro x hx
  obtain ⟨i, hi, rfl⟩ := List.getElem_of_mem hx
  obtain ⟨y, h1, h2⟩ := h i (by rw [apc_len]; omega)
  rw [apc_get] at h1
  simp only [pcGet, List.getElem?_eq_getElem hi, Option.some.injEq] at h1
  rw [h1]; exact h2

/-! #### moves -/
theorem sk_setBs (α : Al) (ks : List Nat) : (α.map (At.stale [])).map (At.kill ks) = α.sk [] ks := ap_sk [] ks α
theorem copMove_ok (R : Rel P w0 M N α ν L a w) (hd : N.W d) {x : Operand} {t : TypeId} (ho : o.op = .move x ∨ o.op = .assign x) (hod : o.dst = some d) (h : RM.out α (copMove P d x t) E) (hv : runIs Φ E.vis ν = some ν') :
    OpR P o a w (Goal P w0 M N (E.ap α (some d)) ν') := by
  simp only [copMove, out_bind] at h
  obtain ⟨s, h1, h⟩ := h
  have H := opd_ok R h1
  have hrun : (execOp a.eval o).run P w = .ok (.value (a.eval x)) w := by rcases ho with ho | ho <;> simp [execOp, ho]
  split at h
  · rename_i hs
    rw [out_ok] at h; subst h
    rw [hs] at H
    obtain ⟨y, hy, hr⟩ := RAs.single H
    have hv' := run_ins1 hv
    obtain ⟨_, _, xss, h3, h4, rfl⟩ := viG_inv hv'
    have hlen : xss.length = 2 := by simpa using h3
    obtain ⟨t1, x1, rfl⟩ : ∃ t1 x1, xss = [t1, x1] := by
      match xss, hlen with
      | [t1, x1], _ => exact ⟨t1, x1, rfl⟩
    have hp1 := h4 0 (by simp) (by simp)
    have hp2 := h4 1 (by simp) (by simp)
    simp only [List.getElem_cons_zero, List.getElem_cons_succ] at hp1 hp2
    obtain ⟨z, rfl, hz, hne⟩ := hp1.one
    rw [hy] at hz
    simp only [List.getElem?_cons_zero, Option.some.injEq] at hz
    subst hz
    have hx1 := hp2.unit
    subst hx1
    rcases hr with hr | ⟨hc, e, rfl⟩
    · exact absurd hr hne
    obtain ⟨L1, R1, hb1, hF, hS, hrow, hin⟩ := nilRows [(tokS d 0, e)] R
    obtain ⟨e2, hrow1⟩ := hin (tokS d 0) (by simp)
    refine OpR.value hrun ?_
    rw [hod]
    simp only [Eff.ap, Al.setBs, sk_setBs]
    exact ⟨L1, R1.put hd (RSl.one (RAs.one (.inr ⟨rfl, _, hrow1, hc⟩)))⟩
  · simp only [out_bind, out_need, out_ok] at h
    obtain ⟨_, hn, rfl⟩ := h
    obtain ⟨_, _, xs, hx, rfl⟩ := viG1 (run_ins1 hv)
    refine OpR.value hrun ?_
    rw [hod]
    refine Goal.plain R hd rfl rfl rfl ?_
    by_cases hdd : s.sh = .one .dead
    · rw [hdd]; trivial
    · by_cases hgg : ∃ k, s.sh = .one (.gone k)
      · obtain ⟨k, hk⟩ := hgg; rw [hk]; trivial
      · have hlen := atoms_len H hdd (fun k e => hgg ⟨k, e⟩) (by simp only [Bool.and_eq_true, Bool.not_eq_true'] at hn; exact hn.2)
        rw [hx.all hlen]
        exact H

/-! #### variables in memory -/
theorem kill_split {k1 k2 : List Nat} {a : At} (h : a.kill (k1 ++ k2) = a) : a.kill k1 = a ∧ a.kill k2 = a := by
  cases a with
  | v s => cases s with
    | of t => simp only [At.kill, List.contains_iff_mem, List.mem_append] at *; by_cases h1 : tkK t ∈ k1 <;> by_cases h2 : tkK t ∈ k2 <;> simp_all
    | _ => exact ⟨rfl, rfl⟩
  | iel s j => cases s with
    | of t => simp only [At.kill, List.contains_iff_mem, List.mem_append] at *; by_cases h1 : tkK t ∈ k1 <;> by_cases h2 : tkK t ∈ k2 <;> simp_all
    | _ => exact ⟨rfl, rfl⟩
  | own t => simp only [At.kill, List.contains_iff_mem, List.mem_append] at *; by_cases h1 : tkK t ∈ k1 <;> by_cases h2 : tkK t ∈ k2 <;> simp_all
  | elt t j => simp only [At.kill, List.contains_iff_mem, List.mem_append] at *; by_cases h1 : tkK t ∈ k1 <;> by_cases h2 : tkK t ∈ k2 <;> simp_all
  | ptr t j => simp only [At.kill, List.contains_iff_mem, List.mem_append] at *; by_cases h1 : bxK t ∈ k1 <;> by_cases h2 : bxK t ∈ k2 <;> simp_all
  | opt t => simp only [At.kill, List.contains_iff_mem, List.mem_append] at *; by_cases h1 : bxK t ∈ k1 <;> by_cases h2 : bxK t ∈ k2 <;> simp_all
  | _ => exact ⟨rfl, rfl⟩
theorem stale_nil (a : At) : a.stale [] = a := by cases a <;> first | rfl | (rename_i s; cases s <;> rfl) | (rename_i s j; cases s <;> rfl)
theorem sk_eq (ks : List Nat) (a : At) : At.sk [] ks a = a.kill ks := by rw [At.sk, stale_nil]
theorem map_sk_id {ks : List Nat} {as : List At} (h : ∀ a ∈ as, a.kill ks = a) : as.map (At.sk [] ks) = as := by
  conv => rhs; rw [← List.map_id as]
  exact List.map_congr_left fun a ha => by rw [sk_eq, h a ha]; rfl
theorem ownA_clean {base u : Nat} {l : List APc} (h : ∀ p ∈ l, p.1.kill [bxK u] = p.1) : ∀ a ∈ ownA base l, a.kill [bxK u] = a := by
  intro a ha
  obtain ⟨⟨p, i⟩, hp, rfl⟩ := List.mem_map.1 ha
  have hm : p ∈ l := by
    have := List.mem_zipIdx hp
    have h2 := this.2.2
    rw [h2]; exact List.getElem_mem _
  simp only
  split
  · have : tkK (base + i) ∉ [bxK u] := by simp only [List.mem_singleton, tkK, bxK]; omega
    simp [At.kill, this]
  · exact h p hm
theorem box_made (R : Rel P w0 M N α ν L a w) (hd : N.W d) {l : List APc} {cs : List Value} {t : TypeId} (H : RPcs P L w ν l cs) (hcl : clean (ownK (tokB d 0) l ++ [bxK d]) (l.map (·.1)) = true)
    (hv : runIs Φ [viG (ownT (tokB d 0) l ++ [(bC d, ownP l), (sC d, [pcU])]) [] []] ν = some ν') (hod : o.dst = some d)
    (hrun : (∀ i (h : i < l.length), ∃ x, pcGet ν l[i].2 = some x ∧ x ≠ .undef) → (execOp a.eval o).run P w = .ok (.value (.pointer (some ⟨w.heap.size, 0, none⟩))) (w.alloc (.cells cs.toArray t))) :
    OpG P o a w (Goal P w0 M N ((Eff.mk [viG (ownT (tokB d 0) l ++ [(bC d, ownP l), (sC d, [pcU])]) [] []] (ownK (tokB d 0) l ++ [bxK d]) [] [(d, ⟨false, ownA (tokB d 0) l⟩)] (.one (.ptr d 0))).ap α (some d)) ν') := by
  obtain ⟨_, _, tv, ls, h1, h2, h3, h4, rfl⟩ := viG_two (run_ins1 hv)
  obtain ⟨xs, u1, rfl⟩ : ∃ xs u1, ls = [xs, u1] := by
    match ls, h2 with
    | [x, y], _ => exact ⟨x, y, rfl⟩
  have hp1 := h4 0 (by simp) (by simp)
  have hp2 := h4 1 (by simp) (by simp)
  simp only [List.getElem_cons_zero, List.getElem_cons_succ] at hp1 hp2
  have hu1 := hp2.unit
  subst hu1
  have hcl1 : ∀ p ∈ l, p.1.kill (ownK (tokB d 0) l) = p.1 ∧ p.1.kill [bxK d] = p.1 := fun p hp => by
    have := List.all_eq_true.1 hcl p.1 (List.mem_map.2 ⟨p, hp, rfl⟩)
    exact kill_split (by simpa using this)
  obtain ⟨L1, R1, hE, hbx, hF, hS, hRA⟩ := own_ok R (tokB d 0) l cs H (List.all_eq_true.2 fun a ha => by
    obtain ⟨p, hp, rfl⟩ := List.mem_map.1 ha
    simpa using (hcl1 p hp).1) tv h1 h3
  have hra := hRA xs hp1
  refine OpG.value (hrun (pcs_ne h1 h3 hp1)) ?_
  rw [hod]
  have hW : WStep w (w.alloc (.cells cs.toArray t)) (fun g => g = w.heap.size) := WStep.alloc w _ _
  have hb : (w.heap.size ≤ w.heap.size ∧ w.heap.size < (w.alloc (.cells cs.toArray t)).heap.size ∧ bxK d ∈ [bxK d]) ∨ L1.box d = some (w.heap.size, false) := .inl ⟨Nat.le_refl _, by simp, by simp⟩
  have hE2 := R1.boxExt d w.heap.size [bxK d] hW hb
  have hbox : BoxOK P (L1.withBox d w.heap.size) (w.alloc (.cells cs.toArray t)) w.heap.size (ownA (tokB d 0) l) xs := by
    refine ⟨cs.toArray, t, (0, 0), heap_alloc_new w _, .inl (by simp), ?_⟩
    have := hra.ext hE2
    rw [map_sk_id (ownA_clean (fun p hp => (hcl1 p hp).2))] at this
    simpa using this
  have R2 := R1.boxStep d w.heap.size _ xs [bxK d] hW hb hbox
  rw [sk_sk] at R2
  have R3 := R2.put hd (h := .one (.ptr d 0)) (xs := [.unit]) (v := .pointer (some ⟨w.heap.size, 0, none⟩)) (RSl.one (RAs.one (.inr ⟨rfl, w.heap.size, false, by simp [Lay.withBox], rfl⟩)))
  simp only [Eff.ap, Al.setBs, sk_setBs]
  exact ⟨_, R3⟩
theorem memAt_live {h : Sh} {b : Bool} {as : List At} (hf : h.flat = some (b, as)) (hm : as.all memAt = true) : h ≠ .one .dead ∧ (∀ k, h ≠ .one (.gone k)) ∧ h.atoms = as ∧ h.isOgg = false := by
  cases h with
  | one a1 => cases hf; refine ⟨?_, ?_, rfl, rfl⟩ <;> (intros; rintro ⟨⟩; simp [memAt] at hm)
  | agg as' => cases hf; exact ⟨by simp, by simp, rfl, rfl⟩
  | ogg ps => cases hf
  | tup ps => cases hf
theorem copBox_ok (R : Rel P w0 M N α ν L a w) (hd : N.W d) {x : Operand} {t : TypeId} (ho : o.op = .box t x) (hod : o.dst = some d) (h : RM.out α (copBox P d t x) E) (hv : runIs Φ E.vis ν = some ν') :
    OpG P o a w (Goal P w0 M N (E.ap α (some d)) ν') := by
  simp only [copBox, out_bind, out_opt, out_need, out_ok, Bool.and_eq_true] at h
  obtain ⟨s, h1, ⟨b, as⟩, hf, _, ⟨hsz, hm⟩, _, hcl, rfl⟩ := h
  have H := opd_ok R h1
  obtain ⟨hl1, hl2, hat, hog⟩ := memAt_live hf hm
  have hlen := atoms_len H hl1 hl2 hog
  rw [hat] at hlen
  -- the cells, if no value is missing
  by_cases hne : ∀ y ∈ s.arg.get ν, y ≠ .undef
  · obtain ⟨hra, hone⟩ := flat_ok R hf hm hne H
    refine box_made R hd (t := t) (RAs.pcs hra) (by rw [apc_fst]; exact hcl) hv hod (fun _ => ?_)
    simp [execOp, ho, Instr.box, newVar, newRow]
  · exfalso
    obtain ⟨_, _, tv, ls, h2, h3, h4, h5, _⟩ := viG_two (run_ins1 hv)
    have hp1 := h5 0 (by simp) (by rw [h3]; simp)
    simp only [List.getElem_cons_zero] at hp1
    exact hne (apc_ne hlen (pcs_ne h2 h4 hp1))

/-- a type's zero -/
theorem zip_zV : ∀ {zs : List Value} {ls : List TypeId} {l : List (At × V)}, zs.length = ls.length → (zs.zip ls).mapM (fun p => zV P p.1 p.2) = some l → RAs P L w (l.map (·.1)) (l.map (·.2)) zs
  | [], [], l, _, h => by simp only [List.zip_nil_left, List.mapM_nil] at h; cases h; exact ⟨rfl, rfl, fun i h => by simp at h⟩
  | z :: zs, t :: ls, l, hl, h => by
    simp only [List.zip_cons_cons, List.mapM_cons, Option.bind_eq_bind, Option.bind_eq_some_iff, Option.pure_def, Option.some.injEq] at h
    obtain ⟨x, hx, r, hr, rfl⟩ := h
    have ih := zip_zV (zs := zs) (ls := ls) (by simpa using hl) hr
    refine ⟨by simpa using ih.1, by simp, fun i h0 h1 h2 => ?_⟩
    cases i with
    | zero => exact zV_ok (y := x.2) (at1 := x.1) hx
    | succ i => exact ih.2.2 i (by simpa using h0) (by simpa using h1) (by simpa using h2)
theorem zeroOf_ok {t : TypeId} {as : List At} {vs : List V} (h : zeroOf P t = some (as, vs)) : ∃ i z, P.info? t = some i ∧ i.zero = some z ∧ RAs P L w as vs z.cells.toList ∧ i.size = as.length := by
  simp only [zeroOf, Option.bind_eq_some_iff] at h
  obtain ⟨i, hi, z, hz, ls, hls, h⟩ := h
  split at h
  · rename_i hl
    simp only [Option.map_eq_some_iff, Prod.mk.injEq] at h
    obtain ⟨l, hl2, rfl, rfl⟩ := h
    have := zip_zV (P := P) (L := L) (w := w) (by simpa using hl.1) hl2
    refine ⟨i, z, hi, hz, this, ?_⟩
    have h2 := this.1
    simp only [Array.length_toList] at h2
    omega
  · cases h
theorem copAlloc_ok (R : Rel P w0 M N α ν L a w) (hd : N.W d) {t : TypeId} (ho : o.op = .alloc t) (hod : o.dst = some d) (h : RM.out α (copAlloc P d t) E) (hv : runIs Φ E.vis ν = some ν') :
    OpG P o a w (Goal P w0 M N (E.ap α (some d)) ν') := by
  simp only [copAlloc, out_bind, out_opt, out_need, out_ok] at h
  obtain ⟨⟨as, vs⟩, hz, _, hcl, rfl⟩ := h
  obtain ⟨i, z, hi, hz2, hra, _⟩ := zeroOf_ok (L := L) (w := w) hz
  have hz3 : (zeroValue t).run P w = .ok z w := by simp [zeroValue, typeInfo, hi, hz2]
  refine box_made R hd (t := t) (RAs.pcs (g := .lit vs) hra) ?_ hv hod (fun _ => ?_)
  · rw [apc_fst]
    exact hcl
  · simp [execOp, ho, Instr.alloc, newVar, newRow, hz3]
end
end Go.Proofs.YtlhcgiegganbpaaDoorVs
set_option linter.unusedVariables false
set_option linter.unusedSimpArgs false
namespace Go.Proofs.YtlhcgiegganbpaaDoorVs
section
variable {P : Program} {w0 : World} {M : Nat → Prop} {N : Fr} {α : Al} {ν ν' : Env} {L : Lay} {a : Act} {w w' : World} {Φ : Funs} {o : Oper} {d : Nat} {E : Eff}

theorem run_storeCells_fz (P : Program) (g q : Nat) (t : TypeId) (fz : Nat × Nat) : ∀ (vs : List Value) (i : Nat) (cur : Array Value) (w : World), w.heap[g]? = some (.cells cur t fz) → (fz.2 ≤ fz.1 ∨ cur.size ≤ fz.1) → q + i + vs.length ≤ cur.size → (∀ v ∈ vs, v.oneCell' = true) →
    (storeCells ⟨g, q, none⟩ vs i).run P w = .ok () (w.setRow g (cur.toList.take (q + i) ++ vs ++ cur.toList.drop (q + i + vs.length)).toArray)
  | [], i, cur, w, hg, _, _, _ => by
    simp only [storeCells, List.append_nil, List.length_nil, Nat.add_zero, List.take_append_drop, Array.toArray_toList]
    rw [setRow_self w g cur t fz hg]
    rfl
  | v :: rest, i, cur, w, hg, hz, hl, h1 => by
    have hi : q + i < cur.size := by simp at hl; omega
    have hcell : w.cell? ⟨g, q + i, none⟩ = some cur[q + i] := by simp [World.cell?, hg, hi]
    have hfro : w.frozen? ⟨g, q + i, none⟩ = false := by
      obtain ⟨lo, hi'⟩ := fz
      simp only [World.frozen?, hg, Bool.and_eq_false_iff, decide_eq_false_iff_not]
      simp only at hz
      omega
    have hst : (store ((⟨g, q, none⟩ : Addr).add i) v).run P w = .ok () (w.setRow g (cur.setIfInBounds (q + i) v)) := by
      rw [add_plain, run_store P w _ v _ (h1 v (by simp)), hcell]
      simp [hfro, setCell_eq_setRow w g (q + i) cur t fz v hg]
    have ih := run_storeCells_fz P g q t fz rest (i + 1) (cur.setIfInBounds (q + i) v) (w.setRow g (cur.setIfInBounds (q + i) v)) (setRow_heap w g cur _ t _ hg) (by simpa using hz) (by simp at hl ⊢; omega) (fun x hx => h1 x (by simp [hx]))
    simp only [storeCells, Sem.run_bind, hst, Result.andThen_ok, ih, setRow_setRow]
    congr 3
    have e := list_seg_step cur.toList (q + i) v rest (by simp at hl ⊢; omega)
    simpa [Array.toList_setIfInBounds, Nat.add_assoc] using e
theorem run_storeVar_at {t : TypeId} {b q n : Nat} {v : Value} {C : Array Value} {ty : TypeId} {fz : Nat × Nat} (hsz : szOf P t = some n) (hv : v.cells.size = n) (hh : w.heap[b]? = some (.cells C ty fz)) (hz : fz.2 ≤ fz.1 ∨ C.size ≤ fz.1) (hl : q + n ≤ C.size)
    (h1 : ∀ c ∈ v.cells.toList, c.oneCell' = true) : (storeVar t ⟨b, q, none⟩ v).run P w = .ok () (w.setRow b (C.toList.take q ++ v.cells.toList ++ C.toList.drop (q + n)).toArray) := by
  have := run_storeCells_fz P b q ty fz v.cells.toList 0 C w hh hz (by simp [hv]; omega) h1
  simp only [Nat.add_zero, Array.length_toList, hv] at this
  simp [storeVar, run_sizeOf hsz, hv, this]
theorem Pieces.append {p q : List Pc} {xs : List V} (h : Pieces ν (p ++ q) xs) : Pieces ν p (xs.take p.length) ∧ Pieces ν q (xs.drop p.length) := by
  obtain ⟨h1, h2⟩ := h
  simp only [List.length_append] at h1
  refine ⟨⟨by simp; omega, fun j hj hj' => ?_⟩, ⟨by simp; omega, fun j hj hj' => ?_⟩⟩
  · have := h2 j (by simp; omega) (by omega)
    rw [List.getElem_append_left hj] at this
    simpa using this
  · have := h2 (p.length + j) (by simp; omega) (by omega)
    rw [List.getElem_append_right (by omega)] at this
    simpa using this
theorem RAs.append {as as' : List At} {xs xs' : List V} {cs cs' : List Value} (h : RAs P L w as xs cs) (h' : RAs P L w as' xs' cs') : RAs P L w (as ++ as') (xs ++ xs') (cs ++ cs') := by
  obtain ⟨h1, h2, h3⟩ := h
  obtain ⟨h4, h5, h6⟩ := h'
  refine ⟨by simp [h1, h4], by simp [h2, h5], fun i h7 h8 h9 => ?_⟩
  simp only [List.length_append] at h7 h8 h9
  by_cases hi : i < as.length
  · have := h3 i hi (by omega) (by omega)
    simp [List.getElem_append, hi, show i < xs.length by omega, show i < cs.length by omega, this]
  · have := h6 (i - as.length) (by omega) (by omega) (by omega)
    simpa [List.getElem_append, hi, show ¬ i < xs.length by omega, show ¬ i < cs.length by omega, h2, ← h1] using this
theorem ownA_len (base : Nat) (l : List APc) : (ownA base l).length = l.length := by simp [ownA]
theorem ownP_len (l : List APc) : (ownP l).length = l.length := by simp [ownP]
theorem clean_ids {ks : List Nat} {as : List At} (h : clean ks as = true) : as.map (At.sk [] ks) = as := map_sk_id fun a ha => by simpa using List.all_eq_true.1 h a ha
theorem upds_other (c : Nat) : ∀ (cs : List Nat) (xs : List (List V)) (ν : Env), c ∉ cs → ν.upds cs xs c = ν c
  | [], xs, ν, _ => by cases xs <;> rfl
  | k :: cs, [], ν, _ => rfl
  | k :: cs, x :: xs, ν, h => by
    simp only [List.mem_cons, not_or] at h
    simp only [Env.upds]
    rw [upds_other c cs xs _ h.2, upd_ne h.1]
theorem ownT_not (base : Nat) (l : List APc) (c : Nat) (h : c % 3 ≠ 2) : c ∉ (ownT base l).map (·.1) := by
  intro hm
  obtain ⟨p, hp, rfl⟩ := List.mem_map.1 hm
  obtain ⟨q, hq, rfl⟩ := List.mem_map.1 hp
  simp only [tC] at h
  omega
theorem copStore_ok1 (R : Rel P w0 M N α ν L a w) {x : Operand} {s sy : Seg} {v : Value} {t : TypeId} {n u off i bs : Nat} {b0 : Bool} {as : List At} {bx : Bx} (hrun : ∀ b, a.eval x = .pointer (some ⟨b, off, none⟩) → (execOp a.eval o).run P w = ((storeVar t ⟨b, off, none⟩ v).run P w).andThen fun _ w => .ok .skip w) (hod : o.dst = none)
    (hs : s.sh = .one (.ptr u off)) (hg : s.arg = .c i) (H : RSl P L w s.sh (s.arg.get ν) (a.eval x)) (Hy : RSl P L w sy.sh (sy.arg.get ν) v) (hsz : szOf P t = some n) (hf : sy.sh.flat = some (b0, as)) (hn : as.length = n) (hm : as.all memAt = true)
    (hbx : α.box u = some bx) (hle : off + n ≤ bx.as.length) (hro : bx.ro = false) (hcl : clean (ownK (bs) (apc as sy.arg)) as = true) (hcl2 : clean (ownK (bs) (apc as sy.arg)) bx.as = true)
    (hv : runIs Φ [viG (ownT (bs) (apc as sy.arg) ++ [(bC u, allPc (.c (bC u)) off ++ ownP (apc as sy.arg) ++ (List.range (bx.as.length - (off + n))).map fun j => (.c (bC u), off + n + j))]) [(i, 0)] []] ν = some ν') :
    OpG P o a w (Goal P w0 M N (((α.sk [] (ownK (bs) (apc as sy.arg)))).setB u ⟨false, bx.as.take off ++ ownA (bs) (apc as sy.arg) ++ bx.as.drop (off + n)⟩) ν') := by
  obtain ⟨hk, _, tv, ls, h1, h2, h3, h4, rfl⟩ := viG_two (run_ins1 hv)
  obtain ⟨xs, rfl⟩ : ∃ xs, ls = [xs] := by
    match ls, h2 with
    | [x], _ => exact ⟨x, rfl⟩
  have hp := h4 0 (by simp) (by simp)
  simp only [List.getElem_cons_zero] at hp
  obtain ⟨hp12, hp3⟩ := hp.append
  obtain ⟨hp1, hp2⟩ := hp12.append
  have hlA : (allPc (VArg.c (bC u)) off).length = off := by simp [allPc]
  have hlO : (ownP (apc as sy.arg)).length = n := by rw [ownP_len, apc_len, hn]
  simp only [List.length_append, hlA, hlO] at hp1 hp2 hp3
  rw [hs, hg] at H
  obtain ⟨y, hy, hr⟩ := RAs.single H
  have hun := unit_chk hk (List.mem_singleton.2 rfl) hy rfl
  subst hun
  rcases hr with hr | ⟨_, b, ro, hb, hc⟩
  · cases hr
  obtain ⟨hro2, hbok⟩ := R.boxes u b ro hb bx hbx
  rw [hro] at hro2
  subst hro2
  obtain ⟨C, ty, fz, hh, hfz, hra⟩ := hbok.cells
  have hCl : bx.as.length = C.size := by simpa using hra.1
  obtain ⟨hl1, hl2, hat, hog⟩ := memAt_live hf hm
  have hlen := atoms_len Hy hl1 hl2 hog
  rw [hat] at hlen
  have hne := apc_ne hlen (pcs_ne h1 h3 hp2)
  obtain ⟨hrv, hone⟩ := flat_ok R hf hm hne Hy
  have hvs : v.cells.size = n := by have := hrv.1; simp at this; omega
  obtain ⟨L1, R1, hE, hbx1, hF, hS, hRA⟩ := own_ok R (bs) (apc as sy.arg) v.cells.toList (RAs.pcs hrv) (by rw [apc_fst]; exact hcl) tv h1 h3
  have hra2 := hRA _ hp2
  have hfit : off + n ≤ C.size := by omega
  have hst := run_storeVar_at (P := P) (w := w) (v := v) hsz hvs hh hfz hfit hone
  refine OpG.skip (by rw [hrun b hc, hst]; rfl) ?_
  rw [hod]
  have hW : WStep w (w.setRow b (C.toList.take off ++ v.cells.toList ++ C.toList.drop (off + n)).toArray) (fun g => g = b) := WStep.setRow w b _ _ rfl
  have hb1 : L1.box u = some (b, false) := by rw [hbx1]; exact hb
  have hE2 := R1.boxExt u b [] hW (.inr hb1)
  have hra3 := hra.ext hE
  rw [clean_ids hcl2] at hra3
  have e1 := (hra3.sub 0 off (by omega)).ext hE2
  have e2 := hra2.ext hE2
  have e3 := (hra3.sub (off + n) (bx.as.length - (off + n)) (by omega)).ext hE2
  have hid : ∀ l : List At, l.map (At.sk [] []) = l := fun l => map_sk_id fun a _ => by rw [← sk_eq]; exact sk_nil a
  rw [hid] at e1 e2 e3
  have e4 := (e1.append e2).append e3
  have x1 : ((ν (bC u)).drop 0).take off = (xs.take (off + n)).take off := by
    have h5 : Pieces ν ((List.range off).map fun j => (VArg.c (bC u), 0 + j)) ((xs.take (off + n)).take off) := by simpa [allPc] using hp1
    rcases h5.range with ⟨h, _⟩ | ⟨h0, h⟩
    · rw [h]; rfl
    · rw [h]; simp [h0]
  have x3 : ((ν (bC u)).drop (off + n)).take (bx.as.length - (off + n)) = xs.drop (off + n) := by
    rcases hp3.range with ⟨h, _⟩ | ⟨h0, h⟩
    · rw [h]; rfl
    · rw [h]; simp [h0]
  have xall : ((ν (bC u)).drop 0).take off ++ (xs.take (off + n)).drop off ++ ((ν (bC u)).drop (off + n)).take (bx.as.length - (off + n)) = xs := by
    rw [x1, x3, List.take_append_drop, List.take_append_drop]
  rw [xall] at e4
  have hbox : BoxOK P (L1.withBox u b) (w.setRow b (C.toList.take off ++ v.cells.toList ++ C.toList.drop (off + n)).toArray) b (bx.as.take off ++ ownA (bs) (apc as sy.arg) ++ bx.as.drop (off + n)) xs := by
    refine ⟨_, ty, fz, setRow_heap w b C _ ty fz hh, ?_, ?_⟩
    · rcases hfz with h | h
      · exact .inl h
      · right
        simp only [List.size_toArray, List.length_append, List.length_take, List.length_drop, Array.length_toList]
        omega
    · have t1 : (bx.as.drop 0).take off = bx.as.take off := by simp
      have t2 : (bx.as.drop (off + n)).take (bx.as.length - (off + n)) = bx.as.drop (off + n) := List.take_of_length_le (by simp)
      have t3 : (C.toList.drop 0).take off = C.toList.take off := by simp
      have t4 : (C.toList.drop (off + n)).take (bx.as.length - (off + n)) = C.toList.drop (off + n) := List.take_of_length_le (by simp; omega)
      rw [t1, t2, t3, t4] at e4
      simpa using e4
  have R2 := R1.boxStep u b _ xs [] hW (.inr hb1) hbox
  rw [sk_sk, List.append_nil] at R2
  exact ⟨_, R2⟩
end
end Go.Proofs.YtlhcgiegganbpaaDoorVs
