/-
  Operations that only compute or read come to what their instructions say: one by one. Conditions: each lemma's own premises.
-/
import Derived.Test.YtogfkdpgkloljaaDoorVsE
set_option linter.unusedVariables false
set_option linter.unusedSimpArgs false
namespace Go.Proofs.YtogfkdpgkloljaaDoorVs
section
variable {P : Program} {w0 : World} {M : Nat → Prop} {N : Fr} {α : Al} {ν ν' : Env} {L : Lay} {a : Act} {w : World} {Φ : Funs} {o : Oper} {d : Nat} {E : Eff}

theorem atoms_len {h : Sh} {xs : List V} {c : Value} (H : RSl P L w h xs c) (hd : h ≠ .one .dead) (hg : ∀ k, h ≠ .one (.gone k)) : xs.length = h.atoms.length := by
  cases h with
  | one a => cases a with
    | dead => exact absurd rfl hd
    | gone k => exact absurd rfl (hg k)
    | _ => exact H.2.1
  | agg as => obtain ⟨cs, _, h⟩ := H; exact h.2.1
  | tup ps =>
    obtain ⟨cs, _, h⟩ := H
    have go : ∀ (ps : List (Bool × List At)) (xs : List V) (cs : List Value), RParts P L w ps xs cs → xs.length = ((ps.map (·.2)).flatten).length := by
      intro ps
      induction ps with
      | nil => intro xs cs h; obtain ⟨rfl, _⟩ := h; rfl
      | cons p ps ih =>
        rintro xs cs ⟨x1, x2, c, c2, rfl, _, h1, h2⟩
        have h3 := ih x2 c2 h2
        have h4 : x1.length = p.2.length := by
          unfold RPart at h1
          split at h1
          · obtain ⟨_, _, h⟩ := h1; exact h.2.1
          · exact h1.2.1
        simp only [List.map_cons, List.flatten_cons, List.length_append] at h3 ⊢
        omega
    exact go ps xs cs.toList h

/-! #### numbers and strings -/
theorem Rd.int_inv {S : Nat → Prop} {k : IntKind} {n : Int} {c : Value} (h : Rd P S w (.int k n) c) : c = .int k n := by cases h; rfl
theorem Rd.bool_inv {S : Nat → Prop} {b : Bool} {c : Value} (h : Rd P S w (.bool b) c) : c = .bool b := by cases h; rfl
theorem Rd.str_inv {S : Nat → Prop} {s : ByteArray} {c : Value} (h : Rd P S w (.str s) c) : c = .string s := by cases h; rfl
theorem Rd.nilI_inv {S : Nat → Prop} {c : Value} (h : Rd P S w .nilI c) : c = .nilIface := by cases h; rfl
theorem Rd.iface_inv {S : Nat → Prop} {t : TypeId} {x : V} {c : Value} (h : Rd P S w (.iface t x) c) : ∃ c', c = .iface t c' ∧ Rd P S w x c' := by cases h with | iface _ _ c h => exact ⟨c, rfl, h⟩

theorem vun_run {op : UnOp} {x z : V} {S S' : Nat → Prop} {c : Value} (h : vun op x = some z) (hc : x = .undef ∨ Rd P S w x c) : ∃ v, (Op.unary op c).run P w = .ok v w ∧ Rd P S' w z v := by
  unfold vun at h
  split at h
  · rename_i k n
    cases h
    rcases hc with hc | hc
    · cases hc
    · rw [hc.int_inv]; exact ⟨_, by simp only [Op.unary, Op.intArith]; rfl, .int _ _⟩
  · rename_i k n
    cases h
    rcases hc with hc | hc
    · cases hc
    · rw [hc.int_inv]; exact ⟨_, by simp only [Op.unary, Op.intBits]; rfl, .int _ _⟩
  · rename_i b
    cases h
    rcases hc with hc | hc
    · cases hc
    · rw [hc.bool_inv]; exact ⟨_, by simp only [Op.unary]; rfl, .bool _⟩
  · cases h
theorem copUn_ok (R : Rel P w0 M N α ν L a w) (hd : N.W d) {op : UnOp} {t : TypeId} {x : Operand} (ho : o.op = .unOp op t x) (hod : o.dst = some d) (h : RM.out α (copUn P d op t x) E) (hv : runIs Φ E.vis ν = some ν') :
    OpG P o a w (Goal P w0 M N (E.ap α (some d)) ν') := by
  simp only [copUn, out_bind, out_ok] at h
  obtain ⟨s, h1, k, h2, rfl⟩ := h
  obtain ⟨y, hy, hr⟩ := opd1 R h1 h2
  obtain ⟨_, _, z, hz, rfl⟩ := VI.inv1 (run_ins1 hv)
  simp only [List.map_cons, List.map_nil, hy, VF.sem, Option.map_eq_some_iff] at hz
  obtain ⟨q, hq, hqz⟩ := hz
  cases hqz
  obtain ⟨v, hv1, hv2⟩ := vun_run (S' := L.F) hq hr
  refine OpG.value (v := v) (w' := w) (by simp [execOp, ho, hv1]) ?_
  rw [hod]
  exact Goal.scalar (k := .fz) R hd rfl rfl rfl rfl hv2

theorem vcmp_run {op : BinOp} {x y : Int} {z : V} (S : Nat → Prop) (h : vcmp op x y = some z) : ∃ v, (Op.intCmp op x y).run P w = .ok v w ∧ Rd P S w z v := by
  unfold vcmp at h
  split at h <;> first | (cases h; done) | (cases h; exact ⟨_, by simp only [Op.intCmp]; rfl, .bool _⟩)
theorem vint_run {op : BinOp} {k : IntKind} {x y : Int} {z : V} (S : Nat → Prop) (t : TypeId) (hs : isShift op = false) (h : vint op k x y = some z) : ∃ v, (binOp op t (.int k x) (.int k y)).run P w = .ok v w ∧ Rd P S w z v := by
  have C : ∀ op, vcmp op x y = some z → (∀ u v : Value, binOp op t (.int k x) (.int k y) = Op.intCmp op x y) → ∃ v, (binOp op t (.int k x) (.int k y)).run P w = .ok v w ∧ Rd P S w z v := by
    intro op h1 h2
    obtain ⟨v, h3, h4⟩ := vcmp_run (P := P) (w := w) S h1
    exact ⟨v, by rw [h2 .nilFunc .nilFunc]; exact h3, h4⟩
  cases op <;> simp only [vint] at h
  case add => cases h; refine ⟨_, ?_, .int _ _⟩; simp only [binOp, ne_eq, not_true_eq_false, if_false, Op.intArith]; rfl
  case sub => cases h; refine ⟨_, ?_, .int _ _⟩; simp only [binOp, ne_eq, not_true_eq_false, if_false, Op.intArith]; rfl
  case mul => cases h; refine ⟨_, ?_, .int _ _⟩; simp only [binOp, ne_eq, not_true_eq_false, if_false, Op.intArith]; rfl
  case quo =>
    by_cases hy : y = 0
    · rw [if_pos hy] at h; cases h
    · rw [if_neg hy] at h; cases h; refine ⟨_, ?_, .int _ _⟩; simp only [binOp, ne_eq, not_true_eq_false, if_false, Op.intDiv]; rw [if_neg hy]; rfl
  case rem =>
    by_cases hy : y = 0
    · rw [if_pos hy] at h; cases h
    · rw [if_neg hy] at h; cases h; refine ⟨_, ?_, .int _ _⟩; simp only [binOp, ne_eq, not_true_eq_false, if_false, Op.intDiv]; rw [if_neg hy]; rfl
  case and => cases h; refine ⟨_, ?_, .int _ _⟩; simp only [binOp, ne_eq, not_true_eq_false, if_false, Op.intBits]; rfl
  case or => cases h; refine ⟨_, ?_, .int _ _⟩; simp only [binOp, ne_eq, not_true_eq_false, if_false, Op.intBits]; rfl
  case xor => cases h; refine ⟨_, ?_, .int _ _⟩; simp only [binOp, ne_eq, not_true_eq_false, if_false, Op.intBits]; rfl
  case andNot => cases h; refine ⟨_, ?_, .int _ _⟩; simp only [binOp, ne_eq, not_true_eq_false, if_false, Op.intBits]; rfl
  case shl => simp [isShift] at hs
  case shr => simp [isShift] at hs
  all_goals exact C _ h (fun _ _ => by simp only [binOp, ne_eq, not_true_eq_false, if_false])
theorem vshift_run {op : BinOp} {k k' : IntKind} {x y : Int} {z : V} (S : Nat → Prop) (t : TypeId) (h : vshift op k x y = some z) : ∃ v, (binOp op t (.int k x) (.int k' y)).run P w = .ok v w ∧ Rd P S w z v := by
  unfold vshift at h
  split at h
  · cases h
  · rename_i hy
    split at h
    · cases h; exact ⟨_, by simp only [binOp, Op.shift, hy, if_false]; rfl, .int _ _⟩
    · cases h; exact ⟨_, by simp only [binOp, Op.shift, hy, if_false]; rfl, .int _ _⟩
    · cases h
theorem vstr_run {op : BinOp} {x y : ByteArray} {z : V} (S : Nat → Prop) (t : TypeId) (h : vstr op x y = some z) : ∃ v, (binOp op t (.string x) (.string y)).run P w = .ok v w ∧ Rd P S w z v := by
  cases op <;> simp only [vstr] at h
  case add =>
    by_cases hc : ((x.size + y.size : Nat) : Int) > IntKind.i64.max
    · rw [if_pos hc] at h; cases h
    · rw [if_neg hc] at h; cases h; refine ⟨_, ?_, .str _⟩; simp only [binOp, Op.stringOp]; rw [if_neg hc]; rfl
  all_goals first
    | (cases h; done)
    | (cases h; refine ⟨_, ?_, .bool _⟩; simp only [binOp, Op.stringOp]; rfl)
theorem eval_const (a : Act) (v : Value) : a.eval (.const v) = v := rfl
theorem eqGuard_scalar {op : BinOp} {t : TypeId} {x y : Operand} {c c' : Value} (h : (∀ cs, c ≠ .agg cs) ∧ (c = .nilIface → c' = .nilIface → (∃ v, y = .const v))) : (eqGuard op t x y c c').run P w = .ok () w := by
  cases op <;> first
    | (simp [eqGuard]; done)
    | (simp only [eqGuard, Bool.not_true, Bool.false_eq_true, if_false]
       split
       · obtain ⟨v, rfl⟩ := h.2 rfl rfl
         cases x <;> simp
       · exact absurd rfl (h.1 _)
       · rfl)
theorem eqGuard_ptr {op : BinOp} {t : TypeId} {x y : Operand} {p : Option Addr} {c' : Value} : (eqGuard op t x y (.pointer p) c').run P w = .ok () w :=
  eqGuard_scalar ⟨fun cs e => (by cases e), fun e => (by cases e)⟩
theorem unit_chk {i : Nat} {chk : List (Nat × Nat)} (h : chk.all (unitAt ν) = true) (hm : (i, 0) ∈ chk) {xs : List V} (hx : ν i = xs) {x : V} (h1 : xs = [x]) : x = .unit := by
  have := List.all_eq_true.1 h _ hm
  simp only [unitAt, hx, h1] at this
  split at this
  · rename_i e; simpa using e
  · cases this
theorem isConst_out {y : Operand} (h : isConst y = true) : ∃ v, y = .const v := by cases y <;> simp [isConst] at h; exact ⟨_, rfl⟩
theorem clsOf_bool {P : Program} {t : TypeId} (h : clsOf P t = some 2) : P.underlying t = some .bool := by
  unfold clsOf at h; split at h <;> simp_all
theorem clsOf_iface {P : Program} {t : TypeId} (h : clsOf P t = some 3) : ∃ ms, P.underlying t = some (.interface ms) := by
  unfold clsOf at h; split at h <;> simp_all
theorem vbin_run {op : BinOp} {cls : Nat} {t : TypeId} {x y z : V} {S S' : Nat → Prop} (S'' : Nat → Prop) {c c' : Value} (ho : clsOf P t = some cls)
    (h : vbin op cls x y = some z) (hc : x = .undef ∨ Rd P S w x c) (hc' : y = .undef ∨ Rd P S' w y c') :
    ∃ v, (binOp op t c c').run P w = .ok v w ∧ Rd P S'' w z v := by
  unfold vbin at h
  split at h
  · rename_i k a k' b
    rcases hc with hc | hc
    · cases hc
    rcases hc' with hc' | hc'
    · cases hc'
    rw [hc.int_inv, hc'.int_inv]
    split at h
    · exact vshift_run S'' t h
    · rename_i hs
      split at h
      · rename_i hk; subst hk; exact vint_run S'' t (by simpa using hs) h
      · cases h
  · rename_i a b
    rcases hc with hc | hc
    · cases hc
    rcases hc' with hc' | hc'
    · cases hc'
    rw [hc.str_inv, hc'.str_inv]
    exact vstr_run S'' t h
  · rename_i a b
    rcases hc with hc | hc
    · cases hc
    rcases hc' with hc' | hc'
    · cases hc'
    rw [hc.bool_inv, hc'.bool_inv]
    have hu := clsOf_bool ho
    have heq : (Op.equal t (.bool a) (.bool b)).run P w = .ok (a == b) w := by
      unfold Op.equal; rw [show Op.maxDepth = 9999 + 1 from rfl]; unfold Op.equalIn; simp [run_underlying hu]
    split at h
    · cases h; exact ⟨_, by simp only [binOp, Sem.run_bind, heq, Result.andThen_ok]; rfl, .bool _⟩
    · cases h; exact ⟨_, by simp only [binOp, Sem.run_bind, heq, Result.andThen_ok]; rfl, .bool _⟩
    · cases h
  · rename_i q y
    rcases hc with hc | hc
    · cases hc
    rcases hc' with hc' | hc'
    · cases hc'
    obtain ⟨c1, rfl, _⟩ := hc.iface_inv
    rw [hc'.nilI_inv]
    obtain ⟨ms, hu⟩ := clsOf_iface ho
    have heq : (Op.equal t (.iface q c1) .nilIface).run P w = .ok false w := by
      unfold Op.equal; rw [show Op.maxDepth = 9999 + 1 from rfl]; unfold Op.equalIn; simp [run_underlying hu]
    split at h
    · cases h; exact ⟨_, by simp only [binOp, Sem.run_bind, heq, Result.andThen_ok]; rfl, .bool _⟩
    · cases h; exact ⟨_, by simp only [binOp, Sem.run_bind, heq, Result.andThen_ok]; rfl, .bool _⟩
    · cases h
  · rcases hc with hc | hc
    · cases hc
    rcases hc' with hc' | hc'
    · cases hc'
    rw [hc.nilI_inv, hc'.nilI_inv]
    obtain ⟨ms, hu⟩ := clsOf_iface ho
    have heq : (Op.equal t .nilIface .nilIface).run P w = .ok true w := by
      unfold Op.equal; rw [show Op.maxDepth = 9999 + 1 from rfl]; unfold Op.equalIn; simp [run_underlying hu]
    split at h
    · cases h; exact ⟨_, by simp only [binOp, Sem.run_bind, heq, Result.andThen_ok]; rfl, .bool _⟩
    · cases h; exact ⟨_, by simp only [binOp, Sem.run_bind, heq, Result.andThen_ok]; rfl, .bool _⟩
    · cases h
  · cases h
theorem copBin_ok (R : Rel P w0 M N α ν L a w) (hd : N.W d) {op : BinOp} {t u : TypeId} {x y : Operand} (ho : o.op = .binOp op t x y u) (hod : o.dst = some d) (h : RM.out α (copBin P d op t x y u) E) (hv : runIs Φ E.vis ν = some ν') :
    OpG P o a w (Goal P w0 M N (E.ap α (some d)) ν') := by
  simp only [copBin, out_bind] at h
  obtain ⟨s, h1, s', h2, h⟩ := h
  split at h
  · rename_i hn
    have hy : y = .const (.pointer none) := by
      cases y with
      | const v => cases v with
        | pointer q => cases q with
          | none => rfl
          | some q => simp [isNilP] at hn
        | _ => simp [isNilP] at hn
      | _ => simp [isNilP] at hn
    subst hy
    have H := opd_ok R h1
    split at h
    · rename_i e hu
      have hu' : P.underlying t = some (.pointer (P.pointee t)) := by simp [Program.pointee, hu]
      split at h
      · rename_i q hs hg
        rw [out_ok] at h; subst h
        obtain ⟨h5, _, xs, h6, rfl⟩ := viG1 (run_ins1 hv)
        obtain ⟨z, rfl, h7, _⟩ := h6.one
        simp only [VArg.get, List.getElem?_cons_zero, Option.some.injEq] at h7; subst h7
        rw [hs, hg] at H
        obtain ⟨p, hp, hr⟩ := RAs.single H
        have hu1 := unit_chk h5 (List.mem_singleton.2 rfl) hp rfl
        subst hu1
        rcases hr with hr | ⟨_, b, ro, _, hc⟩
        · cases hr
        refine OpG.value (v := .bool false) (w' := w) (by simp [execOp, ho, hc, eval_const, eqGuard_ptr, run_eql_pointer_nil w t _ hu']) ?_
        rw [hod]
        exact Goal.scalar (k := .fz) R hd rfl rfl rfl rfl (.bool _)
      · rename_i q hs hg
        rw [out_ok] at h; subst h
        obtain ⟨h5, _, xs, h6, rfl⟩ := viG1 (run_ins1 hv)
        obtain ⟨z, rfl, h7, _⟩ := h6.one
        simp only [VArg.get, List.getElem?_cons_zero, Option.some.injEq] at h7; subst h7
        rw [hs, hg] at H
        obtain ⟨p, hp, hr⟩ := RAs.single H
        have hu1 := unit_chk h5 (List.mem_singleton.2 rfl) hp rfl
        subst hu1
        rcases hr with hr | ⟨hc, _⟩
        · cases hr
        refine OpG.value (v := .bool true) (w' := w) (by simp [execOp, ho, hc, eval_const, eqGuard_ptr, run_eql_pointer_nil w t _ hu']) ?_
        rw [hod]
        exact Goal.scalar (k := .fz) R hd rfl rfl rfl rfl (.bool _)
      · rename_i q u hs hg
        rw [out_ok] at h; subst h
        obtain ⟨_, _, z, hz, rfl⟩ := VI.inv1 (run_ins1 hv)
        rw [hs, hg] at H
        obtain ⟨p, hp, hr⟩ := RAs.single H
        simp only [VArg.get] at hp
        simp only [List.map_cons, List.map_nil, VArg.get, hp] at hz
        rcases hr with rfl | ⟨rfl, hc⟩ | ⟨rfl, b, ro, _, hc⟩
        · cases hz
        · cases hz
          refine OpG.value (v := .bool true) (w' := w) (by simp [execOp, ho, hc, eval_const, eqGuard_ptr, run_eql_pointer_nil w t _ hu']) ?_
          rw [hod]
          exact Goal.scalar (k := .fz) R hd rfl rfl rfl rfl (.bool _)
        · cases hz
          refine OpG.value (v := .bool false) (w' := w) (by simp [execOp, ho, hc, eval_const, eqGuard_ptr, run_eql_pointer_nil w t _ hu']) ?_
          rw [hod]
          exact Goal.scalar (k := .fz) R hd rfl rfl rfl rfl (.bool _)
      · rw [out_no] at h; exact h.elim
    · rename_i e hu
      have hu' : P.underlying t = some (.pointer (P.pointee t)) := by simp [Program.pointee, hu]
      split at h
      · rename_i q hs hg
        rw [out_ok] at h; subst h
        obtain ⟨h5, _, xs, h6, rfl⟩ := viG1 (run_ins1 hv)
        obtain ⟨z, rfl, h7, _⟩ := h6.one
        simp only [VArg.get, List.getElem?_cons_zero, Option.some.injEq] at h7; subst h7
        rw [hs, hg] at H
        obtain ⟨p, hp, hr⟩ := RAs.single H
        have hu1 := unit_chk h5 (List.mem_singleton.2 rfl) hp rfl
        subst hu1
        rcases hr with hr | ⟨_, b, ro, _, hc⟩
        · cases hr
        refine OpG.value (v := .bool true) (w' := w) (by simp [execOp, ho, hc, eval_const, eqGuard_ptr, run_neq_pointer_nil w t _ hu']) ?_
        rw [hod]
        exact Goal.scalar (k := .fz) R hd rfl rfl rfl rfl (.bool _)
      · rename_i q hs hg
        rw [out_ok] at h; subst h
        obtain ⟨h5, _, xs, h6, rfl⟩ := viG1 (run_ins1 hv)
        obtain ⟨z, rfl, h7, _⟩ := h6.one
        simp only [VArg.get, List.getElem?_cons_zero, Option.some.injEq] at h7; subst h7
        rw [hs, hg] at H
        obtain ⟨p, hp, hr⟩ := RAs.single H
        have hu1 := unit_chk h5 (List.mem_singleton.2 rfl) hp rfl
        subst hu1
        rcases hr with hr | ⟨hc, _⟩
        · cases hr
        refine OpG.value (v := .bool false) (w' := w) (by simp [execOp, ho, hc, eval_const, eqGuard_ptr, run_neq_pointer_nil w t _ hu']) ?_
        rw [hod]
        exact Goal.scalar (k := .fz) R hd rfl rfl rfl rfl (.bool _)
      · rename_i q u hs hg
        rw [out_ok] at h; subst h
        simp only [runIs, Option.bind_eq_some_iff, Option.some.injEq] at hv
        obtain ⟨ν1, hv1, ν2, hv2, rfl⟩ := hv
        obtain ⟨_, _, z, hz, rfl⟩ := VI.inv1 hv1
        obtain ⟨_, _, z', hz', rfl⟩ := VI.inv1 hv2
        rw [hs, hg] at H
        obtain ⟨p, hp, hr⟩ := RAs.single H
        simp only [VArg.get] at hp
        simp only [List.map_cons, List.map_nil, VArg.get, hp] at hz
        simp only [List.map_cons, List.map_nil, VArg.get, upd_same] at hz'
        have hupd : ∀ x : List V, (ν.upd (sC d) z).upd (sC d) x = ν.upd (sC d) x := fun x => funext fun i => by simp only [Env.upd]; split <;> rfl
        rw [hupd]
        rcases hr with rfl | ⟨rfl, hc⟩ | ⟨rfl, b, ro, _, hc⟩
        · cases hz
        · cases hz; cases hz'
          refine OpG.value (v := .bool false) (w' := w) (by simp [execOp, ho, hc, eval_const, eqGuard_ptr, run_neq_pointer_nil w t _ hu']) ?_
          rw [hod]
          exact Goal.scalar (k := .fz) R hd rfl rfl rfl rfl (.bool _)
        · cases hz; cases hz'
          refine OpG.value (v := .bool true) (w' := w) (by simp [execOp, ho, hc, eval_const, eqGuard_ptr, run_neq_pointer_nil w t _ hu']) ?_
          rw [hod]
          exact Goal.scalar (k := .fz) R hd rfl rfl rfl rfl (.bool _)
      · rw [out_no] at h; exact h.elim
    · rw [out_no] at h; exact h.elim
  · simp only [out_bind, out_opt, out_need, out_ok] at h
    obtain ⟨k, hk, k', hk', cls, hc, _, hi, rfl⟩ := h
    obtain ⟨p, hp, hr⟩ := opd1 R h1 hk
    obtain ⟨q, hq, hr'⟩ := opd1 R h2 hk'
    obtain ⟨_, _, z, hz, rfl⟩ := VI.inv1 (run_ins1 hv)
    simp only [List.map_cons, List.map_nil, hp, hq, VF.sem, Option.map_eq_some_iff] at hz
    obtain ⟨zz, hzz, e⟩ := hz
    cases e
    obtain ⟨v, hv1, hv2⟩ := vbin_run (P := P) (w := w) L.F hc hzz hr hr'
    have hg : (eqGuard op t x y (a.eval x) (a.eval y)).run P w = .ok () w := by
      refine eqGuard_scalar ⟨fun cs e => ?_, fun e1 e2 => ?_⟩
      · rcases hr with rfl | hr
        · simp [vbin] at hzz
        · rw [e] at hr; cases hr; simp [vbin] at hzz
      · have : cls = 3 := by
          rcases hr with rfl | hr
          · simp [vbin] at hzz
          · rw [e1] at hr
            cases hr with
            | undef => simp [vbin] at hzz
            | nilI =>
              unfold vbin at hzz
              split at hzz <;> simp_all
        subst this
        exact isConst_out (by simpa using hi)
    refine OpG.value (v := v) (w' := w) (by simp [execOp, ho, hg, hv1]) ?_
    rw [hod]
    exact Goal.scalar (k := .fz) R hd rfl rfl rfl rfl hv2
end
end Go.Proofs.YtogfkdpgkloljaaDoorVs
