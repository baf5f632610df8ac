/-
  Places in rows and in variables, loads and cuts. Conditions: each lemma's own premises.
-/
import Derived.Test.YtogfkdpgkloljaaDoorVsG
set_option linter.unusedVariables false
set_option linter.unusedSimpArgs false
namespace Go.Proofs.YtogfkdpgkloljaaDoorVs
section
variable {P : Program} {w0 : World} {M : Nat → Prop} {N : Fr} {α : Al} {ν ν' : Env} {L : Lay} {a : Act} {w : World} {Φ : Funs} {o : Oper} {d : Nat} {E : Eff}

theorem true_chk {i : Nat} {asr : List (Nat × Nat)} (h : asr.all (trueAt ν) = true) (hm : (i, 0) ∈ asr) {xs : List V} (hx : ν i = xs) {x : V} (h1 : xs = [x]) : x = .bool true := by
  have := List.all_eq_true.1 h _ hm
  simp only [trueAt, hx, h1] at this
  split at this
  · rename_i e; simpa using e
  · cases this
theorem copNilCheck_ok (R : Rel P w0 M N α ν L a w) (hd : N.W d) {x : Operand} (ho : o.op = .nilCheck x) (hod : o.dst = some d) (h : RM.out α (copNilCheck P d x) E) (hv : runIs Φ E.vis ν = some ν') :
    OpG P o a w (Goal P w0 M N (E.ap α (some d)) ν') := by
  simp only [copNilCheck, out_bind] at h
  obtain ⟨s, h1, h⟩ := h
  have H := opd_ok R h1
  split at h
  · rename_i u q i hs hg
    rw [out_ok] at h; subst h
    have H' := H; rw [hs, hg] at H'
    obtain ⟨y, hy, hr⟩ := RAs.single H'
    obtain ⟨hk, _, xs, h6, rfl⟩ := viG1 (run_ins1 hv)
    have hu := unit_chk hk (List.mem_singleton.2 rfl) hy rfl
    subst hu
    obtain ⟨z, rfl, h7, h8⟩ := h6.one
    rw [hg] at h7; simp only [hy, List.getElem?_cons_zero, Option.some.injEq] at h7; subst h7
    rcases hr with hr | ⟨_, b, ro, hb, hc⟩
    · cases hr
    refine OpG.value (v := a.eval x) (w' := w) (by simp [execOp, ho, hc]) ?_
    rw [hod]
    exact Goal.plain R hd rfl rfl rfl (RSl.one (RAs.one (.inr ⟨rfl, b, ro, hb, hc⟩)))
  · rename_i u i hs hg
    rw [out_ok] at h; subst h
    have H' := H; rw [hs, hg] at H'
    obtain ⟨y, hy, hr⟩ := RAs.single H'
    obtain ⟨_, hk, xs, h6, rfl⟩ := viG1 (run_ins1 hv)
    have hu := true_chk hk (List.mem_singleton.2 rfl) hy rfl
    subst hu
    have := h6.unit; subst this
    rcases hr with hr | ⟨hr, _⟩ | ⟨_, b, ro, hb, hc⟩
    · cases hr
    · cases hr
    refine OpG.value (v := a.eval x) (w' := w) (by simp [execOp, ho, hc]) ?_
    rw [hod]
    exact Goal.plain R hd rfl rfl rfl (RSl.one (RAs.one (.inr ⟨rfl, b, ro, hb, hc⟩)))
  · rw [out_no] at h; exact h.elim
theorem copIndex_ok (R : Rel P w0 M N α ν L a w) (hd : N.W d) {x i : Operand} {t : TypeId} (ho : o.op = .index t x i) (hod : o.dst = some d) (h : RM.out α (copIndex P d t x i) E) (hv : runIs Φ E.vis ν = some ν') :
    OpG P o a w (Goal P w0 M N (E.ap α (some d)) ν') := by
  simp only [copIndex, out_bind] at h
  obtain ⟨s, h1, s', h2, k, hk, k', hk', h⟩ := h
  split at h
  · rename_i hu
    rw [out_ok] at h; subst h
    obtain ⟨p, hp, hr⟩ := opd1 R h1 hk
    obtain ⟨q, hq, hr'⟩ := opd1 R h2 hk'
    obtain ⟨_, _, z, hz, rfl⟩ := VI.inv1 (run_ins1 hv)
    simp only [List.map_cons, List.map_nil, hp, hq] at hz
    rcases hr with rfl | hr
    · cases hz
    rcases hr' with rfl | hr'
    · cases p <;> cases hz
    cases p with
    | str s' => cases q with
      | int k2 n =>
        rw [VF.sem] at hz
        split at hz
        · rename_i h0
          simp only [Option.map_eq_some_iff] at hz
          obtain ⟨b, hb, hz⟩ := hz
          cases hz
          have hc := hr.str_inv
          have hc' := hr'.int_inv
          have hb' : s'[n.toNat]? = some b := by
            obtain ⟨hlt, hb2⟩ := List.getElem?_eq_some_iff.1 hb
            have hsz : n.toNat < s'.size := by simpa using hlt
            rw [getElem?_pos s' n.toNat hsz]
            have h3 : s'.data[n.toNat] = b := by simpa using hb2
            exact congrArg some h3
          refine OpG.value (v := .int .u8 b.toNat) (w' := w) (by simp [execOp, ho, hc, hc', Instr.index, asIntOf, run_underlying hu, h0, hb']) ?_
          rw [hod]
          exact Goal.scalar (k := .fz) R hd rfl rfl rfl rfl (.int _ _)
        · cases hz
      | _ => cases hz
    | _ => cases hz
  · rw [out_no] at h; exact h.elim
theorem copMM_ok (R : Rel P w0 M N α ν L a w) (hd : N.W d) {mx : Bool} {xs : List Operand} {ts : List TypeId} (ho : o.op = .call { callee := .builtin (if mx then .max else .min), args := xs.toArray, argTypes := ts.toArray }) (hod : o.dst = some d) (h : RM.out α (copMM P d mx xs ts) E) (hv : runIs Φ E.vis ν = some ν') :
    OpG P o a w (Goal P w0 M N (E.ap α (some d)) ν') := by
  unfold copMM at h
  split at h
  · rename_i x y t u
    simp only [out_bind, out_ok] at h
    obtain ⟨s, h1, s', h2, k, hk, k', hk', rfl⟩ := h
    obtain ⟨p, hp, hr⟩ := opd1 R h1 hk
    obtain ⟨q, hq, hr'⟩ := opd1 R h2 hk'
    obtain ⟨_, _, z, hz, rfl⟩ := VI.inv1 (run_ins1 hv)
    simp only [List.map_cons, List.map_nil, hp, hq] at hz
    rcases hr with rfl | hr
    · cases mx <;> cases hz
    rcases hr' with rfl | hr'
    · cases mx <;> cases p <;> cases hz
    cases p with
    | int k1 n => cases q with
      | int k2 m =>
        have hc := hr.int_inv
        have hc' := hr'.int_inv
        cases mx with
        | true =>
          cases hz
          refine OpG.value (v := .int k1 (if n < m then m else n)) (w' := w) (by simp [execOp, ho, hc, hc', resolve, invoke, builtin, Builtin.max_, Builtin.max2]) ?_
          rw [hod]
          exact Goal.scalar (k := .fz) R hd rfl rfl rfl rfl (.int _ _)
        | false =>
          cases hz
          refine OpG.value (v := .int k1 (if m < n then m else n)) (w' := w) (by simp [execOp, ho, hc, hc', resolve, invoke, builtin, Builtin.min_, Builtin.min2]) ?_
          rw [hod]
          exact Goal.scalar (k := .fz) R hd rfl rfl rfl rfl (.int _ _)
      | _ => cases mx <;> cases hz
    | _ => cases mx <;> cases hz
  · rw [out_no] at h; exact h.elim
theorem copIface_ok (R : Rel P w0 M N α ν L a w) (hd : N.W d) {x : Operand} {t : TypeId} (ho : o.op = .makeInterface t x) (hod : o.dst = some d) (h : RM.out α (copIface P d t x) E) (hv : runIs Φ E.vis ν = some ν') :
    OpG P o a w (Goal P w0 M N (E.ap α (some d)) ν') := by
  simp only [copIface, out_bind, out_need] at h
  obtain ⟨s, h1, _, hc, h⟩ := h
  have H := opd_ok R h1
  split at h
  · rename_i hs
    rw [out_ok] at h; subst h
    rw [hs] at H
    obtain ⟨p, hp, hr⟩ := v_of H
    obtain ⟨_, _, z, hz, rfl⟩ := VI.inv1 (run_ins1 hv)
    simp only [List.map_cons, List.map_nil, hp, VF.sem, Option.some.injEq, List.cons.injEq, and_true] at hz
    subst hz
    refine OpG.value (v := .iface t (a.eval x)) (w' := w) (by simp [execOp, ho, run_makeInterface w t _ hc]) ?_
    rw [hod]
    exact Goal.scalar (k := .fz) R hd rfl rfl rfl rfl (.iface t p _ (by rcases hr with rfl | hr; exact .undef _; exact hr))
  · rw [out_no] at h; exact h.elim

/-! #### elements -/
theorem Rd.not_agg {S : Nat → Prop} {x : V} {c : Value} (h : Rd P S w x c) : ∀ ys, x ≠ .agg ys := by
  intro ys e; subst e; cases h
theorem el_of {S : Nat → Prop} {ag : Bool} {sz b p : Nat} {x : V} {f : Nat → Value} (h : RdE P S w ag sz x f) (hc : ∀ j, j < sz → w.cell? ⟨b, p + j, none⟩ = some (f j)) (hz : ag = false → sz = 1) : ElAt P S w b p x := by
  cases ag with
  | true =>
    obtain ⟨ys, rfl, hl, hr⟩ := h
    exact .inl ⟨ys, rfl, fun i hi => ⟨f i, hc i (by omega), (hr i hi).2⟩⟩
  | false =>
    have := hz rfl; subst this
    exact .inr ⟨Rd.not_agg h.2, f 0, hc 0 (by omega), h.2⟩
theorem idx_lt {i n sz j : Nat} (h : i < n) (hj : j < sz) : i * sz + j < n * sz := by
  have : (i + 1) * sz ≤ n * sz := Nat.mul_le_mul_right _ h
  rw [Nat.add_mul] at this
  omega
theorem constIx_ok {x : Operand} {j : Nat} (h : constIx x = some j) : a.eval x = .int .i64 j := by
  unfold constIx at h
  split at h
  · rename_i n
    split at h
    · rename_i hn
      cases h
      simp only [eval_const]
      congr 1
      omega
    · cases h
  · cases h
theorem copIndexAddr_ok (R : Rel P w0 M N α ν L a w) (hd : N.W d) {x i : Operand} {t : TypeId} (ho : o.op = .indexAddr t x i) (hod : o.dst = some d) (h : RM.out α (copIndexAddr P d t x i) E) (hv : runIs Φ E.vis ν = some ν') :
    OpG P o a w (Goal P w0 M N (E.ap α (some d)) ν') := by
  simp only [copIndexAddr, out_bind] at h
  obtain ⟨s, h1, h⟩ := h
  have H := opd_ok R h1
  split at h
  · rename_i e hu
    simp only [out_bind, out_need] at h
    obtain ⟨s', h2, k, hk, _, hsz, h⟩ := h
    obtain ⟨q, hq, hr'⟩ := opd1 R h2 hk
    have hu' := elem_of hu
    have he := elem_eq hu
    split at h
    · rename_i k1 hs
      rw [out_ok] at h; subst h
      rw [hs] at H
      obtain ⟨p, hp, hr⟩ := v_of H
      obtain ⟨_, _, z, hz, rfl⟩ := VI.inv1 (run_ins1 hv)
      simp only [List.map_cons, List.map_nil, hp, hq] at hz
      rcases hr with rfl | hr
      · cases hz
      rcases hr' with rfl | hr'
      · cases p <;> cases hz
      cases p with
      | list e' xs => cases q with
        | int k2 n =>
          rw [VF.sem] at hz
          split at hz
          · rename_i h0
            obtain ⟨he', hn⟩ := h0
            subst he'
            simp only [Option.map_eq_some_iff] at hz
            obtain ⟨y, hy, hz⟩ := hz
            cases hz
            obtain ⟨hlt, hy'⟩ := List.getElem?_eq_some_iff.1 hy
            obtain ⟨b, o1, cap, sz, ag, f, hc, hb, _, hrow, hf⟩ := hr.row (by intro e; rw [e] at hlt; simp at hlt)
            have hc' := hr'.int_inv
            have hn2 : n < (xs.length : Int) := by omega
            refine OpG.value (v := .pointer (some ⟨b, o1 + n.toNat * sz, none⟩)) (w' := w) (by simp [execOp, ho, hc, hc', run_indexAt_slice w t _ _ _ _ _ hu', hn, hn2, he, run_sizeOf hrow.hz, add_plain]) ?_
            rw [hod]
            refine Goal.plain R hd rfl rfl rfl (RSl.one (RAs.one (.inr ⟨b, o1 + n.toNat * sz, hb, ?_, rfl⟩)))
            have hx := hrow.hx n.toNat hlt
            rw [hy'] at hx
            refine el_of hx (fun j hj => ?_) hrow.ha
            have := hf (n.toNat * sz + j) (idx_lt hlt hj)
            rw [← this, Nat.add_assoc]
          · cases hz
        | _ => cases hz
      | _ => cases hz
    · rename_i k1 c hs hg
      rw [out_ok] at h; subst h
      rw [hs, hg] at H
      obtain ⟨p, hp, hr⟩ := RAs.single H
      obtain ⟨hck, _, z, hz, rfl⟩ := VI.inv1 (run_ins1 hv)
      have hun := unit_chk hck (List.mem_singleton.2 rfl) hp rfl
      subst hun
      rcases hr with hr | ⟨_, r, hrow, hc⟩
      · cases hr
      obtain ⟨xs, hxs, hrd⟩ := row_rd R hrow
      simp only [List.map_cons, List.map_nil, hq, get_c, hxs] at hz
      rcases hr' with rfl | hr'
      · cases hz
      cases q with
      | int k2 n =>
        rw [VF.sem] at hz
        split at hz
        · rename_i h0
          obtain ⟨he', hn, hlt⟩ := h0
          cases hz
          have hlt' : n.toNat < xs.length := by omega
          obtain ⟨b, o1, cap, sz, ag, f, hc2, hb, _, hrw, hf⟩ := hrd.row (by intro e; rw [e] at hlt'; simp at hlt')
          have hc' := hr'.int_inv
          rw [hc2] at hc
          refine OpG.value (v := .pointer (some ⟨b, o1 + n.toNat * sz, none⟩)) (w' := w) (by simp [execOp, ho, hc, hc', run_indexAt_slice w t _ _ _ _ _ hu', hn, hlt, he, ← he', run_sizeOf hrw.hz, add_plain]) ?_
          rw [hod]
          exact Goal.plain R hd rfl rfl rfl (RSl.one (RAs.one (.inr ⟨r, n.toNat, b, o1, xs.length, cap, sz, hrow, by congr 1; omega, hc2, hrw.hz, hlt', rfl⟩)))
        · cases hz
      | _ => cases hz
    · rw [out_no] at h; exact h.elim
  · rename_i len e hu
    simp only [out_bind, out_need, out_opt] at h
    obtain ⟨n, hsz, j, hj, _, hn, h⟩ := h
    simp only [Bool.and_eq_true, decide_eq_true_eq] at hn
    have hidx := constIx_ok (a := a) hj
    have hu' : P.underlying t = some (.array (P.arrayLen t) (P.elem t)) := by simp [Program.elem, Program.arrayLen, hu]
    have he : P.elem t = e := by simp [Program.elem, hu]
    have hlen : P.arrayLen t = len := by simp [Program.arrayLen, hu]
    have hrun : ∀ b q, a.eval x = .pointer (some ⟨b, q, none⟩) → (execOp a.eval o).run P w = .ok (.value (.pointer (some ⟨b, q + j * n, none⟩))) w := by
      intro b q hc
      have h1 : (j : Int) < len := by omega
      simp [execOp, ho, hc, hidx, run_indexAt_array w t _ _ _ hu', hlen, h1, he, run_sizeOf hsz, add_plain]
    split at h
    · rename_i u q hs
      rw [out_ok] at h; subst h
      have H' := H; rw [hs] at H'
      obtain ⟨y, hy, hr⟩ := RAs.single H'
      rcases hr with rfl | ⟨rfl, b, ro, hb, hc⟩
      · obtain ⟨_, _, xs, h6, _⟩ := viG1 (run_ins1 hv)
        obtain ⟨z, _, h7, h8⟩ := h6.one
        rw [hy] at h7; simp at h7; exact absurd h7.symm h8
      · exact copMoveA R hd hs H (hrun b q hc) hod hv (fun z hz hr _ hz1 => by
          rw [hy] at hz1; cases hz1
          exact .inr ⟨rfl, b, ro, hb, rfl⟩) (fun z hz => len1 (by simp) (by simp) hz)
    · rename_i k j hs
      rw [out_ok] at h; subst h
      have H' := H; rw [hs] at H'
      obtain ⟨y, hy, hr⟩ := RAs.single H'
      rcases hr with rfl | ⟨r, i, b, q, m, cap, sz, h3, rfl, h4, h5, h6, hc⟩
      · obtain ⟨_, _, xs, h6, _⟩ := viG1 (run_ins1 hv)
        obtain ⟨z, _, h7, h8⟩ := h6.one
        rw [hy] at h7; simp at h7; exact absurd h7.symm h8
      · exact copMoveA R hd hs H (hrun b _ hc) hod hv (fun z hz hr _ hz1 => by
          rw [hy] at hz1; cases hz1
          exact .inr ⟨r, i, b, q, m, cap, sz, h3, rfl, h4, h5, h6, by simp only [Nat.add_assoc]⟩) (fun z hz => len1 (by simp) (by simp) hz)
    · rename_i s1 j hs
      rw [out_ok] at h; subst h
      have H' := H; rw [hs] at H'
      obtain ⟨y, hy, hr⟩ := RAs.single H'
      rcases hr with rfl | ⟨b, q, h3, h4, hc⟩
      · obtain ⟨_, _, xs, h6, _⟩ := viG1 (run_ins1 hv)
        obtain ⟨z, _, h7, h8⟩ := h6.one
        rw [hy] at h7; simp at h7; exact absurd h7.symm h8
      · refine copMoveA R hd hs H (hrun b _ hc) hod hv (fun z hz hr _ hz1 => ?_) (fun z hz => len1 (by simp) (by simp) hz)
        rw [hy] at hz1; cases hz1
        exact .inr ⟨b, q, h3, h4, by simp only [Nat.add_assoc]⟩
    · rw [out_no] at h; exact h.elim
  · rw [out_no] at h; exact h.elim

/-! #### loads -/
theorem run_loadVar_ag {t : TypeId} {b q n : Nat} {f : Nat → Value} (hag : agT P t = some true) (hsz : szOf P t = some n) (hc : ∀ j, j < n → w.cell? ⟨b, q + j, none⟩ = some (f j)) :
    (loadVar t ⟨b, q, none⟩).run P w = .ok (.agg ((List.range n).map f).toArray) w := by
  have := run_loadCells (P := P) w ⟨b, q, none⟩ n f (fun j hj => by rw [add_plain]; exact hc j hj)
  simp [loadVar, run_isAgg hag, run_sizeOf hsz, this]
theorem run_loadVar_1 {t : TypeId} {b q : Nat} {c : Value} (hag : agT P t = some false) (hc : w.cell? ⟨b, q, none⟩ = some c) : (loadVar t ⟨b, q, none⟩).run P w = .ok c w := by
  simp [loadVar, run_isAgg hag, hc]
theorem run_load_at {t : TypeId} {x : Operand} {b q n : Nat} {ag : Bool} {f : Nat → Value} (ho : o.op = .load t x) (hx : a.eval x = .pointer (some ⟨b, q, none⟩)) (hag : agT P t = some ag) (hsz : szOf P t = some n) (h1 : ag || n == 1)
    (hc : ∀ j, j < n → w.cell? ⟨b, q + j, none⟩ = some (f j)) : (execOp a.eval o).run P w = .ok (.value (if ag then .agg ((List.range n).map f).toArray else ((List.range n).map f).headD undef)) w := by
  simp only [execOp, ho, hx, Instr.loadAt, Instr.sureAddr]
  cases ag with
  | true => simp [run_loadVar_ag hag hsz hc]
  | false =>
    have : n = 1 := by simpa using h1
    subst this
    have := hc 0 (by omega)
    simp only [Nat.add_zero] at this
    simp [run_loadVar_1 hag this]
theorem leafAts_ok {s : Src} {t : TypeId} {as : List At} (h : leafAts P s t = some as) : ∀ at1 ∈ as, at1 = .v s ∨ at1 = .v .fz := by
  have go : ∀ (l : List TypeId) (as : List At), l.mapM (leafAt P s) = some as → ∀ at1 ∈ as, at1 = .v s ∨ at1 = .v .fz := by
    intro l
    induction l with
    | nil => intro as h; simp only [List.mapM_nil] at h; cases h; simp
    | cons x r ih =>
      intro as h
      simp only [List.mapM_cons, Option.bind_eq_bind, Option.bind_eq_some_iff, Option.pure_def, Option.some.injEq] at h
      obtain ⟨y, hy, l', hl, rfl⟩ := h
      intro a1 ha
      rcases List.mem_cons.1 ha with rfl | ha
      · unfold leafAt at hy
        split at hy <;> first | (cases hy; exact .inr rfl) | (cases hy; exact .inl rfl) | (cases hy; done)
      · exact ih l' hl a1 ha
  simp only [leafAts, Option.bind_eq_some_iff] at h
  obtain ⟨l, _, h⟩ := h
  exact go l as h
theorem Rd.scalar {S S' : Nat → Prop} {w' : World} {x : V} {c : Value} (h : Rd P S w x c) (hs : scalarV x = true) : Rd P S' w' x c := by
  cases h <;> first | (simp [scalarV] at hs; done) | constructor
theorem maskOk_get : ∀ {m : List Bool} {zs : List V}, maskOk m zs = true → ∀ (i : Nat), m[i]? = some true → ∀ (z : V), zs[i]? = some z → scalarV z = true
  | [], zs, h, i, hi, z, hz => by simp at hi
  | b :: m, [], h, i, hi, z, hz => by simp at hz
  | b :: m, y :: zs, h, i, hi, z, hz => by
    cases i with
    | zero =>
      simp only [List.getElem?_cons_zero, Option.some.injEq] at hi hz
      subst hi; subst hz
      simp only [maskOk, Bool.and_eq_true] at h
      exact h.1
    | succ i =>
      simp only [List.getElem?_cons_succ] at hi hz
      have h' : maskOk m zs = true := by cases b <;> simp [maskOk] at h <;> simp [h]
      exact maskOk_get h' i hi z hz
/-- a part of an element: values and cells -/
theorem vsub_el {S : Nat → Prop} {b p j n : Nat} {ag : Bool} {x : V} {zs : List V} (h : vsub j n ag x = some zs) (hel : ElAt P S w b p x) : zs.length = n ∧ ∃ f : Nat → Value, (∀ i, i < n → w.cell? ⟨b, p + j + i, none⟩ = some (f i)) ∧ ∀ i (hi : i < zs.length), Rd P S w zs[i] (f i) := by
  unfold vsub at h
  split at h
  · rename_i ys
    split at h
    · rename_i hl
      cases h
      rcases hel with ⟨ys', hy, H⟩ | ⟨h1, _⟩
      · injection hy with hy; subst hy
        refine ⟨by simp; omega, fun i => (w.cell? ⟨b, p + j + i, none⟩).getD undef, fun i hi => ?_, fun i hi => ?_⟩
        · obtain ⟨c, hc, _⟩ := H (j + i) (by omega)
          rw [← Nat.add_assoc] at hc
          simp [hc]
        · simp only [List.length_take, List.length_drop] at hi
          obtain ⟨c, hc, hr⟩ := H (j + i) (by omega)
          rw [← Nat.add_assoc] at hc
          simpa [hc] using hr
      · exact absurd rfl (h1 ys)
    · cases h
  · cases h
  · rename_i hna _
    split at h
    · rename_i hj
      obtain ⟨rfl, rfl, _⟩ := hj
      cases h
      rcases hel with ⟨ys', hy, H⟩ | ⟨_, c, hc, hr⟩
      · exact absurd hy (hna ys')
      · refine ⟨rfl, fun _ => c, fun i hi => ?_, fun i hi => ?_⟩
        · have : i = 0 := by omega
          subst this; exact hc
        · have : i = 0 := by simpa using hi
          subst this; exact hr
    · cases h
theorem mkSh_val {ag : Bool} {as : List At} {h : Sh} {xs : List V} {n : Nat} {f : Nat → Value} (hm : mkSh ag as = some h) (hn : as.length = n) (hx : xs.length = n) (H : ∀ i (h0 : i < as.length) (h1 : i < xs.length), RA P L w as[i] xs[i] (f i)) :
    RSl P L w h xs (if ag then .agg ((List.range n).map f).toArray else ((List.range n).map f).headD undef) :=
  mkSh_ok hm ⟨by simp [hn], by omega, fun i h0 h1 h2 => by simpa using H i h0 h1⟩
theorem sub_agg (ag : Bool) {x : V} {j n : Nat} {zs : List V} (h : vsub j n ag x = some zs) : True := trivial
theorem copLoad_ok (R : Rel P w0 M N α ν L a w) (hd : N.W d) {x : Operand} {t : TypeId} (ho : o.op = .load t x) (hod : o.dst = some d) (h : RM.out α (copLoad P d t x) E) (hv : runIs Φ E.vis ν = some ν') :
    OpG P o a w (Goal P w0 M N (E.ap α (some d)) ν') := by
  simp only [copLoad, out_bind, out_opt] at h
  obtain ⟨s, h1, n, hsz, ag, hag, h⟩ := h
  have H := opd_ok R h1
  split at h
  · rename_i u off i hs hg
    simp only [out_bx, out_bind, out_opt, out_need, out_ok, Bool.and_eq_true, decide_eq_true_eq] at h
    obtain ⟨bx, hbx, _, ⟨hle, h11⟩, hh, hm, rfl⟩ := h
    rw [hs, hg] at H
    obtain ⟨y, hy, hr⟩ := RAs.single H
    obtain ⟨hk, _, xs, hx, rfl⟩ := viG1 (run_ins1 hv)
    have hun := unit_chk hk (List.mem_singleton.2 rfl) hy rfl
    subst hun
    rcases hr with hr | ⟨_, b, ro, hb, hc⟩
    · cases hr
    obtain ⟨C, ty, fz, hhp, _, hra⟩ := ((R.boxes u b ro hb bx hbx).2).cells
    have hxs : xs = ((ν (bC u)).drop off).take n := by
      rcases hx.range with ⟨h, _⟩ | ⟨h0, rfl⟩
      · exact h
      · rw [h0]; simp
    subst hxs
    have hsub := hra.sub off n hle
    have hcl : bx.as.length = C.size := by simpa using hra.1
    have hcell : ∀ j, j < n → w.cell? ⟨b, off + j, none⟩ = some (C.getD (off + j) undef) := by
      intro j hj
      have : off + j < C.size := by omega
      simp [World.cell?, hhp, this]
    refine OpG.value (run_load_at ho hc hag hsz h11 hcell) ?_
    rw [hod]
    refine Goal.plain R hd rfl rfl rfl (mkSh_val hm (by simp; omega) (by simp [hra.2.1]; omega) (fun i h0 h1' => ?_))
    simp only [List.length_take, List.length_drop] at h0 h1'
    have := hsub.2.2 i (by simp; omega) (by simp; omega) (by simp; omega)
    have hlt : off + i < C.size := by omega
    simpa [hlt] using this
  · rename_i k j i hs hg
    simp only [out_bind, out_opt, out_need, out_ok, Bool.and_eq_true, beq_iff_eq] at h
    obtain ⟨as, has, _, ⟨hlen, h11⟩, hh, hm, rfl⟩ := h
    rw [hs, hg] at H
    obtain ⟨y, hy, hr⟩ := RAs.single H
    obtain ⟨_, _, z, hz, rfl⟩ := VI.inv1 (run_ins1 hv)
    simp only [List.map_cons, List.map_nil, get_c] at hz
    rw [get_c] at hy
    rw [hy] at hz
    rcases hr with rfl | ⟨r, m, b, q, nn, cap, sz, hrow, rfl, hval, hsze, hlt, hc⟩
    · cases hz
    obtain ⟨xs, hxs, Hr⟩ := R.rows k r hrow
    rw [hxs] at hz
    rw [VF.sem] at hz
    split at hz
    · simp only [Option.bind_eq_some_iff, Option.map_eq_some_iff] at hz
      obtain ⟨el, hel, zs, hzs, hz⟩ := hz
      cases hz
      rcases Hr with ⟨h3, _⟩ | ⟨b', o', cap', sz', ag', C, fz, HR⟩
      · rw [h3] at hval; cases hval
      · rw [HR.hv] at hval
        cases hval
        have : sz' = sz := by have := HR.rd.hz; rw [hsze] at this; exact (Option.some.inj this).symm
        subst this
        have hlt2 : m < xs.length := hlt
        have hel2 : xs[m] = el := by simpa [List.getElem?_eq_getElem hlt2] using hel
        have hE := HR.rd.hx m hlt2
        rw [hel2] at hE
        have hat : ElAt P L.F w b (q + m * sz') el := el_of hE (fun jj hjj => by
          have h5 : q + (m * sz' + jj) < C.size := by
            have h6 := HR.hs
            have h7 := idx_lt (n := xs.length) hlt2 hjj
            have h8 : xs.length * sz' ≤ cap * sz' := Nat.mul_le_mul_right _ HR.hc
            omega
          rw [Nat.add_assoc]
          simp [World.cell?, HR.hh, h5]) HR.rd.ha
        obtain ⟨hzl, f, hf, hrd⟩ := vsub_el hzs hat
        refine OpG.value (run_load_at ho hc hag hsz (by simpa using h11) (f := f) hf) ?_
        rw [hod]
        refine Goal.plain R hd rfl rfl rfl (mkSh_val hm hlen hzl (fun i h0 h1' => ?_))
        have := leafAts_ok has as[i] (List.getElem_mem h0)
        have e : as[i] = .v .fz := by rcases this with h | h <;> exact h
        rw [e]
        exact .inr (hrd i h1')
    · cases hz
  · rename_i s1 j i hs hg
    simp only [out_bind, out_opt, out_need, out_ok, Bool.and_eq_true, beq_iff_eq] at h
    obtain ⟨as, has, _, ⟨hlen, h11⟩, hh, hm, rfl⟩ := h
    rw [hs, hg] at H
    obtain ⟨y, hy, hr⟩ := RAs.single H
    obtain ⟨_, _, z, hz, rfl⟩ := VI.inv1 (run_ins1 hv)
    simp only [List.map_cons, List.map_nil, get_c] at hz
    rw [get_c] at hy
    rw [hy] at hz
    rw [VF.sem] at hz
    simp only [Option.bind_eq_some_iff] at hz
    obtain ⟨zs, hzs, hz⟩ := hz
    by_cases hmask : maskOk (if s1 = Src.fz then [] else as.map (· == At.v Src.fz)) zs = true
    · rw [if_pos hmask] at hz
      cases hz
      rcases hr with rfl | ⟨b, q, hb, hel, hc⟩
      · cases hzs
      · obtain ⟨hzl, f, hf, hrd⟩ := vsub_el hzs hel
        refine OpG.value (run_load_at ho hc hag hsz (by simpa using h11) (f := f) hf) ?_
        rw [hod]
        refine Goal.plain R hd rfl rfl rfl (mkSh_val hm hlen hzl (fun i h0 h1' => ?_))
        rcases leafAts_ok has as[i] (List.getElem_mem h0) with e | e
        · rw [e]; exact .inr (hrd i h1')
        · rw [e]
          by_cases hs1 : s1 = .fz
          · subst hs1; exact .inr (hrd i h1')
          · rw [if_neg hs1] at hmask
            refine .inr ((hrd i h1').scalar (maskOk_get hmask i ?_ _ (List.getElem?_eq_getElem h1')))
            simp [List.getElem?_eq_getElem h0, e]
    · rw [if_neg hmask] at hz
      cases hz
  · rw [out_no] at h; exact h.elim
end
end Go.Proofs.YtogfkdpgkloljaaDoorVs
