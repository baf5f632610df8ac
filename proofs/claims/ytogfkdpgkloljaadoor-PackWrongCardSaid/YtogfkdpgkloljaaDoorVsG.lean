/-
  Reads of rows, of variables in memory, and the rest of what makes no memory. Conditions: each lemma's own premises.
-/
import Derived.Test.YtogfkdpgkloljaaDoorVsF
set_option linter.unusedVariables false
set_option linter.unusedSimpArgs false
namespace Go.Proofs.YtogfkdpgkloljaaDoorVs
section
variable {P : Program} {w0 : World} {M : Nat → Prop} {N : Fr} {α : Al} {ν ν' : Env} {L : Lay} {a : Act} {w : World} {Φ : Funs} {o : Oper} {d : Nat} {E : Eff}

theorem srcMeet_le (R : Rel P w0 M N α ν L a w) {s1 s2 s : Src} (h : srcMeet s1 s2 = some s) : (∀ b, L.src s1 b → L.src s b) ∧ (∀ b, L.src s2 b → L.src s b) := by
  unfold srcMeet at h
  split at h
  · cases h; exact ⟨fun _ h => h, fun _ h => h⟩
  · cases h; exact ⟨R.fs, fun _ h => h⟩
  · cases h; exact ⟨fun _ h => h, R.fs⟩
  · cases h; exact ⟨fun _ h => h, fun _ h => h⟩
  · split at h
    · rename_i e; cases h; subst e; exact ⟨fun _ h => h, fun _ h => h⟩
    · cases h
  · cases h
theorem copPick_ok (R : Rel P w0 M N α ν L a w) (hd : N.W d) {c x y : Operand} {t : TypeId} (ho : o.op = .pick c x y) (hod : o.dst = some d) (h : RM.out α (copPick P d c x y t) E) (hv : runIs Φ E.vis ν = some ν') :
    OpG P o a w (Goal P w0 M N (E.ap α (some d)) ν') := by
  simp only [copPick, out_bind, out_ok, out_opt] at h
  obtain ⟨sc, h1, sx, h2, sy, h3, k1, h4, k2, h5, k3, h6, k, h7, rfl⟩ := h
  obtain ⟨p, hp, hr⟩ := opd1 R h1 h4
  obtain ⟨q, hq, hr'⟩ := opd1 R h2 h5
  obtain ⟨q', hq', hr''⟩ := opd1 R h3 h6
  obtain ⟨hm1, hm2⟩ := srcMeet_le R h7
  obtain ⟨_, _, z, hz, rfl⟩ := VI.inv1 (run_ins1 hv)
  simp only [List.map_cons, List.map_nil, hp, hq, hq'] at hz
  cases p with
  | bool b =>
    rcases hr with hr | hr
    · cases hr
    have hc := hr.bool_inv
    simp only [VF.sem, Option.some.injEq, List.cons.injEq, and_true] at hz
    subst hz
    refine OpG.value (v := if b then a.eval x else a.eval y) (w' := w) (by simp [execOp, ho, hc, asBool]) ?_
    rw [hod]
    cases b with
    | true => exact Goal.plain R hd rfl rfl rfl (RSl.one (RAs.one (by rcases hr' with h | h; exact .inl h; exact .inr (h.mono hm1 (fun _ _ => rfl)))))
    | false => exact Goal.plain R hd rfl rfl rfl (RSl.one (RAs.one (by rcases hr'' with h | h; exact .inl h; exact .inr (h.mono hm2 (fun _ _ => rfl)))))
  | _ => cases hz

/-! #### a row's value -/
theorem src_of {t : Nat} {r : Row} {b : Nat} (h : L.row t = some r) (hb : r.blk = some b) : L.src (.of t) b := .inr ⟨r, h, hb⟩
theorem of_le (R : Rel P w0 M N α ν L a w) (t : Nat) : ∀ b, L.F b → L.src (.of t) b := fun b h => .inl (R.fs b h)
theorem row_rd (R : Rel P w0 M N α ν L a w) {t : Nat} {r : Row} (h : L.row t = some r) : ∃ xs, ν (tC t) = [.list r.e xs] ∧ Rd P (L.src (.of t)) w (.list r.e xs) r.val := by
  obtain ⟨xs, hx, H⟩ := R.rows t r h
  refine ⟨xs, hx, ?_⟩
  rcases H with ⟨h1, rfl⟩ | ⟨b, o, cap, sz, ag, C, fz, H⟩
  · rw [h1]; exact .nil _ _ _
  · rw [H.hv]
    refine Rd.of_row (H.rd.mono (of_le R t) (fun _ _ => rfl)) b o cap (src_of h (by rw [Row.blk, H.hv]; rfl)) H.hc (fun i hi => ?_)
    have : o + i < C.size := by
      have h1 := H.hs
      have h2 : xs.length * sz ≤ cap * sz := Nat.mul_le_mul_right _ H.hc
      omega
    simp [World.cell?, H.hh, this]
theorem cont_ok (R : Rel P w0 M N α ν L a w) {s : Seg} {c : Value} {g : VArg} {k : Src} {chk : List (Nat × Nat)} (h : RSl P L w s.sh (s.arg.get ν) c) (hc : cont s = some (g, k, chk)) (hk : chk.all (unitAt ν) = true) :
    ∃ x, g.get ν = [x] ∧ (x = .undef ∨ Rd P (L.src k) w x c) := by
  obtain ⟨sh, arg⟩ := s
  cases sh with
  | one a1 => cases a1 with
    | v k' => cases hc; exact v_of h
    | nils =>
      cases hc
      obtain ⟨x, hx, hr⟩ := RAs.single h
      refine ⟨x, hx, ?_⟩
      rcases hr with hr | ⟨rfl, e, rfl⟩
      · exact .inl hr
      · exact .inr (.nil e _ _)
    | own t => cases arg with
      | c i =>
        cases hc
        obtain ⟨x, hx, hr⟩ := RAs.single h
        have hu := unit_chk hk (List.mem_singleton.2 rfl) hx rfl
        subst hu
        rcases hr with hr | ⟨_, r, hr, rfl⟩
        · cases hr
        obtain ⟨xs, hxs, H⟩ := row_rd R hr
        exact ⟨_, hxs, .inr H⟩
      | lit vs => cases hc
    | _ => cases hc
  | _ => cases hc

/-! #### lengths, conversions, strings -/
theorem elem_of {t e : TypeId} (h : P.underlying t = some (.slice e)) : P.underlying t = some (.slice (P.elem t)) := by simp [Program.elem, h]
theorem elem_eq {t e : TypeId} (h : P.underlying t = some (.slice e)) : P.elem t = e := by simp [Program.elem, h]
theorem copLen_ok (R : Rel P w0 M N α ν L a w) (hd : N.W d) {x : Operand} {t : TypeId} (ho : o.op = .call { callee := .builtin .len, args := #[x], argTypes := #[t] }) (hod : o.dst = some d) (h : RM.out α (copLen P d x t) E) (hv : runIs Φ E.vis ν = some ν') :
    OpG P o a w (Goal P w0 M N (E.ap α (some d)) ν') := by
  simp only [copLen, out_bind] at h
  obtain ⟨s, h1, h⟩ := h
  split at h
  · rename_i hu
    simp only [out_bind, out_ok] at h
    obtain ⟨k, hk, rfl⟩ := h
    obtain ⟨p, hp, hr⟩ := opd1 R h1 hk
    obtain ⟨_, _, z, hz, rfl⟩ := VI.inv1 (run_ins1 hv)
    simp only [List.map_cons, List.map_nil, hp] at hz
    rcases hr with rfl | hr
    · cases hz
    cases p with
    | str s' =>
      rw [VF.sem] at hz; cases hz
      have hc := hr.str_inv
      refine OpG.value (v := goInt s'.size) (w' := w) (by simp [execOp, ho, resolve, invoke, builtin, hc, Builtin.len_, run_underlying hu]) ?_
      rw [hod]
      exact Goal.scalar (k := .fz) R hd rfl rfl rfl rfl (.int _ _)
    | _ => cases hz
  · rename_i e hu
    simp only [out_bind, out_opt, out_ok] at h
    obtain ⟨⟨g, k, chk⟩, hc, rfl⟩ := h
    obtain ⟨hk, _, z, hz, rfl⟩ := VI.inv1 (run_ins1 hv)
    obtain ⟨p, hp, hr⟩ := cont_ok R (opd_ok R h1) hc hk
    simp only [List.map_cons, List.map_nil, hp] at hz
    rcases hr with rfl | hr
    · cases hz
    cases p with
    | list e' xs =>
      rw [VF.sem] at hz; cases hz
      obtain ⟨a1, cap, hc⟩ := hr.slice
      refine OpG.value (v := goInt xs.length) (w' := w) (by simp [execOp, ho, resolve, invoke, builtin, hc, Builtin.len_, run_underlying hu]) ?_
      rw [hod]
      exact Goal.scalar (k := .fz) R hd rfl rfl rfl rfl (.int _ _)
    | _ => cases hz
  · rw [out_no] at h; exact h.elim
theorem nums_of {e : TypeId} : ∀ {xs : List V} {ns : List Int}, xs.mapM numOf = some ns → xs = ns.map (V.int .u8)
  | [], ns, h => by simp only [List.mapM_nil] at h; cases h; rfl
  | x :: r, ns, h => by
    simp only [List.mapM_cons, Option.bind_eq_bind, Option.bind_eq_some_iff, Option.pure_def, Option.some.injEq] at h
    obtain ⟨y, hy, l, hl, rfl⟩ := h
    have := nums_of (e := e) hl
    subst this
    unfold numOf at hy
    split at hy
    · cases hy; rfl
    · cases hy
theorem copConv_ok (R : Rel P w0 M N α ν L a w) (hd : N.W d) {s t : TypeId} {x : Operand} (ho : o.op = .convert s t x) (hod : o.dst = some d) (h : RM.out α (copConv P d s t x) E) (hv : runIs Φ E.vis ν = some ν')
    (hn : ∀ e, P.underlying s = some .string → P.underlying t = some (.slice e) → OpG P o a w (Goal P w0 M N (E.ap α (some d)) ν')) :
    OpG P o a w (Goal P w0 M N (E.ap α (some d)) ν') := by
  simp only [copConv, out_bind] at h
  obtain ⟨sx, h1, h⟩ := h
  split at h
  · rename_i k0 k hs ht
    simp only [out_bind, out_ok] at h
    obtain ⟨k1, hk, rfl⟩ := h
    obtain ⟨p, hp, hr⟩ := opd1 R h1 hk
    obtain ⟨_, _, z, hz, rfl⟩ := VI.inv1 (run_ins1 hv)
    simp only [List.map_cons, List.map_nil, hp] at hz
    rcases hr with rfl | hr
    · cases hz
    cases p with
    | int k2 n =>
      rw [VF.sem] at hz; cases hz
      have hc := hr.int_inv
      refine OpG.value (v := .int k (k.wrap n)) (w' := w) (by simp [execOp, ho, hc, convert, run_underlying hs, run_underlying ht, Conv.intToInt]) ?_
      rw [hod]
      exact Goal.scalar (k := .fz) R hd rfl rfl rfl rfl (.int _ _)
    | _ => cases hz
  · rename_i hs ht
    simp only [out_bind, out_ok] at h
    obtain ⟨k1, hk, rfl⟩ := h
    obtain ⟨p, hp, hr⟩ := opd1 R h1 hk
    obtain ⟨_, _, z, hz, rfl⟩ := VI.inv1 (run_ins1 hv)
    simp only [List.map_cons, List.map_nil, hp] at hz
    rcases hr with rfl | hr
    · cases hz
    cases p with
    | str s' =>
      rw [VF.sem] at hz; cases hz
      refine OpG.value (v := .string s') (w' := w) (by simp [execOp, ho, hr.str_inv, convert, run_underlying hs, run_underlying ht]) ?_
      rw [hod]
      exact Goal.scalar (k := .fz) R hd rfl rfl rfl rfl (.str _)
    | _ => cases hz
  · rename_i e hs ht
    simp only [out_bind, out_opt, out_need, out_ok] at h
    obtain ⟨⟨g, k, chk⟩, hc, _, he, _, hz1, rfl⟩ := h
    obtain ⟨hk, _, z, hz, rfl⟩ := VI.inv1 (run_ins1 hv)
    obtain ⟨p, hp, hr⟩ := cont_ok R (opd_ok R h1) hc hk
    simp only [List.map_cons, List.map_nil, hp] at hz
    have he' : P.underlying e = some (.int .u8) := by split at he <;> simp_all
    rcases hr with rfl | hr
    · cases hz
    cases p with
    | list e' xs =>
      simp only [VF.sem, Option.map_eq_some_iff] at hz
      obtain ⟨ns, hns, hz⟩ := hz
      cases hz
      have hxs := nums_of (e := e) hns
      subst hxs
      have hrun : (convert s t (a.eval x)).run P w = .ok (.string (strOfNums ns)) w := by
        by_cases hnil : ns = []
        · subst hnil
          obtain ⟨a1, cap, hc2⟩ := hr.slice
          rw [hc2]
          simp only [List.map_nil, List.length_nil]
          cases a1 with
          | none => rw [run_convert_bytes_nil w s e hs he' 0 cap t ht]; rfl
          | some ad =>
            rw [run_convert_bytes_string w s t e _ 0 cap hs he' ht]
            rw [run_bytesToString w ad 0 cap [] (by simp [loadCells, loadCellsFrom])]
            rfl
        · obtain ⟨b, o1, cap, sz, ag, f, hc2, _, _, hrow, hf⟩ := hr.row (by simpa using hnil)
          rw [hc2]
          cases ag with
          | true =>
            cases ns with
            | nil => exact absurd rfl hnil
            | cons n r => obtain ⟨ys, hy, _⟩ := hrow.hx 0 (by simp); simp at hy
          | false =>
            have := hrow.ha rfl; subst this
            have hlen : (ns.map (V.int .u8)).length = ns.length := by simp
            rw [hlen]
            refine run_convert_bytes_arg w s e hs he' b o1 ns.length cap ns rfl (fun i hi => ?_) t ht
            rw [hf i (by simpa using hi)]
            have h3 : Rd P _ w _ _ := (show _ ∧ _ from hrow.hx i (by simpa using hi)).2
            simp only [List.getElem_map, Nat.mul_one, Nat.add_zero] at h3
            rw [h3.int_inv]
            simp [List.getD, List.getElem?_eq_getElem hi]
      refine OpG.value (v := .string (strOfNums ns)) (w' := w) (by simp [execOp, ho, hrun]) ?_
      rw [hod]
      exact Goal.scalar (k := .fz) R hd rfl rfl rfl rfl (.str _)
    | _ => cases hz
  · rename_i e hs ht
    exact hn e hs ht
  · rw [out_no] at h; exact h.elim

/-! #### parts of values -/
theorem RAs.sub {as : List At} {xs : List V} {cs : List Value} (h : RAs P L w as xs cs) (off n : Nat) (hn : off + n ≤ as.length) : RAs P L w ((as.drop off).take n) ((xs.drop off).take n) ((cs.drop off).take n) := by
  obtain ⟨h1, h2, h3⟩ := h
  refine ⟨by simp; omega, by simp; omega, fun i h0 h1' h2' => ?_⟩
  simp only [List.getElem_take, List.getElem_drop]
  simp only [List.length_take, List.length_drop] at h0
  exact h3 (off + i) (by omega) (by omega) (by omega)
theorem mkSh_ok {ag : Bool} {as : List At} {h : Sh} {xs : List V} {cs : List Value} (hm : mkSh ag as = some h) (H : RAs P L w as xs cs) : RSl P L w h xs (if ag then .agg cs.toArray else cs.headD undef) := by
  unfold mkSh at hm
  cases ag with
  | true => cases hm; exact ⟨cs.toArray, by simp, by simpa using H⟩
  | false =>
    simp only [Bool.false_eq_true, if_false] at hm ⊢
    split at hm
    · cases hm
      obtain ⟨c, rfl⟩ := List.length_eq_one_iff.1 (H.1.symm.trans (by simp))
      exact RSl.one H
    · cases hm
theorem RParts.nth : ∀ {ps : List (Bool × List At)} {xs : List V} {cs : List Value}, RParts P L w ps xs cs → ∀ (i : Nat) {p : Bool × List At}, ps[i]? = some p → ∃ c, cs[i]? = some c ∧ RPart P L w p ((xs.drop ((ps.take i).map (·.2.length)).sum).take p.2.length) c ∧ ((ps.take i).map (·.2.length)).sum + p.2.length ≤ xs.length
  | [], xs, cs, h, i, p, hp => by simp at hp
  | q :: ps, xs, cs, ⟨x1, x2, c, c2, hxs, hcs, h1, h2⟩, i, p, hp => by
    subst hxs; subst hcs
    have hlen : x1.length = q.2.length := by
      unfold RPart at h1
      split at h1
      · obtain ⟨_, _, h⟩ := h1; exact h.2.1
      · exact h1.2.1
    cases i with
    | zero =>
      simp only [List.getElem?_cons_zero, Option.some.injEq] at hp
      subst hp
      refine ⟨c, rfl, ?_, by simp [hlen]⟩
      have : ((x1 ++ x2).drop ((List.take 0 (q :: ps)).map (·.2.length)).sum).take q.2.length = x1 := by
        simp only [List.take_zero, List.map_nil, List.sum_nil, List.drop_zero]
        rw [← hlen, List.take_left]
      rw [this]; exact h1
    | succ i =>
      simp only [List.getElem?_cons_succ] at hp
      obtain ⟨c', h3, h4, h5⟩ := RParts.nth h2 i hp
      refine ⟨c', by simpa using h3, ?_, by simp only [List.take_succ_cons, List.map_cons, List.sum_cons, List.length_append]; omega⟩
      have : (x1 ++ x2).drop ((List.take (i + 1) (q :: ps)).map (·.2.length)).sum = x2.drop ((ps.take i).map (·.2.length)).sum := by
        simp only [List.take_succ_cons, List.map_cons, List.sum_cons, ← hlen]
        rw [← List.drop_drop, List.drop_left]
      rw [this]; exact h4
theorem RPart.sh {p : Bool × List At} {h : Sh} {xs : List V} {c : Value} (hm : mkSh p.1 p.2 = some h) (H : RPart P L w p xs c) : RSl P L w h xs c := by
  obtain ⟨b, as⟩ := p
  cases b with
  | true =>
    obtain ⟨cs, rfl, h1⟩ := H
    have := mkSh_ok hm h1
    simpa using this
  | false =>
    have := mkSh_ok hm (show RAs P L w as xs [c] from H)
    simpa using this
theorem opd_len {x : Operand} {ty : TypeId} {s : Seg} (h : RM.out α (opd P x ty) s) : True := trivial
theorem copExtract_ok (R : Rel P w0 M N α ν L a w) (hd : N.W d) {x : Operand} {i : Nat} (ho : o.op = .extract x i) (hod : o.dst = some d) (h : RM.out α (copExtract P d x i) E) (hv : runIs Φ E.vis ν = some ν') :
    OpG P o a w (Goal P w0 M N (E.ap α (some d)) ν') := by
  simp only [copExtract, out_bind] at h
  obtain ⟨s, h1, h⟩ := h
  have H := opd_ok R h1
  split at h
  · rename_i ps hs
    simp only [out_bind, out_opt, out_ok] at h
    obtain ⟨p, hp, hh, hm, rfl⟩ := h
    rw [hs] at H
    obtain ⟨cs, hc, hps⟩ := H
    obtain ⟨c, hci, hpart, hle⟩ := hps.nth i hp
    obtain ⟨_, _, xs, hx, rfl⟩ := viG1 (run_ins1 hv)
    have hxs : xs = ((s.arg.get ν).drop ((ps.take i).map (·.2.length)).sum).take p.2.length := by
      rcases hx.range with ⟨h, _⟩ | ⟨h0, rfl⟩
      · exact h
      · rw [h0]; simp
    subst hxs
    have hci' : cs[i]? = some c := by simpa using hci
    refine OpG.value (v := c) (w' := w) (by simp [execOp, ho, hc, Instr.extract, hci']) ?_
    rw [hod]
    exact Goal.plain R hd rfl rfl rfl (RPart.sh hm hpart)
  · rw [out_no] at h; exact h.elim
theorem fieldOf_ok {t : TypeId} {f off n : Nat} {ag : Bool} (h : fieldOf P t f = some (off, n, ag)) : ∃ fs g, P.underlying t = some (.struct fs) ∧ fs[f]? = some g ∧ szOf P g.type = some n ∧ agT P g.type = some ag ∧ g.offset = off := by
  unfold fieldOf at h
  split at h
  · rename_i fs hu
    simp only [Option.bind_eq_some_iff, Option.map_eq_some_iff, Prod.mk.injEq] at h
    obtain ⟨g, hg, m, hm, b, hb, rfl, rfl, rfl⟩ := h
    exact ⟨fs, g, hu, hg, hm, hb, rfl⟩
  · cases h
theorem run_isAgg {t : TypeId} {b : Bool} (h : agT P t = some b) : (isAgg t).run P w = .ok b w := by
  unfold agT at h
  unfold isAgg
  split at h
  · rename_i fs hu; cases h; simp [run_underlying hu]
  · rename_i n e hu; cases h; simp [run_underlying hu]
  · rename_i dd h1 h2 hu
    cases h
    simp only [Sem.run_bind, run_underlying hu, Result.andThen_ok]
    rfl
  · cases h
theorem run_sizeOf {t : TypeId} {n : Nat} (h : szOf P t = some n) : (sizeOf t).run P w = .ok n w := by
  simp only [szOf, Option.map_eq_some_iff] at h
  obtain ⟨i, hi, rfl⟩ := h
  simp [sizeOf, typeInfo, hi]
theorem copField_ok (R : Rel P w0 M N α ν L a w) (hd : N.W d) {x : Operand} {t : TypeId} {f : Nat} (ho : o.op = .field t x f) (hod : o.dst = some d) (h : RM.out α (copField P d t x f) E) (hv : runIs Φ E.vis ν = some ν') :
    OpG P o a w (Goal P w0 M N (E.ap α (some d)) ν') := by
  simp only [copField, out_bind] at h
  obtain ⟨s, h1, h⟩ := h
  have H := opd_ok R h1
  split at h
  · rename_i as hs
    simp only [out_bind, out_opt, out_need, out_ok] at h
    obtain ⟨⟨off, n, ag⟩, hf, _, hle, hh, hm, rfl⟩ := h
    simp only [decide_eq_true_eq] at hle
    rw [hs] at H
    obtain ⟨cs, hc, has⟩ := H
    obtain ⟨fs, g, hu, hg, hsz, hag, hoff⟩ := fieldOf_ok hf
    obtain ⟨_, _, xs, hx, rfl⟩ := viG1 (run_ins1 hv)
    have hxs : xs = ((s.arg.get ν).drop off).take n := by
      rcases hx.range with ⟨h, _⟩ | ⟨h0, rfl⟩
      · exact h
      · simp only at h0; rw [h0]; simp
    subst hxs
    have hsub := has.sub off n hle
    have hcl : as.length = cs.size := by simpa using has.1
    have hrun : (execOp a.eval o).run P w = .ok (.value (if ag then .agg ((cs.toList.drop off).take n).toArray else ((cs.toList.drop off).take n).headD undef)) w := by
      simp only [execOp, ho, Instr.field, Sem.run_bind, run_underlying hu, Result.andThen_ok, hg, hc, asAgg, Sem.run_pure, part, run_isAgg hag, hoff]
      cases ag with
      | true =>
        simp only [if_true, Sem.run_bind, run_sizeOf hsz, Result.andThen_ok, Sem.run_pure]
        congr 3
        apply Array.ext'
        simp [List.take_drop, List.extract_eq_take_drop]
      | false =>
        have : n = 1 := by
          unfold mkSh at hm
          simp only [Bool.false_eq_true, if_false] at hm
          split at hm
          · rename_i a1 e
            have := congrArg List.length e
            simp at this
            omega
          · cases hm
        subst this
        have hlt : off < cs.size := by omega
        simp [hlt, List.take_one, List.head?_drop, List.headD]
    refine OpG.value hrun ?_
    rw [hod]
    exact Goal.plain R hd rfl rfl rfl (mkSh_ok hm hsub)
  · rw [out_no] at h; exact h.elim

/-! #### places -/
theorem add_plain (b o n : Nat) : (⟨b, o, none⟩ : Addr).add n = ⟨b, o + n, none⟩ := by
  unfold Addr.add
  split
  · rename_i h; subst h; rfl
  · rfl
theorem copMoveA (R : Rel P w0 M N α ν L a w) (hd : N.W d) {s : Seg} {at1 at2 : At} {c v : Value} {chk : List (Nat × Nat)} (hs : s.sh = .one at1) (hx : RSl P L w s.sh (s.arg.get ν) c)
    (hrun : (execOp a.eval o).run P w = .ok (.value v) w) (hod : o.dst = some d) (hv : runIs Φ [viG [(sC d, [(s.arg, 0)])] chk []] ν = some ν')
    (hn : ∀ x, x ≠ V.undef → (RA P L w at1 x c) → chk.all (unitAt ν) = true → (s.arg.get ν) = [x] → RA P L w at2 x v) (hl : ∀ x, RSl P L w (.one at1) x c → x.length = 1) :
    OpG P o a w (Goal P w0 M N ((Eff.mk [viG [(sC d, [(s.arg, 0)])] chk []] [] [] [] (.one at2)).ap α (some d)) ν') := by
  obtain ⟨hk, _, xs, h6, rfl⟩ := viG1 (run_ins1 hv)
  obtain ⟨z, rfl, h7, h8⟩ := h6.one
  rw [hs] at hx
  obtain ⟨x, hx1⟩ := List.length_eq_one_iff.1 (hl _ hx)
  rw [hx1] at h7 hx
  simp only [List.getElem?_cons_zero, Option.some.injEq] at h7
  subst h7
  refine OpG.value hrun ?_
  rw [hod]
  refine Goal.plain R hd rfl rfl rfl (RSl.one (RAs.one (hn x h8 ?_ hk hx1)))
  cases at1 with
  | dead => exact .inr trivial
  | gone k => exact .inr trivial
  | _ => obtain ⟨y, hy, hr⟩ := RAs.single hx; cases hy; exact hr
theorem len1 {at1 : At} {xs : List V} {c : Value} (h1 : at1 ≠ .dead) (h2 : ∀ k, at1 ≠ .gone k) (h : RSl P L w (.one at1) xs c) : xs.length = 1 := by
  have := atoms_len h (by simpa using h1) (by simpa using h2)
  simpa [Sh.atoms] using this
theorem copFieldAddr_ok (R : Rel P w0 M N α ν L a w) (hd : N.W d) {x : Operand} {t : TypeId} {f : Nat} (ho : o.op = .fieldAddr t x f) (hod : o.dst = some d) (h : RM.out α (copFieldAddr P d t x f) E) (hv : runIs Φ E.vis ν = some ν') :
    OpG P o a w (Goal P w0 M N (E.ap α (some d)) ν') := by
  simp only [copFieldAddr, out_bind, out_opt, out_need] at h
  obtain ⟨s, h1, ⟨off, n, ag⟩, hf, _, hn, h⟩ := h
  have H := opd_ok R h1
  obtain ⟨fs, g, hu, hg, hsz, hag, hoff⟩ := fieldOf_ok hf
  have hn0 : n ≠ 0 := by simpa using hn
  have hrun : ∀ b q, a.eval x = .pointer (some ⟨b, q, none⟩) → (execOp a.eval o).run P w = .ok (.value (.pointer (some ⟨b, q + off, none⟩))) w := by
    intro b q hc
    simp [execOp, ho, Instr.fieldAt, run_underlying hu, hg, hc, Instr.sureAddr, fieldPlace, run_sizeOf hsz, hn0, hoff, add_plain]
  split at h
  · rename_i u q hs
    rw [out_ok] at h; subst h
    have H' := H; rw [hs] at H'
    obtain ⟨y, hy, hr⟩ := RAs.single H'
    rcases hr with rfl | ⟨rfl, b, ro, hb, hc⟩
    · obtain ⟨_, _, xs, h6, _⟩ := viG1 (run_ins1 hv)
      obtain ⟨z, _, h7, h8⟩ := h6.one
      rw [hy] at h7; simp at h7; exact absurd h7.symm h8
    · exact copMoveA R hd hs H (hrun b q hc) hod hv (fun z hz hr _ hz1 => by
        rw [hy] at hz1; cases hz1
        exact .inr ⟨rfl, b, ro, hb, rfl⟩) (fun z hz => len1 (by simp) (by simp) hz)
  · rename_i k j hs
    rw [out_ok] at h; subst h
    have H' := H; rw [hs] at H'
    obtain ⟨y, hy, hr⟩ := RAs.single H'
    rcases hr with rfl | ⟨r, i, b, q, m, cap, sz, h3, rfl, h4, h5, h6, hc⟩
    · obtain ⟨_, _, xs, h6, _⟩ := viG1 (run_ins1 hv)
      obtain ⟨z, _, h7, h8⟩ := h6.one
      rw [hy] at h7; simp at h7; exact absurd h7.symm h8
    · exact copMoveA R hd hs H (hrun b _ hc) hod hv (fun z hz hr _ hz1 => by
        rw [hy] at hz1; cases hz1
        exact .inr ⟨r, i, b, q, m, cap, sz, h3, rfl, h4, h5, h6, by rw [Nat.add_assoc]⟩) (fun z hz => len1 (by simp) (by simp) hz)
  · rename_i s1 j hs
    rw [out_ok] at h; subst h
    have H' := H; rw [hs] at H'
    obtain ⟨y, hy, hr⟩ := RAs.single H'
    rcases hr with rfl | ⟨b, q, h3, h4, hc⟩
    · obtain ⟨_, _, xs, h6, _⟩ := viG1 (run_ins1 hv)
      obtain ⟨z, _, h7, h8⟩ := h6.one
      rw [hy] at h7; simp at h7; exact absurd h7.symm h8
    · refine copMoveA R hd hs H (hrun b _ hc) hod hv (fun z hz hr _ hz1 => ?_) (fun z hz => len1 (by simp) (by simp) hz)
      rw [hy] at hz1; cases hz1
      exact .inr ⟨b, q, h3, h4, by rw [Nat.add_assoc]⟩
  · rw [out_no] at h; exact h.elim
end
end Go.Proofs.YtogfkdpgkloljaaDoorVs
