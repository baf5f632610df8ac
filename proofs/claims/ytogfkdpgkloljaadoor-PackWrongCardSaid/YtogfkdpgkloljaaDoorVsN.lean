/-
  Cuts of rows and strings. Conditions: each lemma's own premises.
-/
import Derived.Test.YtogfkdpgkloljaaDoorVsM
set_option linter.unusedVariables false
set_option linter.unusedSimpArgs false
namespace Go.Proofs.YtogfkdpgkloljaaDoorVs
section
variable {P : Program} {w0 : World} {M : Nat → Prop} {N : Fr} {α : Al} {ν ν' : Env} {L : Lay} {a : Act} {w w' : World} {Φ : Funs} {o : Oper} {d : Nat} {E : Eff}

/-- a cut of a row that is read -/
theorem Rd.sub {S : Nat → Prop} {e : TypeId} {xs : List V} {c : Value} {sz : Nat} (h : Rd P S w (.list e xs) c) (hsz : szOf P e = some sz) (l m : Nat) (hlm : l ≤ m) (hm : m ≤ xs.length) :
    ∃ ad cap, c = .slice ad xs.length cap ∧ m ≤ cap ∧ Rd P S w (.list e ((xs.take m).drop l)) (sliced ad l m cap sz) := by
  rcases h.inv e xs rfl with ⟨rfl, ad, cap, rfl⟩ | ⟨b, q, cap, sz', ag, f, rfl, hb, hc, hrow, hf⟩
  · have : m = 0 := by simpa using hm
    subst this
    have : l = 0 := by omega
    subst this
    exact ⟨ad, cap, rfl, by omega, by simpa [sliced] using Rd.nil e _ _⟩
  · have hs' : sz' = sz := by have := hrow.hz; rw [hsz] at this; exact (Option.some.inj this).symm
    subst hs'
    refine ⟨some ⟨b, q, none⟩, cap, rfl, by omega, ?_⟩
    have hlen : ((xs.take m).drop l).length = m - l := by simp; omega
    by_cases he : l = m
    · subst he
      have : (xs.take l).drop l = [] := List.eq_nil_of_length_eq_zero (by rw [hlen]; omega)
      rw [this]
      simpa [sliced] using Rd.nil e _ _
    · have hne : ¬ cap = l := by omega
      simp only [sliced, hne, if_false, Option.map_some, add_plain]
      rw [← hlen]
      refine Rd.of_row (f := fun i => f (l * sz' + i)) ⟨hrow.hk, hrow.hz, hrow.hp, hrow.ha, fun i hi => ?_⟩ b (q + l * sz') (cap - l) hb (by rw [hlen]; omega) (fun i hi => ?_)
      · have h1 : l + i < xs.length := by rw [hlen] at hi; omega
        have := hrow.hx (l + i) h1
        simp only [List.getElem_drop, List.getElem_take]
        have e : ∀ j, (l + i) * sz' + j = l * sz' + (i * sz' + j) := fun j => by rw [Nat.add_mul, Nat.add_assoc]
        simpa only [e] using this
      · rw [hlen] at hi
        have h1 : l * sz' + i < xs.length * sz' := by
          have : m * sz' ≤ xs.length * sz' := Nat.mul_le_mul_right _ hm
          have h2 : (m - l) * sz' + l * sz' = m * sz' := by rw [← Nat.add_mul, Nat.sub_add_cancel hlm]
          omega
        have := hf (l * sz' + i) h1
        rw [← this, Nat.add_assoc]
/-- .. of one that is the call's own -/
theorem RowOK.sub {F : Nat → Prop} {r : Row} {xs : List V} {sz : Nat} (h : RowOK P F w r [.list r.e xs]) (hsz : szOf P r.e = some sz) (l m : Nat) (hlm : l ≤ m) (hm : m ≤ xs.length) :
    ∃ ad cap, r.val = .slice ad xs.length cap ∧ m ≤ cap ∧ RowOK P F w ⟨sliced ad l m cap sz, r.e⟩ [.list r.e ((xs.take m).drop l)] ∧ (∀ b, (sliced ad l m cap sz).ownBlock = some b → r.blk = some b) := by
  obtain ⟨xs', he, h⟩ := h
  simp only [List.cons.injEq, V.list.injEq, true_and, and_true] at he
  subst he
  rcases h with ⟨hv, rfl⟩ | ⟨b, q, cap, sz', ag, C, fz, H⟩
  · have : m = 0 := by simpa using hm
    subst this
    have : l = 0 := by omega
    subst this
    exact ⟨none, 0, hv, by omega, ⟨_, rfl, .inl ⟨by simp [sliced], by simp⟩⟩, fun b hb => by simp [sliced, Value.ownBlock] at hb⟩
  · have hs' : sz' = sz := by have := H.rd.hz; rw [hsz] at this; exact (Option.some.inj this).symm
    subst hs'
    have hcc := H.hc
    refine ⟨some ⟨b, q, none⟩, cap, H.hv, by omega, ?_, fun b' hb' => ?_⟩
    · have hlen : ((xs.take m).drop l).length = m - l := by simp; omega
      refine ⟨_, rfl, .inr ?_⟩
      by_cases hcl : cap = l
      · have hlm2 : m - l = 0 := by omega
        refine ⟨b, q, 0, sz', ag, C, fz, ?_, H.hh, H.hfz, by rw [hlen]; omega, by have := H.hm; omega, by have := H.hs; omega, H.rd.hk, H.rd.hz, H.rd.hp, H.rd.ha, fun i hi => by rw [hlen] at hi; omega⟩
        simp [sliced, hcl, hlen, hlm2]
      · refine ⟨b, q + l * sz', cap - l, sz', ag, C, fz, ?_, H.hh, H.hfz, by rw [hlen]; omega, by have := H.hm; omega, ?_, H.rd.hk, H.rd.hz, H.rd.hp, H.rd.ha, fun i hi => ?_⟩
        · simp [sliced, hcl, add_plain, hlen]
        · have h1 := H.hs
          have h2 : (cap - l) * sz' + l * sz' = cap * sz' := by rw [← Nat.add_mul, Nat.sub_add_cancel (by omega)]
          omega
        · have h1 : l + i < xs.length := by rw [hlen] at hi; omega
          have := H.rd.hx (l + i) h1
          simp only [List.getElem_drop, List.getElem_take]
          have e : ∀ j, q + ((l + i) * sz' + j) = q + l * sz' + (i * sz' + j) := fun j => by rw [Nat.add_mul]; omega
          simpa only [e] using this
    · rw [Row.blk, H.hv]
      simp only [sliced] at hb'
      split at hb' <;> simpa [Value.ownBlock, add_plain] using hb'
theorem optOpd_ok (R : Rel P w0 M N α ν L a w) {x : Option Operand} {l : List VArg} (h : RM.out α (optOpd P x) l) : (x = none ∧ l = []) ∨ ∃ y g z, x = some y ∧ l = [g] ∧ g.get ν = [z] ∧ (z = .undef ∨ ∃ S, Rd P S w z (a.eval y)) := by
  cases x with
  | none => simp only [optOpd, out_ok] at h; exact .inl ⟨rfl, h⟩
  | some y =>
    simp only [optOpd, out_bind, out_ok] at h
    obtain ⟨s, h1, k, hk, rfl⟩ := h
    obtain ⟨z, hz, hr⟩ := opd1 R h1 hk
    exact .inr ⟨y, s.arg, z, rfl, rfl, hz, hr.imp id (fun h => ⟨_, h⟩)⟩
/-- the bounds of a cut -/
theorem slc_bounds (R : Rel P w0 M N α ν L a w) {t e : TypeId} {sz : Nat} {lo hi : Option Operand} {l1 l2 : List VArg} {xs : List V} {e' : TypeId} {z : List V} (ht : P.underlying t = some (.slice e)) (hsz : szOf P e = some sz) (h1 : RM.out α (optOpd P lo) l1) (h2 : RM.out α (optOpd P hi) l2)
    (hz : (VF.slc e lo.isSome hi.isSome).sem Φ ([.list e' xs] :: (l1 ++ l2).map (VArg.get ν)) = some [z]) :
    e' = e ∧ ∃ l m : Nat, l ≤ m ∧ m ≤ xs.length ∧ z = [.list e ((xs.take m).drop l)] ∧ ∀ ad cap, m ≤ cap → xs.length ≤ cap → (Instr.slice t (.slice ad xs.length cap) (lo.map a.eval) (hi.map a.eval) none).run P w = .ok (sliced ad l m cap sz) w := by
  have ht' := elem_of ht
  have he := elem_eq ht
  rcases optOpd_ok R h1 with ⟨rfl, rfl⟩ | ⟨y1, g1, z1, rfl, rfl, hg1, hr1⟩ <;> rcases optOpd_ok R h2 with ⟨rfl, rfl⟩ | ⟨y2, g2, z2, rfl, rfl, hg2, hr2⟩
  · simp only [Option.isSome_none, List.append_nil, List.map_nil, VF.sem] at hz
    split at hz
    · rename_i hh; cases hz; subst hh
      exact ⟨rfl, 0, xs.length, by omega, Nat.le_refl _, by simp, fun ad cap _ hc => by simp [run_slice_all w t _ _ _ ht', he, run_sizeOf hsz]⟩
    · cases hz
  · simp only [Option.isSome_none, Option.isSome_some, List.nil_append, List.map_cons, List.map_nil, hg2] at hz
    cases z2 with
    | int k n =>
      rw [VF.sem] at hz
      split at hz
      · rename_i hh; cases hz
        obtain ⟨rfl, h0, hn⟩ := hh
        rcases hr2 with hr2 | ⟨S, hr2⟩
        · cases hr2
        refine ⟨rfl, 0, n.toNat, by omega, by omega, by simp, fun ad cap hc hc2 => ?_⟩
        simp [hr2.int_inv, run_slice_h w t ad xs.length cap ht' k n h0 (by omega), he, run_sizeOf hsz]
      · cases hz
    | _ => simp [VF.sem] at hz
  · simp only [Option.isSome_none, Option.isSome_some, List.append_nil, List.map_cons, List.map_nil, hg1] at hz
    cases z1 with
    | int k n =>
      rw [VF.sem] at hz
      split at hz
      · rename_i hh; cases hz
        obtain ⟨rfl, h0, hn⟩ := hh
        rcases hr1 with hr1 | ⟨S, hr1⟩
        · cases hr1
        refine ⟨rfl, n.toNat, xs.length, by omega, Nat.le_refl _, by simp, fun ad cap hc hc2 => ?_⟩
        simp [hr1.int_inv, run_slice_l w t ad xs.length cap ht' k n h0 (by omega), he, run_sizeOf hsz]
      · cases hz
    | _ => simp [VF.sem] at hz
  · simp only [Option.isSome_some, List.singleton_append, List.map_cons, List.map_nil, hg1, hg2] at hz
    cases z1 with
    | int k n => cases z2 with
      | int k2 n2 =>
        rw [VF.sem] at hz
        split at hz
        · rename_i hh; cases hz
          obtain ⟨rfl, h0, hn, hn2⟩ := hh
          rcases hr1 with hr1 | ⟨S, hr1⟩
          · cases hr1
          rcases hr2 with hr2 | ⟨S, hr2⟩
          · cases hr2
          refine ⟨rfl, n.toNat, n2.toNat, by omega, by omega, rfl, fun ad cap hc hc2 => ?_⟩
          simp [hr1.int_inv, hr2.int_inv, run_slice_lh w t ad xs.length cap ht' k k2 n n2 h0 hn (by omega), he, run_sizeOf hsz]
        · cases hz
      | _ => simp [VF.sem] at hz
    | _ => simp [VF.sem] at hz

theorem sls_bounds (R : Rel P w0 M N α ν L a w) {t : TypeId} {lo hi : Option Operand} {l1 l2 : List VArg} {s : ByteArray} {z : List V} (ht : P.underlying t = some .string) (h1 : RM.out α (optOpd P lo) l1) (h2 : RM.out α (optOpd P hi) l2)
    (hz : (VF.sls lo.isSome hi.isSome).sem Φ ([.str s] :: (l1 ++ l2).map (VArg.get ν)) = some [z]) :
    ∃ s', z = [.str s'] ∧ (Instr.slice t (.string s) (lo.map a.eval) (hi.map a.eval) none).run P w = .ok (.string s') w := by
  rcases optOpd_ok R h1 with ⟨rfl, rfl⟩ | ⟨y1, g1, z1, rfl, rfl, hg1, hr1⟩ <;> rcases optOpd_ok R h2 with ⟨rfl, rfl⟩ | ⟨y2, g2, z2, rfl, rfl, hg2, hr2⟩
  · simp only [Option.isSome_none, List.append_nil, List.map_nil, VF.sem] at hz
    cases hz
    exact ⟨_, rfl, by simp [run_slice_string_all w t s ht]⟩
  · simp only [Option.isSome_none, Option.isSome_some, List.nil_append, List.map_cons, List.map_nil, hg2] at hz
    cases z2 with
    | int k n =>
      rw [VF.sem] at hz
      split at hz
      · rename_i hh; cases hz
        rcases hr2 with hr2 | ⟨S, hr2⟩
        · cases hr2
        exact ⟨_, rfl, by simp [hr2.int_inv, run_slice_string_h w t s ht k n hh.1 (by omega)]⟩
      · cases hz
    | _ => simp [VF.sem] at hz
  · simp only [Option.isSome_none, Option.isSome_some, List.append_nil, List.map_cons, List.map_nil, hg1] at hz
    cases z1 with
    | int k n =>
      rw [VF.sem] at hz
      split at hz
      · rename_i hh; cases hz
        rcases hr1 with hr1 | ⟨S, hr1⟩
        · cases hr1
        exact ⟨_, rfl, by simp [hr1.int_inv, run_slice_string_l w t s ht k n hh.1 (by omega)]⟩
      · cases hz
    | _ => simp [VF.sem] at hz
  · simp only [Option.isSome_some, List.singleton_append, List.map_cons, List.map_nil, hg1, hg2] at hz
    cases z1 with
    | int k n => cases z2 with
      | int k2 n2 =>
        rw [VF.sem] at hz
        split at hz
        · rename_i hh; cases hz
          rcases hr1 with hr1 | ⟨S, hr1⟩
          · cases hr1
          rcases hr2 with hr2 | ⟨S, hr2⟩
          · cases hr2
          refine ⟨_, rfl, ?_⟩
          have h0 : 0 ≤ n2 := by omega
          have e2 : ((n2.toNat : Nat) : Int) = n2 := Int.toNat_of_nonneg h0
          simp [Instr.slice, run_underlying ht, Instr.sliceBounds, run_sliceBound, hr1.int_inv, hr2.int_inv, hh, h0, e2]
        · cases hz
      | _ => simp [VF.sem] at hz
    | _ => simp [VF.sem] at hz
theorem copSlice_ok (R : Rel P w0 M N α ν L a w) (hd : N.W d) {cut : Bool} {t : TypeId} {x : Operand} {lo hi mx : Option Operand} (ho : o.op = .slice t x lo hi mx) (hod : o.dst = some d) (h : RM.out α (copSlice P d cut t x lo hi mx) E) (hv : runIs Φ E.vis ν = some ν') :
    OpG P o a w (Goal P w0 M N (E.ap α (some d)) ν') := by
  simp only [copSlice, out_bind, out_need] at h
  obtain ⟨_, hmx, s, h1, l1, h2, l2, h3, h⟩ := h
  have hmx' : mx = none := by simpa using hmx
  subst hmx'
  have H := opd_ok R h1
  split at h
  · rename_i hu
    simp only [out_bind, out_ok] at h
    obtain ⟨k, hk, rfl⟩ := h
    obtain ⟨p, hp, hr⟩ := opd1 R h1 hk
    obtain ⟨_, _, z, hz, rfl⟩ := VI.inv1 (run_ins1 hv)
    simp only [List.map_cons, hp] at hz
    rcases hr with rfl | hr
    · cases hlo : lo.isSome <;> cases hhi : hi.isSome <;> simp [VF.sem, hlo, hhi] at hz
    cases p with
    | str s' =>
      obtain ⟨s2, rfl, hrun⟩ := sls_bounds R hu h2 h3 hz
      refine OpG.value (v := .string s2) (w' := w) (by simp [execOp, ho, hr.str_inv, run_sliceAt_string w t _ _ _ _ hu, hrun]) ?_
      rw [hod]
      exact Goal.scalar (k := .fz) R hd rfl rfl rfl rfl (.str _)
    | _ => cases hlo : lo.isSome <;> cases hhi : hi.isSome <;> simp [VF.sem, hlo, hhi] at hz
  · rename_i e hu
    simp only [out_bind, out_need, out_opt] at h
    obtain ⟨_, hsz0, ⟨g, k, chk⟩, hc, h⟩ := h
    obtain ⟨sz, hsz⟩ : ∃ n, szOf P e = some n := by
      cases hq : szOf P e with
      | none => rw [hq] at hsz0; simp at hsz0
      | some n => exact ⟨n, rfl⟩
    have hu' := elem_of hu
    have hview : ∀ {ν' : Env}, (VI.mk (.slc e lo.isSome hi.isSome) (g :: (l1 ++ l2)) chk [] [] [sC d]).run Φ ν = some ν' → ∃ z v, ν' = ν.upd (sC d) [z] ∧ (execOp a.eval o).run P w = .ok (.value v) w ∧ Rd P (L.src k) w z v := by
      intro ν' hv
      obtain ⟨hk, _, z, hz, rfl⟩ := VI.inv1 hv
      obtain ⟨p, hp, hr⟩ := cont_ok R H hc hk
      simp only [List.map_cons, hp] at hz
      rcases hr with rfl | hr
      · cases hlo : lo.isSome <;> cases hhi : hi.isSome <;> simp [VF.sem, hlo, hhi] at hz
      cases p with
      | list e' xs =>
        obtain ⟨rfl, l, m, hlm, hm, rfl, hrun⟩ := slc_bounds R hu hsz h2 h3 hz
        obtain ⟨ad, cap, hcv, hmc, hr2⟩ := hr.sub hsz l m hlm hm
        have hxc : xs.length ≤ cap := by
          rcases hr.inv _ _ rfl with ⟨rfl, _⟩ | ⟨b, q, cap', sz', ag, f, he, _, hc3, _⟩
          · simp
          · rw [hcv] at he; cases he; exact hc3
        exact ⟨_, _, rfl, by simp [execOp, ho, hcv, run_sliceAt_slice w t _ _ _ _ hu', hrun ad cap hmc hxc], hr2⟩
      | _ => cases hlo : lo.isSome <;> cases hhi : hi.isSome <;> simp [VF.sem, hlo, hhi] at hz
    split at h
    · rename_i t1 ht1
      simp only at ht1
      subst ht1
      by_cases hcut : (cut && isOwn s.sh) = true
      rotate_left
      · rw [if_neg hcut] at h
        rw [out_ok] at h; subst h
        obtain ⟨z, v, rfl, hrun, hr⟩ := hview (run_ins1 hv)
        refine OpG.value hrun ?_
        rw [hod]
        exact Goal.scalar R hd rfl rfl rfl rfl hr
      · rw [if_pos hcut] at h
        rw [out_ok] at h; subst h
        -- the row stays the call's own
        simp only [runIs, Option.bind_eq_some_iff, Option.some.injEq] at hv
        obtain ⟨ν1, hv1, ν2, hv2, rfl⟩ := hv
        obtain ⟨hk, _, z, hz, rfl⟩ := VI.inv1 hv1
        obtain ⟨_, _, u, hu1, rfl⟩ := viG1 hv2
        have hu2 := hu1.unit
        subst hu2
        obtain ⟨sh, arg⟩ := s
        cases sh with
        | one a1 => cases a1 with
          | own t2 => cases arg with
            | c i =>
              cases hc
              obtain ⟨x1, hx1, hr⟩ := RAs.single H
              have hun := unit_chk hk (List.mem_singleton.2 rfl) hx1 rfl
              subst hun
              rcases hr with hr | ⟨_, r, hrow, hcv⟩
              · cases hr
              obtain ⟨xs, hxs, _⟩ := R.rows t1 r hrow
              simp only [List.map_cons, get_c, hxs] at hz
              obtain ⟨he, l, m, hlm, hm, rfl, hrun⟩ := slc_bounds R hu hsz h2 h3 hz
              have hok := R.rows t1 r hrow
              rw [hxs] at hok
              obtain ⟨ad, cap, hv3, hmc, hok2, hblk⟩ := hok.sub (by rw [he]; exact hsz) l m hlm hm
              have hxc : xs.length ≤ cap := by
                obtain ⟨xs2, hx2, hq⟩ := hok
                simp only [List.cons.injEq, V.list.injEq, true_and, and_true] at hx2
                subst hx2
                rcases hq with ⟨_, rfl⟩ | ⟨b, q, cap', sz', ag, C, fz, HR⟩
                · simp
                · rw [HR.hv] at hv3; cases hv3; exact HR.hc
              refine OpG.value (v := sliced ad l m cap sz) (w' := w) (by simp [execOp, ho, hcv, hv3, run_sliceAt_slice w t _ _ _ _ hu', hrun ad cap hmc hxc]) ?_
              rw [hod]
              rw [he] at hok2
              have hks : ∀ t, t ∈ [tokS d 0, t1] ∨ t ∈ ([] : List Nat) → tkK t ∈ [tkK t1, tkK (tokS d 0)] ∨ (t = tokS d 0 ∧ tokS d 0 ∈ ([] : List Nat) ∧ L.row (tokS d 0) = some ⟨sliced ad l m cap sz, e⟩) := by
                intro t ht
                left
                simp only [List.mem_cons, List.not_mem_nil, or_false] at ht ⊢
                rcases ht with rfl | rfl
                · exact .inr rfl
                · exact .inl rfl
              have R1 := R.rowStep (tokS d 0) ⟨sliced ad l m cap sz, e⟩ [.list e ((xs.take m).drop l)] [tokS d 0, t1] [] [] [tkK t1, tkK (tokS d 0)] (by simp) (WStep.refl w _) hks (by simp)
                (hok2.ext (fun b h => .inl h) (fun _ _ => rfl) (fun _ _ => rfl)) (fun b hb => ⟨(R.rowmine t1 r b hrow (hblk b hb)).2.1, .inr ⟨t1, by simp, r, hrow, hblk b hb⟩⟩)
              simp only [Eff.ap, Al.setBs, sk_setBs]
              exact ⟨_, R1.put hd (RSl.one (RAs.one (.inr ⟨rfl, ⟨sliced ad l m cap sz, e⟩, by simp [Lay.withRow], rfl⟩)))⟩
            | lit vs => cases hc
          | v k' => simp [isOwn] at hcut
          | _ => cases hc
        | _ => cases hc
    · rename_i hk
      rw [out_ok] at h; subst h
      obtain ⟨z, v, rfl, hrun, hr⟩ := hview (run_ins1 hv)
      refine OpG.value hrun ?_
      rw [hod]
      exact Goal.scalar R hd rfl rfl rfl rfl hr
  · rw [out_no] at h; exact h.elim
end
end Go.Proofs.YtogfkdpgkloljaaDoorVs
