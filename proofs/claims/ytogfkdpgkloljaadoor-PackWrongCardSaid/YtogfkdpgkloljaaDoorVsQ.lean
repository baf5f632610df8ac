/-
  Appends come to what their instructions say; all operations but calls. Conditions: each lemma's own premises.
-/
import Derived.Test.YtogfkdpgkloljaaDoorVsP
set_option linter.unusedVariables false
set_option linter.unusedSimpArgs false
namespace Go.Proofs.YtogfkdpgkloljaaDoorVs
section
variable {P : Program} {w0 : World} {M : Nat → Prop} {N : Fr} {α : Al} {ν ν' : Env} {L : Lay} {a : Act} {w w' : World} {Φ : Funs} {o : Oper} {d : Nat} {E : Eff}

theorem RdRow.congr {F : Nat → Prop} {e : TypeId} {sz : Nat} {ag : Bool} {xs : List V} {f h : Nat → Value} (hx : RdRow P F w e sz ag xs f) (h1 : ∀ k, k < xs.length * sz → h k = f k) : RdRow P F w e sz ag xs h := by
  have := hx.append (ys := []) (g := h) (h := h) ⟨hx.hk, hx.hz, hx.hp, hx.ha, fun i hi => by simp at hi⟩ h1 (fun k hk => by simp at hk)
  simpa using this
theorem RdRow.one {F : Nat → Prop} {e : TypeId} {sz : Nat} {ag : Bool} {xs : List V} {f : Nat → Value} (hx : RdRow P F w e sz ag xs f) : ∀ k, k < xs.length * sz → (f k).oneCell' = true := by
  intro k hk
  have hp := hx.hp
  have hi : k / sz < xs.length := Nat.div_lt_of_lt_mul (by rw [Nat.mul_comm]; exact hk)
  have hj : k % sz < sz := Nat.mod_lt _ hp
  have e1 : k / sz * sz + k % sz = k := Nat.div_add_mod' k sz
  have h1 := hx.hx (k / sz) hi
  cases ag with
  | false =>
    have := hx.ha rfl
    subst this
    have h2 := h1.2.cell1 h1.1
    simp only [Nat.div_one, Nat.mul_one, Nat.add_zero] at h2
    exact h2.2
  | true =>
    obtain ⟨zs, h3, h4, h5⟩ := h1
    obtain ⟨h6, h7⟩ := h5 (k % sz) (by omega)
    have h8 : Rd P F w zs[k % sz] (f (k / sz * sz + k % sz)) := h7
    rw [e1] at h8
    exact (h8.cell1 h6).2
theorem news_cells {F : Nat → Prop} {e : TypeId} {sz : Nat} {ag : Bool} {ys : List V} {f : Nat → Value} {c : Value} {b q cap : Nat} (hrow : RdRow P F w e sz ag ys f) (hc : c = .slice (some ⟨b, q, none⟩) ys.length cap) (hf : ∀ i, i < ys.length * sz → w.cell? ⟨b, q + i, none⟩ = some (f i)) :
    News P F w e sz ag c ys ((List.range (ys.length * sz)).map f) where
  len W := by rw [hc]; rfl
  cells W hW := by
    rw [hc]
    refine firstCells_slice (by simp) (fun i hi => ?_)
    simp only [List.length_map, List.length_range] at hi
    have : W.cell? ⟨b, q + i, none⟩ = w.cell? ⟨b, q + i, none⟩ := by simp [World.cell?, hW]
    rw [this, hf i hi]
    simp
  nl := by simp
  one v hv := by
    obtain ⟨k, hk, rfl⟩ := List.mem_map.1 hv
    exact hrow.one k (by simpa using hk)
  rd := hrow.congr (fun k hk => by simp [List.getD_eq_getElem?_getD, hk])
theorem news_nil {F : Nat → Prop} {e : TypeId} {sz : Nat} {ag : Bool} {c : Value} {ad : Option Addr} {cap : Nat} (hk : agT P e = some ag) (hz : szOf P e = some sz) (hp : 0 < sz) (ha : ag = false → sz = 1) (hc : c = .slice ad 0 cap) : News P F w e sz ag c [] [] where
  len W := by rw [hc]; rfl
  cells W hW := by rw [hc]; exact firstCells_zero
  nl := by simp
  one v hv := by simp at hv
  rd := ⟨hk, hz, hp, ha, fun i hi => by simp at hi⟩
theorem scalar_row {S F : Nat → Prop} {e : TypeId} {sz : Nat} {ag : Bool} {ys : List V} {f : Nat → Value} (h : RdRow P S w e sz ag ys f) (hs : ys.all scalarE = true) : RdRow P F w e sz ag ys f := by
  refine ⟨h.hk, h.hz, h.hp, h.ha, fun i hi => ?_⟩
  have h1 := h.hx i hi
  have h2 : scalarE ys[i] = true := List.all_eq_true.1 hs _ (List.getElem_mem hi)
  cases ag with
  | false =>
    refine ⟨h1.1, h1.2.scalar ?_⟩
    have := h1.2.not_agg
    cases hy : ys[i] <;> rw [hy] at h2 <;> first | exact h2 | exact absurd hy (this _)
  | true =>
    obtain ⟨zs, h3, h4, h5⟩ := h1
    rw [h3] at h2
    exact ⟨zs, h3, h4, fun j hj => ⟨(h5 j hj).1, (h5 j hj).2.scalar (List.all_eq_true.1 h2 _ (List.getElem_mem hj))⟩⟩
theorem news_str {F : Nat → Prop} {e : TypeId} {s : ByteArray} (he : P.underlying e = some (.int .u8)) (hz : szOf P e = some 1) : News P F w e 1 false (.string s) (s.data.toList.map fun b => V.int .u8 b.toNat) (s.data.toList.map fun b => Value.int .u8 b.toNat) where
  len W := by
    have : s.data.size = s.size := rfl
    simp [Builtin.lenOf, this]
  cells W hW := by
    have h1 : (s.data.toList.map fun b => V.int .u8 b.toNat).length = s.size := by simp only [List.length_map, Array.length_toList]; rfl
    rw [h1]
    have h2 : s.extract 0 s.size = s := by
      apply ByteArray.ext
      simp
    simp only [Builtin.firstCells, h2, Sem.run_pure]
    congr 1
    apply Array.ext'
    simp
  nl := by simp
  one v hv := by
    obtain ⟨k, hk, rfl⟩ := List.mem_map.1 hv
    rfl
  rd := byte_row _ he hz _ _ _ (fun i hi => by
    simp only [List.length_map, Array.length_toList] at hi
    exact ⟨s.data[i].toNat, by simp, by simp [List.getD_eq_getElem?_getD, hi, Array.getElem?_eq_getElem hi]⟩)
theorem app_sem {e : TypeId} {bs : Nat} {sc : Bool} {gs : List V} {q : V} {z : List (List V)} (h : VF.sem Φ (.app e bs sc) [gs, [q]] = some z) : ∃ e1 xs e2 ys, gs = [.list e1 xs] ∧ q = .list e2 ys ∧ e1 = e ∧ e2 = e ∧ (sc = true → ys.all scalarE = true) ∧ (xs.length + ys.length) * bs ≤ 140737488355328 ∧ z = [[.list e (xs ++ ys)]] := by
  rcases gs with _ | ⟨x1, _ | ⟨x2, rest⟩⟩
  · cases q <;> cases h
  · cases x1 with
    | list e1 xs =>
      cases q with
      | list e2 ys =>
        rw [VF.sem] at h
        split at h
        · rename_i hh
          cases h
          exact ⟨e1, xs, e2, ys, rfl, rfl, hh.1.1.1, hh.1.1.2, hh.1.2, hh.2, rfl⟩
        · cases h
      | _ => cases h
    | _ => cases q <;> cases h
  · cases x1 <;> cases q <;> cases h
theorem aps_sem {e : TypeId} {bs : Nat} {gs : List V} {q : V} {z : List (List V)} (h : VF.sem Φ (.aps e bs) [gs, [q]] = some z) : ∃ e1 xs s, gs = [.list e1 xs] ∧ q = .str s ∧ e1 = e ∧ (xs.length + s.size) * bs ≤ 140737488355328 ∧ z = [[.list e (xs ++ s.data.toList.map fun b => .int .u8 b.toNat)]] := by
  rcases gs with _ | ⟨x1, _ | ⟨x2, rest⟩⟩
  · cases q <;> cases h
  · cases x1 with
    | list e1 xs =>
      cases q with
      | str s =>
        rw [VF.sem] at h
        split at h
        · rename_i hh
          cases h
          exact ⟨e1, xs, s, rfl, rfl, hh.1, hh.2, rfl⟩
        · cases h
      | _ => cases h
    | _ => cases q <;> cases h
  · cases x1 <;> cases q <;> cases h
/-- the row of an append's first operand -/
theorem append_end (R : Rel P w0 M N α ν L a w) (hd : N.W d) {e : TypeId} {k : Nat} {r : Row} {xs' : List V} {v' : Value} {vis : List VI} (hod : o.dst = some d) (hrun : (execOp a.eval o).run P w = .ok (.value v') w') (hW : WStep w w' (fun b => r.blk = some b)) (hrow : L.row k = some r ∨ r.blk = none)
    (hok : RowOK P L.F w' ⟨v', e⟩ [.list e xs']) (hb : ∀ b, v'.ownBlock = some b → b < w'.heap.size ∧ (w.heap.size ≤ b ∨ r.blk = some b)) :
    OpG P o a w (Goal P w0 M N ((Eff.mk vis [tkK k] [] [] (.one (.own k))).ap α (some d)) ((ν.upd (tC k) [.list e xs']).upd (sC d) [.unit])) := by
  refine OpG.value hrun ?_
  rw [hod]
  have hks : ∀ t, t ∈ [k] ∨ t ∈ ([] : List Nat) → tkK t ∈ [tkK k] ∨ (t = k ∧ k ∈ ([] : List Nat) ∧ L.row k = some ⟨v', e⟩) := by
    intro t ht
    left
    simp only [List.mem_singleton, List.not_mem_nil, or_false] at ht ⊢
    rw [ht]
  have hsub : ∀ b, r.blk = some b → L.blks [k] b := fun b hb => by
    rcases hrow with h | h
    · exact ⟨k, by simp, r, h, hb⟩
    · rw [h] at hb; cases hb
  have hnb : ∀ b, ¬ L.blks ([] : List Nat) b := fun b ⟨t, h, _⟩ => by simp at h
  have R1 := R.rowStep k ⟨v', e⟩ [.list e xs'] [k] [] [] [tkK k] (by simp) (hW.mono hsub) hks (by simp) (hok.ext (fun b h => .inl h) (fun _ _ => rfl) (fun _ _ => rfl)) (fun b hb2 => ⟨(hb b hb2).1, (hb b hb2).2.imp id (hsub b)⟩)
  simp only [Eff.ap, Al.setBs, sk_setBs]
  exact ⟨_, R1.put hd (RSl.one (RAs.one (.inr ⟨rfl, ⟨v', e⟩, by simp [Lay.withRow], rfl⟩)))⟩
theorem copAppend_ok (R : Rel P w0 M N α ν L a w) (hd : N.W d) {x y : Operand} {t u : TypeId} (ho : o.op = .call { callee := .builtin .append, args := #[x, y], argTypes := #[t, u] }) (hod : o.dst = some d) (h : RM.out α (copAppend P d x y t u) E) (hv : runIs Φ E.vis ν = some ν') :
    OpG P o a w (Goal P w0 M N (E.ap α (some d)) ν') := by
  simp only [copAppend, out_bind, out_opt, out_need, Bool.and_eq_true, bne_iff_ne, Bool.or_eq_true, beq_iff_eq] at h
  obtain ⟨e, het, n, hsz, bs, hbs, ag, hag, _, ⟨⟨⟨hn0, hb0⟩, hz0⟩, han⟩, s, h1, sy, h2, ⟨g, k, chk⟩, hgk, h⟩ := h
  have hu : P.underlying t = some (.slice e) := by
    unfold elT at het
    split at het
    · rename_i e' hq; cases het; exact hq
    · cases het
  obtain ⟨⟨as, zv⟩, hzo⟩ := Option.isSome_iff_exists.1 hz0
  obtain ⟨ie, z, hie, hz, hra, hsize⟩ := zeroOf_ok (L := L) (w := w) hzo
  have hisz : ie.size = n := by simp only [szOf, hie, Option.map_some, Option.some.injEq] at hsz; exact hsz
  have hzc : z.cells.size = n := by have := hra.1; simp at this; omega
  have hbytes : ie.bytes = bs := by simp only [bytesT, hie, Option.map_some, Option.some.injEq] at hbs; exact hbs
  have hpn : 0 < n := Nat.pos_of_ne_zero hn0
  have H := opd_ok R h1
  have Hy := opd_ok R h2
  -- the first operand's row
  have hfirst : chk.all (unitAt ν) = true → ∃ r, (L.row k = some r ∨ r.blk = none) ∧ (∀ e1 xs, g.get ν = [.list e1 xs] → e1 = e → a.eval x = r.val ∧ RowOK P L.F w r [.list r.e xs] ∧ r.e = e) ∧ (∀ b, r.blk = some b → b < w.heap.size ∧ ¬ L.S b) := by
    intro hk
    split at hgk
    · rename_i hs
      rw [out_ok] at hgk; cases hgk
      rw [hs] at H
      obtain ⟨p, hp, hr⟩ := RAs.single H
      refine ⟨⟨.slice none 0 0, e⟩, .inr rfl, fun e1 xs hg he1 => ?_, fun b hb => by simp [Row.blk, Value.ownBlock] at hb⟩
      rw [hp] at hg
      simp only [List.cons.injEq, and_true] at hg
      subst hg
      rcases hr with hr | ⟨hc, e2, he2⟩
      · cases hr
      · injection he2 with h3 h4
        subst h4
        exact ⟨hc, nil_row _ _, rfl⟩
    · rename_i k1 i hs hg
      rw [out_ok] at hgk; cases hgk
      rw [hs, hg] at H
      obtain ⟨p, hp, hr⟩ := RAs.single H
      have hun := unit_chk hk (List.mem_singleton.2 rfl) hp rfl
      subst hun
      rcases hr with hr | ⟨_, r, hrow, hc⟩
      · cases hr
      refine ⟨r, .inl hrow, fun e1 xs hg2 he1 => ?_, fun b hb => ⟨(R.rowmine k r b hrow hb).2.1, (R.rowmine k r b hrow hb).2.2⟩⟩
      have h3 := R.rows k r hrow
      rw [get_c] at hg2
      rw [hg2] at h3
      obtain ⟨xs', h4, h5⟩ := h3
      simp only [List.cons.injEq, V.list.injEq, and_true] at h4
      obtain ⟨h6, h7⟩ := h4
      subst h7
      exact ⟨hc, ⟨xs, rfl, h5⟩, by rw [← h6]; exact he1⟩
    · rw [out_no] at hgk; exact hgk.elim
  split at h
  · rename_i e' hu2
    simp only [out_bind, out_opt, out_need, out_ok, Bool.and_eq_true, bne_iff_ne, beq_iff_eq] at h
    obtain ⟨⟨g', s', chk'⟩, hc', _, ⟨hsk, htu⟩, rfl⟩ := h
    simp only [runIs, Option.bind_eq_some_iff, Option.some.injEq] at hv
    obtain ⟨ν1, hv1, ν2, hv2, rfl⟩ := hv
    obtain ⟨hk, _, zz, hzz, rfl⟩ := VI.inv1 hv1
    obtain ⟨_, _, uu, hu1, rfl⟩ := viG1 hv2
    have hu2' := hu1.unit
    subst hu2'
    simp only [List.all_append, Bool.and_eq_true] at hk
    obtain ⟨r, hrow, hrowok, hrb⟩ := hfirst hk.1
    obtain ⟨q, hq, hry⟩ := cont_ok R Hy hc' hk.2
    simp only [List.map_cons, List.map_nil, hq] at hzz
    have hxg : ∃ e1 xs, g.get ν = [.list e1 xs] ∧ ∃ e2 ys, q = .list e2 ys ∧ e1 = e ∧ e2 = e ∧ ((!(s' == .fz || isOwn sy.sh)) = true → ys.all scalarE = true) ∧ (xs.length + ys.length) * bs ≤ 140737488355328 ∧ zz = [.list e (xs ++ ys)] := by
      obtain ⟨e1, xs, e2, ys, h3, h4, h5, h6, h7, h8, h9⟩ := app_sem hzz
      exact ⟨e1, xs, h3, e2, ys, h4, h5, h6, h7, h8, by simpa using h9⟩
    obtain ⟨e1, xs, hgx, e2, ys, rfl, rfl, rfl, hsc, hbd, rfl⟩ := hxg
    obtain ⟨hc, hrok, hre⟩ := hrowok _ xs hgx rfl
    rcases hry with hry | hry
    · cases hry
    -- the cells that come
    have hnews : ∃ ag news, News P L.F w e2 n ag (a.eval y) ys news := by
      by_cases hy0 : ys = []
      · subst hy0
        obtain ⟨ad, cap, hcv⟩ := hry.slice
        exact ⟨ag, [], news_nil hag hsz hpn (fun h => by rcases han with h' | h'; · rw [h] at h'; cases h'
                                                         · exact h') hcv⟩
      · by_cases hown : isOwn sy.sh = true
        · obtain ⟨sh, arg⟩ := sy
          cases sh with
          | one a1 => cases a1 with
            | own k2 => cases arg with
              | c i =>
                cases hc'
                obtain ⟨p, hp, hr⟩ := RAs.single Hy
                have hun := unit_chk hk.2 (List.mem_singleton.2 rfl) hp rfl
                subst hun
                rcases hr with hr | ⟨_, r2, hrow2, hc2⟩
                · cases hr
                obtain ⟨xs2, hx2, h6⟩ := R.rows k2 r2 hrow2
                rw [get_c] at hq
                rw [hq] at hx2
                simp only [List.cons.injEq, V.list.injEq, and_true] at hx2
                obtain ⟨h7, rfl⟩ := hx2
                rcases h6 with ⟨_, h6⟩ | ⟨b, qq, cap, sz', ag, C, fz, HR⟩
                · exact absurd h6 hy0
                · have hse : sz' = n := by have := HR.rd.hz; rw [← h7, hsz] at this; exact (Option.some.inj this).symm
                  subst hse
                  rw [hc2]
                  have hrd := HR.rd
                  rw [← h7] at hrd
                  refine ⟨ag, _, news_cells hrd HR.hv (fun i hi => ?_)⟩
                  have : qq + i < C.size := by
                    have h8 := HR.hs
                    have h9 : ys.length * sz' ≤ cap * sz' := Nat.mul_le_mul_right _ HR.hc
                    omega
                  simp [World.cell?, HR.hh, this]
              | lit vs => cases hc'
            | _ => simp [isOwn] at hown
          | _ => simp [isOwn] at hown
        · obtain ⟨b, qq, cap, sz', ag, f, hcv, _, _, hrd, hf⟩ := hry.row hy0
          have hse : sz' = n := by have := hrd.hz; rw [hsz] at this; exact (Option.some.inj this).symm
          subst hse
          by_cases hfz : s' = .fz
          · subst hfz
            exact ⟨ag, _, news_cells hrd hcv hf⟩
          · have := hsc (by simp [hfz, hown])
            exact ⟨ag, _, news_cells (scalar_row hrd this) hcv hf⟩
    obtain ⟨ag, news, hN⟩ := hnews
    obtain ⟨v', w', hrun, hW, hok, hb⟩ := append_row (P := P) (w := w) (F := L.F) (t := t) (u := u) (ty := o.type) hu (.inl ⟨e', hu2⟩) hie hz hsz hzc (by rw [hbytes]; exact Nat.pos_of_ne_zero hb0) hrok hre hN (by rw [hbytes]; exact hbd) (fun b hb => ⟨R.sl b (R.fs b hb), fun e => (hrb b e).2 (R.fs b hb)⟩) (fun b hb => (hrb b hb).1)
    rw [← hc] at hrun
    exact append_end R hd hod (by simp [execOp, ho, resolve, invoke, builtin, hrun]) hW hrow hok hb
  · rename_i hu2
    simp only [out_bind, out_opt, out_need, out_ok, beq_iff_eq] at h
    obtain ⟨v2, hs1, _, hu8, _, hn1, rfl⟩ := h
    subst hn1
    simp only [runIs, Option.bind_eq_some_iff, Option.some.injEq] at hv
    obtain ⟨ν1, hv1, ν2, hv2, rfl⟩ := hv
    obtain ⟨hk, _, zz, hzz, rfl⟩ := VI.inv1 hv1
    obtain ⟨_, _, uu, hu1, rfl⟩ := viG1 hv2
    have hu2' := hu1.unit
    subst hu2'
    obtain ⟨r, hrow, hrowok, hrb⟩ := hfirst hk
    obtain ⟨q, hq, hry⟩ := opd1 R h2 hs1
    simp only [List.map_cons, List.map_nil, hq] at hzz
    have hxg : ∃ e1 xs s, g.get ν = [.list e1 xs] ∧ q = .str s ∧ e1 = e ∧ (xs.length + s.size) * bs ≤ 140737488355328 ∧ zz = [.list e (xs ++ s.data.toList.map fun b => .int .u8 b.toNat)] := by
      obtain ⟨e1, xs, s, h3, h4, h5, h6, h7⟩ := aps_sem hzz
      exact ⟨e1, xs, s, h3, h4, h5, h6, by simpa using h7⟩
    obtain ⟨e1, xs, s2, hgx, rfl, rfl, hbd, rfl⟩ := hxg
    obtain ⟨hc, hrok, hre⟩ := hrowok _ xs hgx rfl
    rcases hry with hry | hry
    · cases hry
    have hcy := hry.str_inv
    have hu8' : P.underlying e1 = some (.int .u8) := by
      split at hu8
      · assumption
      · cases hu8
    have hN : News P L.F w e1 1 false (a.eval y) (s2.data.toList.map fun b => V.int .u8 b.toNat) (s2.data.toList.map fun b => Value.int .u8 b.toNat) := by
      rw [hcy]; exact news_str hu8' hsz
    have hl : (s2.data.toList.map fun b => V.int .u8 b.toNat).length = s2.size := by simp only [List.length_map, Array.length_toList]; rfl
    obtain ⟨v', w', hrun, hW, hok, hb⟩ := append_row (P := P) (w := w) (F := L.F) (t := t) (u := u) (ty := o.type) hu (.inr hu2) hie hz hsz hzc (by rw [hbytes]; exact Nat.pos_of_ne_zero hb0) hrok hre hN (by rw [hbytes, hl]; exact hbd) (fun b hb => ⟨R.sl b (R.fs b hb), fun e => (hrb b e).2 (R.fs b hb)⟩) (fun b hb => (hrb b hb).1)
    rw [← hc] at hrun
    exact append_end R hd hod (by simp [execOp, ho, resolve, invoke, builtin, hrun]) hW hrow hok hb
  · rw [out_no] at h; exact h.elim
end
end Go.Proofs.YtogfkdpgkloljaaDoorVs
