/-
  Makes and appends. Conditions: each lemma's own premises.
-/
import Derived.Test.YtogfkdpgkloljaaDoorVsO
set_option linter.unusedVariables false
set_option linter.unusedSimpArgs false
namespace Go.Proofs.YtogfkdpgkloljaaDoorVs
section
variable {P : Program} {w0 : World} {M : Nat → Prop} {N : Fr} {α : Al} {ν ν' : Env} {L : Lay} {a : Act} {w w' : World} {Φ : Funs} {o : Oper} {d : Nat} {E : Eff}

theorem zero_rd {as : List At} {vs : List V} {cs : List Value} (h : RAs P L w as vs cs) (hz : ∀ a ∈ as, a = .v .fz ∨ a = .nils) (hne : ∀ x ∈ vs, x ≠ .undef) : ∀ i (h1 : i < vs.length) (h2 : i < cs.length), Rd P L.F w vs[i] cs[i] := by
  intro i h1 h2
  have h0 : i < as.length := by have := h.2.1; omega
  have hr := h.2.2 i h0 h1 h2
  rcases hz as[i] (List.getElem_mem h0) with e | e <;> rw [e] at hr
  · rcases hr with hr | hr
    · exact absurd hr (hne _ (List.getElem_mem h1))
    · exact hr
  · rcases hr with hr | ⟨hr, t, he⟩
    · exact absurd hr (hne _ (List.getElem_mem h1))
    · rw [hr, he]; exact .nil _ _ _
theorem zeroOf_ne {t : TypeId} {as : List At} {vs : List V} (h : zeroOf P t = some (as, vs)) : ∀ x ∈ vs, x ≠ .undef := by
  simp only [zeroOf, Option.bind_eq_some_iff] at h
  obtain ⟨i, hi, z, hz, ls, hls, h⟩ := h
  split at h
  · simp only [Option.map_eq_some_iff, Prod.mk.injEq] at h
    obtain ⟨l, hl2, rfl, rfl⟩ := h
    intro x hx
    obtain ⟨p, hp, rfl⟩ := List.mem_map.1 hx
    obtain ⟨k, hk, rfl⟩ := List.getElem_of_mem hp
    obtain ⟨h1, h2⟩ := mapM_get hl2
    have := h2 k (by omega) hk
    exact zV_ne (at1 := l[k].1) this
  · cases h
theorem madeCells_get {z : Array Value} {n k : Nat} (hk : k < n) : (madeCells z n).getD k undef = z[k % z.size]! := by
  simp [madeCells, Array.getD_eq_getD_getElem?, hk]
theorem copMakeSlice_ok (R : Rel P w0 M N α ν L a w) (hd : N.W d) {t : TypeId} {l c : Operand} (ho : o.op = .makeSlice t l c) (hod : o.dst = some d) (h : RM.out α (copMakeSlice P d t l c) E) (hv : runIs Φ E.vis ν = some ν') :
    OpG P o a w (Goal P w0 M N (E.ap α (some d)) ν') := by
  simp only [copMakeSlice, out_bind, out_opt, out_need, out_ok, Bool.and_eq_true, bne_iff_ne, beq_iff_eq, Bool.or_eq_true] at h
  obtain ⟨e, het, n, hsz, ag, hag, bs, hbs, ⟨as, vs⟩, hz, _, ⟨⟨⟨⟨hn0, hasl⟩, hb0⟩, hall⟩, hag1⟩, s1, h1, s2, h2, k1, hk1, k2, hk2, z, hzz, rfl⟩ := h
  have hu : P.underlying t = some (.slice e) := by
    unfold elT at het
    split at het
    · rename_i e' hq; cases het; exact hq
    · cases het
  obtain ⟨ie, zv, hie, hzv, hra, hsize⟩ := zeroOf_ok (L := L) (w := w) hz
  obtain ⟨p1, hp1, hr1⟩ := opd1 R h1 hk1
  obtain ⟨p2, hp2, hr2⟩ := opd1 R h2 hk2
  simp only [runIs, Option.bind_eq_some_iff, Option.some.injEq] at hv
  obtain ⟨ν1, hv1, ν2, hv2, rfl⟩ := hv
  obtain ⟨_, _, x, hx, rfl⟩ := VI.inv1 hv1
  obtain ⟨_, _, u, hu1, rfl⟩ := viG1 hv2
  have hu2 := hu1.unit
  subst hu2
  simp only [List.map_cons, List.map_nil, hp1, hp2] at hx
  rcases hr1 with rfl | hr1
  · cases hx
  rcases hr2 with rfl | hr2
  · cases p1 <;> cases hx
  cases p1 with
  | int kl m => cases p2 with
    | int kc cc =>
      rw [VF.sem] at hx
      split at hx
      · rename_i hh
        obtain ⟨hm0, hmc, hcb⟩ := hh
        cases hx
        have hbytes : ie.bytes = bs := by
          simp only [bytesT, hie, Option.map_some, Option.some.injEq] at hbs; exact hbs
        have hisz : ie.size = n := by
          simp only [szOf, hie, Option.map_some, Option.some.injEq] at hsz; exact hsz
        have hzn : zv.cells.size = n := by have := hra.1; simp at this; omega
        have hc0 : 0 ≤ cc := by omega
        have hcb1 : cc ≤ cc * bs := by
          have : (1 : Int) ≤ bs := by omega
          have := Int.mul_le_mul_of_nonneg_left this hc0
          omega
        have hrun := run_make (P := P) w t e ie zv hu hie hzv kl kc m cc hm0 hmc (by rw [hbytes, Int.mul_comm]; omega) (by omega)
        have hrows := zero_rd hra (fun a ha => by
          have := List.all_eq_true.1 hall a ha
          simpa using this) (zeroOf_ne hz)
        have hpn : 0 < n := Nat.pos_of_ne_zero hn0
        refine new_row R hd (toks := []) (kill := []) (w' := w.alloc (.cells (madeCells zv.cells (cc.toNat * ie.size)) e)) (v := .slice (some ⟨w.heap.size, 0, none⟩) m.toNat cc.toNat) hod (WStep.alloc w _ _) (by simp [execOp, ho, hr1.int_inv, hr2.int_inv, hrun]) rfl (by simp) ?_ (fun b hb => ?_) _ rfl
        · refine ⟨_, rfl, .inr ⟨w.heap.size, 0, cc.toNat, n, ag, _, (0, 0), by simp, heap_alloc_new w _, .inl (by simp), by simp; omega, by simp only [maxLen]; omega, by rw [size_madeCells, hisz]; omega, hag, hsz, hpn, fun hf => by subst hf; simpa using hag1, fun i hi => ?_⟩⟩
          simp only [List.length_replicate] at hi
          have hcell : ∀ j, j < n → (madeCells zv.cells (cc.toNat * ie.size)).getD (0 + (i * n + j)) undef = (zv.cells.toList[j]?).getD undef := by
            intro j hj
            have hlt : i * n + j < cc.toNat * ie.size := by
              rw [hisz]
              exact idx_lt (by omega) hj
            rw [Nat.zero_add, madeCells_get hlt, hzn]
            have : (i * n + j) % n = j := by rw [Nat.add_comm, Nat.add_mul_mod_self_right, Nat.mod_eq_of_lt hj]
            rw [this]
            simp [show j < zv.cells.size by omega]
          have hF : ∀ b, (L.F b ∨ L.blks [] b) → L.F b := fun b h => h.elim id (fun ⟨t, ht, _⟩ => by simp at ht)
          have hmono : ∀ {y : V} {c : Value}, Rd P L.F w y c → Rd P (fun b => L.F b ∨ L.blks [] b) (w.alloc (.cells (madeCells zv.cells (cc.toNat * ie.size)) e)) y c := fun h => h.mono (fun b hb => .inl hb) (fun b hb => heap_alloc_old w _ b (R.sl b (R.fs b hb)))
          have hvl : vs.length = n := by have := hra.2.1; simp only at hasl; omega
          cases ag with
          | true =>
            simp only [zElem, if_true, Option.some.injEq] at hzz
            subst hzz
            refine ⟨vs, by simp, hvl, fun j hj => ?_⟩
            refine ⟨zeroOf_ne hz _ (List.getElem_mem hj), ?_⟩
            show Rd P _ _ vs[j] ((madeCells zv.cells (cc.toNat * ie.size)).getD (0 + (i * n + j)) undef)
            rw [hcell j (by omega)]
            have := hrows j hj (by simp; omega)
            rw [List.getElem?_eq_getElem (by simp; omega), Option.getD_some]
            exact hmono this
          | false =>
            simp only [zElem, Bool.false_eq_true, if_false] at hzz
            have h1n : n = 1 := by simpa using hag1
            obtain ⟨z1, hz1⟩ := List.length_eq_one_iff.1 (hvl.trans h1n)
            rw [hz1] at hzz
            simp only [Option.some.injEq] at hzz
            subst hzz
            refine ⟨by simp only [List.getElem_replicate]; exact zeroOf_ne hz z1 (by simp [hz1]), ?_⟩
            show Rd P _ _ (List.replicate m.toNat z1)[i] ((madeCells zv.cells (cc.toNat * ie.size)).getD (0 + (i * n + 0)) undef)
            rw [hcell 0 (by omega)]
            have := hrows 0 (by omega) (by simp; omega)
            rw [List.getElem?_eq_getElem (by simp; omega), Option.getD_some]
            simp only [List.getElem_replicate]
            simp only [hz1, List.getElem_cons_zero] at this
            exact hmono this
        · have : w.heap.size = b := by simpa [Value.ownBlock] using hb
          subst this
          exact ⟨by simp, Nat.le_refl _⟩
      · cases hx
    | _ => cases hx
  | _ => cases hx

/-! #### appends -/
theorem firstCells_slice {P : Program} {W : World} {size m : Nat} {b q n cap : Nat} {news : List Value} (hl : news.length = m * size) (hc : ∀ i (h : i < news.length), W.cell? ⟨b, q + i, none⟩ = some news[i]) :
    (Builtin.firstCells size m (.slice (some ⟨b, q, none⟩) n cap)).run P W = .ok news.toArray W :=
  run_firstCells_some W size m ⟨b, q, none⟩ n cap news hl (fun j v hj => by
    obtain ⟨h1, rfl⟩ := List.getElem?_eq_some_iff.1 hj
    rw [add_plain]; exact hc j h1)
theorem firstCells_zero {P : Program} {W : World} {size : Nat} {ad : Option Addr} {n cap : Nat} : (Builtin.firstCells size 0 (.slice ad n cap)).run P W = .ok #[] W := by
  cases ad <;> simp [Builtin.firstCells, loadCells, loadCellsFrom]
/-- in place -/
theorem run_append_room_fz (t u ty e : TypeId) (size : Nat) (ht : P.underlying t = some (.slice e)) (hsz : szOf P e = some size) (hu : (∃ e', P.underlying u = some (.slice e')) ∨ P.underlying u = some .string) (g q sLen sCap : Nat) (cur : Array Value) (fz : Nat × Nat) (hg : w.heap[g]? = some (.cells cur e fz)) (hfz : fz.2 ≤ fz.1 ∨ cur.size ≤ fz.1)
    (x : Value) (m : Nat) (news : List Value) (hx : (Builtin.lenOf x).run P w = .ok m w) (hf : (Builtin.firstCells size m x).run P w = .ok news.toArray w) (h1 : ∀ v ∈ news, v.oneCell' = true) (hroom : sLen + m ≤ sCap) (hfit : q + sLen * size + news.length ≤ cur.size) :
    (Builtin.append_ #[t, u] ty #[.slice (some ⟨g, q, none⟩) sLen sCap, x]).run P w = .ok (.slice (some ⟨g, q, none⟩) (sLen + m) sCap) (w.setRow g (cur.toList.take (q + sLen * size) ++ news ++ cur.toList.drop (q + sLen * size + news.length)).toArray) := by
  have hst := run_storeCells_fz P g (q + sLen * size) e fz news 0 cur w hg hfz (by simpa using hfit) h1
  simp only [Nat.add_zero] at hst
  rcases hu with ⟨e', hu⟩ | hu
  · simp [Builtin.append_, run_underlying ht, run_underlying hu, run_sizeOf hsz, hx, hroom, hf, add_plain, hst]
  · simp [Builtin.append_, run_underlying ht, run_underlying hu, run_sizeOf hsz, hx, hroom, hf, add_plain, hst]
/-- nothing onto nothing -/
theorem run_append_none (t u ty e : TypeId) (size : Nat) (ht : P.underlying t = some (.slice e)) (hsz : szOf P e = some size) (hu : (∃ e', P.underlying u = some (.slice e')) ∨ P.underlying u = some .string)
    (x : Value) (hx : (Builtin.lenOf x).run P w = .ok 0 w) (hf : (Builtin.firstCells size 0 x).run P w = .ok #[] w) : (Builtin.append_ #[t, u] ty #[.slice none 0 0, x]).run P w = .ok (.slice none 0 0) w := by
  rcases hu with ⟨e', hu⟩ | hu
  · simp [Builtin.append_, run_underlying ht, run_underlying hu, run_sizeOf hsz, hx, hf]
  · simp [Builtin.append_, run_underlying ht, run_underlying hu, run_sizeOf hsz, hx, hf]
/-- into a new block -/
theorem run_append_grow_any (t u ty e : TypeId) (i : TypeInfo) (z : Value) (ht : P.underlying t = some (.slice e)) (hu : (∃ e', P.underlying u = some (.slice e')) ∨ P.underlying u = some .string) (hi : P.info? e = some i) (hz : i.zero = some z)
    (base : Option Addr) (sLen sCap : Nat) (olds : List Value) (holds : (Builtin.firstCells i.size sLen (.slice base sLen sCap)).run P w.drew = .ok olds.toArray w.drew)
    (x : Value) (m : Nat) (news : List Value) (hx : (Builtin.lenOf x).run P w = .ok m w) (hf : (Builtin.firstCells i.size m x).run P w.drew = .ok news.toArray w.drew)
    (hg : sCap < sLen + m) (h63 : ((sLen + m : Nat) : Int) ≤ 9223372036854775807) (hfit : Builtin.nextslicecap (sLen + m) sCap * i.bytes ≤ 281474976710656) :
    (Builtin.append_ #[t, u] ty #[.slice base sLen sCap, x]).run P w =
      .ok (.slice (some ⟨w.heap.size, 0, none⟩) (sLen + m) (grownCap w (sLen + m) sCap e))
        (w.drew.alloc (.cells (olds.toArray ++ news.toArray ++ Builtin.zeroCells z.cells (grownCap w (sLen + m) sCap e - (sLen + m))) e)) := by
  have hn : ¬ (sLen + m ≤ sCap) := by omega
  have h63' : ¬ (9223372036854775807 < ((sLen : Int) + (m : Int))) := by omega
  have h48' : ¬ (281474976710656 < Builtin.nextslicecap (sLen + m) sCap * i.bytes) := by omega
  rcases hu with ⟨e', hu⟩ | hu
  · simp [Builtin.append_, run_underlying ht, run_underlying hu, sizeOf, typeInfo, zeroValue, hi, hz, hx, hn, h63', h48', Question.forced, newRow, grownCap, holds, hf]
    congr 2
    apply Array.ext'
    simp [List.append_assoc]
  · simp [Builtin.append_, run_underlying ht, run_underlying hu, sizeOf, typeInfo, zeroValue, hi, hz, hx, hn, h63', h48', Question.forced, newRow, grownCap, holds, hf]
    congr 2
    apply Array.ext'
    simp [List.append_assoc]
/-- two rows, one behind the other -/
theorem RdRow.append {F : Nat → Prop} {e : TypeId} {sz : Nat} {ag : Bool} {xs ys : List V} {f g h : Nat → Value} (hx : RdRow P F w e sz ag xs f) (hy : RdRow P F w e sz ag ys g) (h1 : ∀ k, k < xs.length * sz → h k = f k) (h2 : ∀ k, k < ys.length * sz → h (xs.length * sz + k) = g k) : RdRow P F w e sz ag (xs ++ ys) h := by
  refine ⟨hx.hk, hx.hz, hx.hp, hx.ha, fun i hi => ?_⟩
  have hp := hx.hp
  have congr1 : ∀ {x : V} {p q : Nat → Value}, RdE P F w ag sz x p → (∀ j, j < sz → q j = p j) → RdE P F w ag sz x q := by
    intro x p q hr hq
    cases ag with
    | false => refine ⟨hr.1, ?_⟩; show Rd P F w x (q 0); rw [hq 0 hp]; exact hr.2
    | true =>
      obtain ⟨zs, h3, h4, h5⟩ := hr
      exact ⟨zs, h3, h4, fun j hj => by rw [hq j (by omega)]; exact h5 j hj⟩
  by_cases hlt : i < xs.length
  · rw [List.getElem_append_left hlt]
    exact congr1 (hx.hx i hlt) (fun j hj => h1 _ (idx_lt hlt hj))
  · rw [List.getElem_append_right (by omega)]
    simp only [List.length_append] at hi
    refine congr1 (hy.hx (i - xs.length) (by omega)) (fun j hj => ?_)
    have e1 : i * sz + j = xs.length * sz + ((i - xs.length) * sz + j) := by
      have : i * sz = xs.length * sz + (i - xs.length) * sz := by rw [← Nat.add_mul]; congr 1; omega
      omega
    rw [e1]
    exact h2 _ (idx_lt (by omega) hj)
/-- what is appended: its cells, and what they say -/
structure News (P : Program) (F : Nat → Prop) (w : World) (e : TypeId) (sz : Nat) (ag : Bool) (x : Value) (ys : List V) (news : List Value) : Prop where
  len : ∀ W, (Builtin.lenOf x).run P W = .ok ys.length W
  cells : ∀ W : World, W.heap = w.heap → (Builtin.firstCells sz ys.length x).run P W = .ok news.toArray W
  nl : news.length = ys.length * sz
  one : ∀ v ∈ news, v.oneCell' = true
  rd : RdRow P F w e sz ag ys (fun k => news.getD k undef)
theorem append_row {F : Nat → Prop} {e t u ty : TypeId} {sz : Nat} {ag : Bool} {i : TypeInfo} {z : Value} {r : Row} {xs ys : List V} {x : Value} {news : List Value} (ht : P.underlying t = some (.slice e)) (hu : (∃ e', P.underlying u = some (.slice e')) ∨ P.underlying u = some .string) (hi : P.info? e = some i) (hz : i.zero = some z) (hsz : szOf P e = some sz) (hzc : z.cells.size = sz) (hb0 : 0 < i.bytes)
    (hr : RowOK P F w r [.list r.e xs]) (hre : r.e = e) (hn : News P F w e sz ag x ys news) (hbd : (xs.length + ys.length) * i.bytes ≤ 140737488355328) (hF : ∀ b, F b → b < w.heap.size ∧ r.blk ≠ some b) (hrb : ∀ b, r.blk = some b → b < w.heap.size) :
    ∃ v' w', (Builtin.append_ #[t, u] ty #[r.val, x]).run P w = .ok v' w' ∧ WStep w w' (fun b => r.blk = some b) ∧ RowOK P F w' ⟨v', e⟩ [.list e (xs ++ ys)] ∧ ∀ b, v'.ownBlock = some b → b < w'.heap.size ∧ (w.heap.size ≤ b ∨ r.blk = some b) := by
  subst hre
  have hisz : i.size = sz := by simp only [szOf, hi, Option.map_some, Option.some.injEq] at hsz; exact hsz
  have hlb : xs.length + ys.length ≤ (xs.length + ys.length) * i.bytes := Nat.le_mul_of_pos_right _ hb0
  have h63 : ((xs.length + ys.length : Nat) : Int) ≤ 9223372036854775807 := by omega
  have hmax : xs.length + ys.length ≤ maxLen := by simp only [maxLen]; omega
  obtain ⟨xs', he, h⟩ := hr
  simp only [List.cons.injEq, V.list.injEq, true_and, and_true] at he
  subst he
  -- into a new block
  have grow : ∀ (ad : Option Addr) (cap : Nat) (olds : List Value) (ag' : Bool), r.val = .slice ad xs.length cap → cap < xs.length + ys.length → (Builtin.firstCells i.size xs.length (.slice ad xs.length cap)).run P w.drew = .ok olds.toArray w.drew → olds.length = xs.length * sz → (xs ≠ [] → RdRow P F w r.e sz ag' xs (fun k => olds.getD k undef)) →
      ∃ v' w', (Builtin.append_ #[t, u] ty #[r.val, x]).run P w = .ok v' w' ∧ WStep w w' (fun b => r.blk = some b) ∧ RowOK P F w' ⟨v', r.e⟩ [.list r.e (xs ++ ys)] ∧ ∀ b, v'.ownBlock = some b → b < w'.heap.size ∧ (w.heap.size ≤ b ∨ r.blk = some b) := by
    intro ad cap olds ag' hv hlt ho hol hord
    have hrun := run_append_grow_any (P := P) (w := w) t u ty r.e i z ht hu hi hz ad xs.length cap olds ho x ys.length news (hn.len w) (by rw [hisz]; exact hn.cells w.drew rfl) hlt h63 (growslice_fits hlt hbd)
    have hge := grownCap_ge w (xs.length + ys.length) cap r.e
    have hcm := grownCap_le_maxLen w (xs.length + ys.length) cap r.e hmax
    have hp := hn.rd.hp
    rw [hv]
    refine ⟨_, _, hrun, (WStep.drew w _).trans (WStep.alloc w.drew _ _), ⟨_, rfl, .inr ⟨w.heap.size, 0, _, sz, ag, _, (0, 0), by simp, heap_alloc_new w.drew _, .inl (by simp), by simpa using hge, hcm, ?_, ?_⟩⟩, fun b hb => ?_⟩
    · simp only [Array.size_append, List.size_toArray, size_zeroCells, hzc, hol, hn.nl, Nat.zero_add]
      have : (xs.length + ys.length) * sz + (grownCap w (xs.length + ys.length) cap r.e - (xs.length + ys.length)) * sz = grownCap w (xs.length + ys.length) cap r.e * sz := by rw [← Nat.add_mul]; congr 1; omega
      rw [Nat.add_mul] at this
      omega
    · have hx : RdRow P F w r.e sz ag xs (fun k => olds.getD k undef) := by
        by_cases hx0 : xs = []
        · subst hx0; exact ⟨hn.rd.hk, hn.rd.hz, hn.rd.hp, hn.rd.ha, fun i h => by simp at h⟩
        · have h1 := hord hx0
          have : ag' = ag := by have := h1.hk; rw [hn.rd.hk] at this; exact (Option.some.inj this).symm
          subst this; exact h1
      refine (hx.append hn.rd (fun k hk => ?_) (fun k hk => ?_)).mono (fun _ h => h) (fun b hb => heap_alloc_old w.drew _ b (hF b hb).1)
      · have : k < olds.length := by omega
        have e1 : (olds.toArray ++ news.toArray ++ Builtin.zeroCells z.cells (grownCap w (xs.length + ys.length) cap r.e - (xs.length + ys.length)))[0 + k]? = some olds[k] := by
          rw [Nat.zero_add, Array.getElem?_append_left (by simp; omega), Array.getElem?_append_left (by simp; omega)]
          simp [this]
        show Array.getD _ _ _ = _
        rw [Array.getD_eq_getD_getElem?, e1, List.getD_eq_getElem?_getD, List.getElem?_eq_getElem this]
      · have h1 : ¬ xs.length * sz + k < olds.length := by omega
        have h2 : k < news.length := by rw [hn.nl]; exact hk
        have h3 : xs.length * sz + k - olds.length = k := by omega
        have h4 : xs.length * sz + k < olds.length + news.length := by omega
        have e1 : (olds.toArray ++ news.toArray ++ Builtin.zeroCells z.cells (grownCap w (xs.length + ys.length) cap r.e - (xs.length + ys.length)))[0 + (xs.length * sz + k)]? = some news[k] := by
          rw [Nat.zero_add, Array.getElem?_append_left (by simp; omega), Array.getElem?_append_right (by simp; omega)]
          simp [h2, h3]
        show Array.getD _ _ _ = _
        rw [Array.getD_eq_getD_getElem?, e1, List.getD_eq_getElem?_getD, List.getElem?_eq_getElem h2]
    · have : w.heap.size = b := by simpa [Value.ownBlock] using hb
      subst this
      exact ⟨by simp, .inl (Nat.le_refl _)⟩
  rcases h with ⟨hv, rfl⟩ | ⟨b, q, cap, sz', ag', C, fz, H⟩
  · by_cases hy0 : ys = []
    · subst hy0
      have hnn : news = [] := List.eq_nil_of_length_eq_zero (by simpa using hn.nl)
      subst hnn
      refine ⟨.slice none 0 0, w, ?_, WStep.refl w _, by simpa using nil_row F r.e, fun b hb => by simp [Value.ownBlock] at hb⟩
      rw [hv]
      exact run_append_none t u ty r.e sz ht hsz hu x (hn.len w) (hn.cells w rfl)
    · have hpos : 0 < ys.length := List.length_pos_iff.2 hy0
      exact grow none 0 [] true (by simpa using hv) (by simpa using hpos) (by simpa using run_firstCells_none w.drew i.size 0 0 0) (by simp) (fun h => absurd rfl h)
  · have hse : sz' = sz := by have := H.rd.hz; rw [hsz] at this; exact (Option.some.inj this).symm
    subst hse
    have hHs := H.hs
    have hHc := H.hc
    have hcap : xs.length * sz' ≤ cap * sz' := Nat.mul_le_mul_right _ H.hc
    by_cases hroom : xs.length + ys.length ≤ cap
    · have hag : xs ≠ [] → ag' = ag := fun _ => by have := H.rd.hk; rw [hn.rd.hk] at this; exact (Option.some.inj this).symm
      have hag2 : ag' = ag := by have := H.rd.hk; rw [hn.rd.hk] at this; exact (Option.some.inj this).symm
      subst hag2
      have hcap2 : (xs.length + ys.length) * sz' ≤ cap * sz' := Nat.mul_le_mul_right _ hroom
      rw [Nat.add_mul] at hcap2
      have hfit : q + xs.length * sz' + news.length ≤ C.size := by rw [hn.nl]; omega
      have hrun := run_append_room_fz (P := P) (w := w) t u ty r.e sz' ht hsz hu b q xs.length cap C fz H.hh H.hfz x ys.length news (hn.len w) (hn.cells w rfl) hn.one hroom hfit
      rw [H.hv]
      have hblk : r.blk = some b := by rw [Row.blk, H.hv]; rfl
      have hkey := fun k => getD_setRow (C := C) (vs := news) (p := q + xs.length * sz') (i := k) rfl hfit
      refine ⟨_, _, hrun, WStep.setRow w b _ _ hblk, ⟨_, rfl, .inr ⟨b, q, cap, sz', ag', _, fz, by simp, setRow_heap w b C _ r.e fz H.hh, ?_, by simpa using hroom, H.hm, ?_, ?_⟩⟩, fun b2 hb2 => ?_⟩
      · rcases H.hfz with h | h
        · exact .inl h
        · right; simp only [List.size_toArray, List.length_append, List.length_take, List.length_drop, Array.length_toList]; omega
      · simp only [List.size_toArray, List.length_append, List.length_take, List.length_drop, Array.length_toList]; omega
      · refine (H.rd.append hn.rd (fun k hk => ?_) (fun k hk => ?_)).mono (fun _ h => h) (fun b2 hb2 => setRow_other w b b2 _ (fun e => (hF b2 hb2).2 (e ▸ hblk)))
        · show _ = _
          rw [hkey, if_neg (by omega)]
        · show _ = _
          rw [hkey, if_pos (by rw [hn.nl]; omega)]
          congr 1
          omega
      · have : b = b2 := by simpa [Value.ownBlock] using hb2
        subst this
        exact ⟨by simpa using hrb b hblk, .inr hblk⟩
    · refine grow (some ⟨b, q, none⟩) cap ((C.toList.drop q).take (xs.length * sz')) ag' H.hv (by omega) ?_ (by simp; omega) (fun _ => ?_)
      · rw [hisz]
        refine firstCells_slice (by simp; omega) (fun k hk => ?_)
        simp only [List.length_take, List.length_drop, Array.length_toList] at hk
        have : q + k < C.size := by omega
        have hh' : w.drew.heap[b]? = some (.cells C r.e fz) := H.hh
        simp [World.cell?, hh', this]
      · refine ⟨H.rd.hk, H.rd.hz, H.rd.hp, H.rd.ha, fun k hk => ?_⟩
        have h1 := H.rd.hx k hk
        have hc : ∀ j, j < sz' → ((C.toList.drop q).take (xs.length * sz')).getD (k * sz' + j) undef = C.getD (q + (k * sz' + j)) undef := by
          intro j hj
          have h2 := idx_lt hk hj
          have h3 : q + (k * sz' + j) < C.size := by omega
          simp [List.getD_eq_getElem?_getD, Array.getD_eq_getD_getElem?, List.getElem?_take, h2]
        cases ag' with
        | false =>
          refine ⟨h1.1, ?_⟩
          show Rd P F w xs[k] (((C.toList.drop q).take (xs.length * sz')).getD (k * sz' + 0) undef)
          rw [hc 0 H.rd.hp]; exact h1.2
        | true =>
          obtain ⟨zs, h3, h4, h5⟩ := h1
          refine ⟨zs, h3, h4, fun j hj => ?_⟩
          refine ⟨(h5 j hj).1, ?_⟩
          show Rd P F w zs[j] (((C.toList.drop q).take (xs.length * sz')).getD (k * sz' + j) undef)
          rw [hc j (by omega)]; exact (h5 j hj).2
end
end Go.Proofs.YtogfkdpgkloljaaDoorVs
