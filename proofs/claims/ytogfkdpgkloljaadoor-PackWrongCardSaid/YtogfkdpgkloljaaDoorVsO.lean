/-
  Rows that are made: literals, makes, bytes of strings, appends. Conditions: each lemma's own premises.
-/
import Derived.Test.YtogfkdpgkloljaaDoorVsN
set_option linter.unusedVariables false
set_option linter.unusedSimpArgs false
namespace Go.Proofs.YtogfkdpgkloljaaDoorVs
section
variable {P : Program} {w0 : World} {M : Nat → Prop} {N : Fr} {α : Al} {ν ν' : Env} {L : Lay} {a : Act} {w w' : World} {Φ : Funs} {o : Oper} {d : Nat} {E : Eff}

theorem WStep.some {w w' : World} {ex : Nat → Prop} (h : WStep w w' (fun _ => False)) : WStep w w' ex := h.mono (fun _ h => h.elim)
/-- a new row, under the name of slot d -/
theorem new_row (R : Rel P w0 M N α ν L a w) (hd : N.W d) {e : TypeId} {xs : List V} {v : Value} {toks : List Nat} {kill : List Nat} (hod : o.dst = some d) (hW : WStep w w' (fun _ => False)) (hrun : (execOp a.eval o).run P w = .ok (.value v) w')
    (hk : kill = toks.map tkK) (hnt : tokS d 0 ∉ toks) (hok : RowOK P (fun b => L.F b ∨ L.blks toks b) w' ⟨v, e⟩ [.list e xs]) (hb : ∀ b, v.ownBlock = some b → b < w'.heap.size ∧ w.heap.size ≤ b)
    (vis : List VI) (hE : E = { vis := vis, kill := tkK (tokS d 0) :: kill, dst := .one (.own (tokS d 0)) }) :
    OpG P o a w (Goal P w0 M N (E.ap α (some d)) ((ν.upd (tC (tokS d 0)) [.list e xs]).upd (sC d) [.unit])) := by
  subst hE; subst hk
  refine OpG.value hrun ?_
  rw [hod]
  have hks : ∀ t, t ∈ [tokS d 0] ∨ t ∈ toks → tkK t ∈ tkK (tokS d 0) :: toks.map tkK ∨ (t = tokS d 0 ∧ tokS d 0 ∈ ([] : List Nat) ∧ L.row (tokS d 0) = some ⟨v, e⟩) := by
    intro t ht
    left
    rcases ht with ht | ht
    · simp only [List.mem_singleton] at ht; subst ht; exact List.mem_cons_self
    · exact List.mem_cons_of_mem _ (List.mem_map.2 ⟨t, ht, rfl⟩)
  have R1 := R.rowStep (tokS d 0) ⟨v, e⟩ [.list e xs] [tokS d 0] toks [] (tkK (tokS d 0) :: toks.map tkK) (by simp) hW.some hks (fun t ht hm => by
    simp only [List.mem_singleton] at hm; subst hm; exact hnt ht) hok (fun b hb2 => ⟨(hb b hb2).1, .inl (hb b hb2).2⟩)
  simp only [Eff.ap, Al.setBs, sk_setBs]
  exact ⟨_, R1.put hd (RSl.one (RAs.one (.inr ⟨rfl, ⟨v, e⟩, by simp [Lay.withRow], rfl⟩)))⟩

/-! #### bytes of a string -/
theorem freeze_new (w : World) (C : Array Value) (e : TypeId) : WStep w ((w.drew.alloc (.cells C e)).freeze ⟨w.heap.size, C.size, none⟩ 1) (fun _ => False) ∧ w.heap.size < ((w.drew.alloc (.cells C e)).freeze ⟨w.heap.size, C.size, none⟩ 1).heap.size ∧
    ((w.drew.alloc (.cells C e)).freeze ⟨w.heap.size, C.size, none⟩ 1).heap[w.heap.size]? = some (.cells C e (C.size, C.size + 1)) := by
  have hW : WStep w (w.drew.alloc (.cells C e)) (fun _ => False) := (WStep.drew w _).trans (WStep.alloc w.drew _ _)
  have hn : (w.drew.alloc (.cells C e)).heap[w.heap.size]? = some (.cells C e) := heap_alloc_new w.drew _
  have hs : (w.drew.alloc (.cells C e)).heap.size = w.heap.size + 1 := by simp
  generalize w.drew.alloc (.cells C e) = W1 at *
  have hF : W1.freeze ⟨w.heap.size, C.size, none⟩ 1 = { W1 with heap := W1.heap.modify w.heap.size fun
      | .cells c elem (lo, hi) => .cells c elem (if lo == hi then (C.size, C.size + 1) else (min lo C.size, max hi (C.size + 1)))
      | o => o } := by
    simp only [World.freeze, Nat.one_ne_zero, if_false]
    congr 2
  rw [hF]
  refine ⟨⟨hW.os, hW.tape, hW.output, by simp [hs], fun b hb hn => ?_⟩, by simp [hs], ?_⟩
  · simp only [Array.getElem?_modify]
    rw [if_neg (by omega)]
    exact hW.block b hb hn
  · simp only [Array.getElem?_modify, if_true, hn, Option.map_some]
    simp
theorem run_bytesOf (e : TypeId) (s : ByteArray) (hs : s.size ≤ maxLen) : ∃ (w' : World) (C : Array Value) (cap : Nat), (Conv.stringToBytes e s).run P w = .ok (.slice (some ⟨w.heap.size, 0, none⟩) s.size cap) w' ∧ WStep w w' (fun _ => False) ∧ w.heap.size < w'.heap.size ∧
    w'.heap[w.heap.size]? = some (.cells C e (C.size, C.size + 1)) ∧ C.size = cap ∧ s.size ≤ cap ∧ cap ≤ maxLen ∧ ∀ i (h : i < s.size), C[i]? = some (.int .u8 s[i].toNat) := by
  have hge := grownCap_ge w s.size 0 e
  have hle := grownCap_le_maxLen w s.size 0 e hs
  obtain ⟨C, hC⟩ : ∃ C : Array Value, C = s.data.map (fun b : UInt8 => Value.int .u8 b.toNat) ++ Array.replicate (grownCap w s.size 0 e - s.size) (Value.int .u8 0) := ⟨_, rfl⟩
  have hsz : C.size = grownCap w s.size 0 e := by
    rw [hC]
    simp only [Array.size_append, Array.size_map, Array.size_replicate]
    have : s.data.size = s.size := rfl
    omega
  obtain ⟨h1, h2, h3⟩ := freeze_new w C e
  refine ⟨_, C, grownCap w s.size 0 e, ?_, h1, h2, h3, hsz, hge, hle, fun i hi => ?_⟩
  · have hn : (w.drew.alloc (.cells C e)).shape? w.heap.size = some (e, C.size) := by
      have : (w.drew.alloc (.cells C e)).heap[w.heap.size]? = some (.cells C e) := heap_alloc_new w.drew _
      unfold World.shape?
      rw [this]
    simp only [Conv.stringToBytes, Sem.run_bind, run_choose, Question.forced, Bool.false_eq_true, if_false, Result.andThen_ok]
    show ((newRow e (s.data.map (fun b : UInt8 => Value.int .u8 b.toNat) ++ Array.replicate (grownCap w s.size 0 e - s.size) (Value.int .u8 0))).run P w.drew).andThen _ = _
    rw [← hC]
    simp only [newRow, Sem.run_bind, run_newObj, Result.andThen_ok, Sem.run_pure, markStringish, run_shape]
    show ((match (w.drew.alloc (.cells C e)).shape? w.heap.size with
      | some (_, n) => freeze { block := w.heap.size, off := n } 1
      | x => pure ()).run P (w.drew.alloc (.cells C e))).andThen _ = _
    rw [hn]
    rfl
  · have h1 : i < s.data.size := hi
    rw [hC, Array.getElem?_append_left (by simpa using h1)]
    simp only [Array.getElem?_map, Array.getElem?_eq_getElem h1, Option.map_some]
    rfl
theorem u8_ag {e : TypeId} (h : P.underlying e = some (.int .u8)) : agT P e = some false := by simp [agT, h]
theorem byte_row (F : Nat → Prop) {e : TypeId} (he : P.underlying e = some (.int .u8)) (hz : szOf P e = some 1) (w : World) (xs : List V) (f : Nat → Value) (h : ∀ i (hi : i < xs.length), ∃ n, xs[i] = .int .u8 n ∧ f i = .int .u8 n) : RdRow P F w e 1 false xs f :=
  ⟨u8_ag he, hz, by omega, fun _ => rfl, fun i hi => by
    obtain ⟨n, h1, h2⟩ := h i hi
    refine ⟨by rw [h1]; simp, ?_⟩
    show Rd P F w xs[i] (f (i * 1 + 0))
    rw [Nat.mul_one, Nat.add_zero, h1, h2]
    exact .int _ _⟩
theorem copByt_ok (R : Rel P w0 M N α ν L a w) (hd : N.W d) {s t : TypeId} {x : Operand} (ho : o.op = .convert s t x) (hod : o.dst = some d) (h : RM.out α (copConv P d s t x) E) (hv : runIs Φ E.vis ν = some ν') (e : TypeId) (hs : P.underlying s = some .string) (ht : P.underlying t = some (.slice e)) :
    OpG P o a w (Goal P w0 M N (E.ap α (some d)) ν') := by
  simp only [copConv, out_bind, hs, ht, out_need, out_ok] at h
  obtain ⟨sx, h1, k, hk, _, he, _, hz1, rfl⟩ := h
  have he' : P.underlying e = some (.int .u8) := by split at he <;> simp_all
  have hz1' : szOf P e = some 1 := by simpa using hz1
  obtain ⟨p, hp, hr⟩ := opd1 R h1 hk
  simp only [runIs, Option.bind_eq_some_iff, Option.some.injEq] at hv
  obtain ⟨ν1, hv1, ν2, hv2, rfl⟩ := hv
  obtain ⟨_, _, z, hz, rfl⟩ := VI.inv1 hv1
  obtain ⟨_, _, u, hu1, rfl⟩ := viG1 hv2
  have hu2 := hu1.unit
  subst hu2
  simp only [List.map_cons, List.map_nil, hp] at hz
  rcases hr with rfl | hr
  · cases hz
  cases p with
  | str s' =>
    rw [VF.sem] at hz
    split at hz
    · rename_i hsz
      cases hz
      have hc := hr.str_inv
      obtain ⟨w', C, cap, hrun, hW, hlt, hh, hC, hle, hm, hel⟩ := run_bytesOf (P := P) (w := w) e s' (by simp only [maxLen]; omega)
      have hlen : (s'.data.toList.map fun b => V.int .u8 b.toNat).length = s'.size := by
        simp only [List.length_map, Array.length_toList]; rfl
      refine new_row R hd (toks := []) (kill := []) (v := .slice (some ⟨w.heap.size, 0, none⟩) s'.size cap) hod hW ?_ rfl (by simp) ⟨_, rfl, .inr ⟨w.heap.size, 0, cap, 1, false, C, _, ?_, hh, .inr (Nat.le_refl _), by rw [hlen]; exact hle, hm, by omega, byte_row _ he' hz1' _ _ _ (fun i hi => ?_)⟩⟩ (fun b hb => ?_) _ rfl
      · have hrun2 : (convert s t (.string s')).run P w = .ok (.slice (some ⟨w.heap.size, 0, none⟩) s'.size cap) w' := by
          simp only [convert, Sem.run_bind, run_underlying hs, run_underlying ht, Result.andThen_ok, run_underlying he']
          exact hrun
        simp [execOp, ho, hc, hrun2]
      · rw [hlen]
      · rw [hlen] at hi
        refine ⟨s'[i].toNat, ?_, ?_⟩
        · simp only [List.getElem_map, Array.getElem_toList]; rfl
        · have := hel i hi
          simp [Array.getD_eq_getD_getElem?, this]
      · have : w.heap.size = b := by simpa [Value.ownBlock] using hb
        omega
    · cases hz
  | _ => cases hz

/-! #### literals -/
theorem litEls_ok (R : Rel P w0 M N α ν L a w) {e : TypeId} {n : Nat} : ∀ (parts : List (Nat × Operand)) (j : Nat) (qs : List Pcs), RM.out α (litEls P e n j parts) qs → (qs.map (·.chk)).flatten.all (unitAt ν) = true →
    (parts.map fun p => (p.1, a.eval p.2)) = ((parts.map fun p => a.eval p.2).zipIdx j).map (fun x => (x.2, x.1)) ∧ qs.length = parts.length ∧
    ∀ i (h : i < qs.length) (h' : i < parts.length), ∃ toks cs, Frzd P ν L w qs[i] toks cs ∧ cs.length = n ∧ (a.eval parts[i].2 = .agg cs.toArray ∨ cs = [a.eval parts[i].2])
  | [], j, qs, h, hk => by
    rw [litEls, out_ok] at h; subst h
    exact ⟨rfl, rfl, fun i h => by simp at h⟩
  | (i0, x) :: r, j, qs, h, hk => by
    simp only [litEls, out_bind, out_need, out_opt, out_ok] at h
    obtain ⟨_, hij, s, hs, ⟨b, as⟩, hf, _, hn, q, hq, l, hl, rfl⟩ := h
    have hij' : i0 = j := by simpa using hij
    subst hij'
    simp only [List.map_cons, List.flatten_cons, List.all_append, Bool.and_eq_true] at hk
    obtain ⟨h1, h2, h3⟩ := litEls_ok R r (i0 + 1) l hl hk.2
    refine ⟨by simp [h1], by simp [h2], fun i hi hi' => ?_⟩
    cases i with
    | zero =>
      have H := opd_ok R hs
      have hm : as.all memAt = true := by
        have go : ∀ (as : List At) (j : Nat) (q : Pcs), pcsL (frz1 s.arg) j as = some q → as.all memAt = true := by
          intro as
          induction as with
          | nil => intro j q _; rfl
          | cons a1 as ih =>
            intro j q h
            simp only [pcsL, Option.bind_eq_some_iff, Option.map_eq_some_iff] at h
            obtain ⟨q1, h1, q2, h2, _⟩ := h
            simp only [List.all_cons, Bool.and_eq_true]
            refine ⟨?_, ih _ _ h2⟩
            cases a1 <;> first | rfl | (cases h1; done)
        exact go as 0 q hq
      obtain ⟨cs, hra, hcs⟩ := flat_cells hf hm H
      obtain ⟨toks, f⟩ := frzL_ok R as 0 q cs hq hra.1 hra.at hk.1
      exact ⟨toks, cs, f, by have := hra.1; simp at hn; omega, hcs⟩
    | succ i => simpa using h3 i (by simpa using hi) (by simpa using hi')
theorem map_mapM {β γ δ : Type} (f : β → γ) (g : γ → Option δ) : ∀ (l : List β), (l.map f).mapM g = l.mapM (fun x => g (f x))
  | [] => rfl
  | x :: r => by simp only [List.map_cons, List.mapM_cons, map_mapM f g r]
theorem mapM_get {β γ : Type} {g : β → Option γ} : ∀ {l : List β} {r : List γ}, l.mapM g = some r → r.length = l.length ∧ ∀ i (h : i < l.length) (h' : i < r.length), g l[i] = some r[i]
  | [], r, h => by simp only [List.mapM_nil] at h; cases h; exact ⟨rfl, fun i h => by simp at h⟩
  | x :: l, r, h => by
    simp only [List.mapM_cons, Option.bind_eq_bind, Option.bind_eq_some_iff, Option.pure_def, Option.some.injEq] at h
    obtain ⟨y, hy, r', hr, rfl⟩ := h
    obtain ⟨h1, h2⟩ := mapM_get hr
    refine ⟨by simp [h1], fun i hi hi' => ?_⟩
    cases i with
    | zero => simpa using hy
    | succ i => simpa using h2 i (by simpa using hi) (by simpa using hi')
/-- the elements of a literal -/
theorem mk_sem {e : TypeId} {ag : Bool} {qs : List Pcs} {x : List V} (h : (VF.mk e (numbE ag qs)).sem Φ (((qs.map (·.ps)).flatten.map (·.1)).map (VArg.get ν)) = some [x]) :
    ∃ xs, x = [.list e xs] ∧ xs.length = qs.length ∧ ∀ i (h : i < qs.length) (h' : i < xs.length), ∃ zs, Pieces ν qs[i].ps zs ∧ (if ag then xs[i] = .agg zs else zs = [xs[i]]) := by
  rw [VF.sem] at h
  simp only [Option.map_eq_some_iff] at h
  obtain ⟨xs, h1, h2⟩ := h
  cases h2
  simp only [numbE, map_mapM] at h1
  obtain ⟨h3, h4⟩ := mapM_get h1
  have hnl : (numb 0 (qs.map (·.ps))).length = qs.length := by
    have go : ∀ (l : List (List Pc)) (k : Nat), (numb k l).length = l.length := by
      intro l
      induction l with
      | nil => intro k; rfl
      | cons p r ih => intro k; simp [numb, ih]
    rw [go]; simp
  refine ⟨xs, rfl, by omega, fun i hi hi' => ?_⟩
  have h5 := h4 i (by omega) hi'
  simp only [Option.bind_eq_some_iff] at h5
  obtain ⟨zs, h6, h7⟩ := h5
  obtain ⟨hi2, H⟩ := numb_args (ν := ν) (qs.map (·.ps)) [] i (by simpa using hi)
  have h8 := H zs (by simpa [List.map_map, Function.comp_def] using h6)
  refine ⟨zs, ⟨by simpa using h8.1, fun j hj hj' => by simpa [pcGet] using h8.2 j (by simpa using hj) hj'⟩, ?_⟩
  cases ag with
  | true => simp only [if_true, Option.some.injEq] at h7 ⊢; exact h7.symm
  | false =>
    simp only [Bool.false_eq_true, if_false] at h7 ⊢
    split at h7
    · cases h7; rfl
    · cases h7
theorem copBuildSlice_ok (R : Rel P w0 M N α ν L a w) (hd : N.W d) {t : TypeId} {len : Nat} {parts : Array (Nat × Operand)} (ho : o.op = .buildSlice t len parts) (hod : o.dst = some d) (h : RM.out α (copBuildSlice P d t len parts) E) (hv : runIs Φ E.vis ν = some ν') :
    OpG P o a w (Goal P w0 M N (E.ap α (some d)) ν') := by
  simp only [copBuildSlice, out_bind, out_opt, out_need, out_ok, Bool.and_eq_true, decide_eq_true_eq, beq_iff_eq, bne_iff_ne, Bool.or_eq_true, Bool.not_eq_true'] at h
  obtain ⟨e, het, n, hsz, ag, hag, _, ⟨⟨⟨⟨⟨hpl, h24⟩, hn0⟩, hag1⟩, hlen⟩, hz0⟩, qs, hqs, _, hnk, rfl⟩ := h
  have hu : P.underlying t = some (.slice e) := by
    unfold elT at het
    split at het
    · rename_i e' hq; cases het; exact hq
    · cases het
  simp only [runIs, Option.bind_eq_some_iff, Option.some.injEq] at hv
  obtain ⟨ν1, hv1, ν2, hv2, rfl⟩ := hv
  obtain ⟨hk, _, x, hx, rfl⟩ := VI.inv1 hv1
  obtain ⟨_, _, u, hu1, rfl⟩ := viG1 hv2
  have hu2 := hu1.unit
  subst hu2
  obtain ⟨xs, rfl, hxl, hxs⟩ := mk_sem hx
  obtain ⟨hp1, hp2, hp3⟩ := litEls_ok R parts.toList 0 qs hqs hk
  -- each part: its tokens, its cells
  have hch : ∀ i (h : i < qs.length), ∃ p : List Nat × List Value, Frzd P ν L w qs[i] p.1 p.2 ∧ p.2.length = n ∧ (a.eval (parts.toList[i]'(by omega)).2 = .agg p.2.toArray ∨ p.2 = [a.eval (parts.toList[i]'(by omega)).2]) := fun i h => by
    obtain ⟨toks, cs, h1, h2, h3⟩ := hp3 i h (by omega)
    exact ⟨(toks, cs), h1, h2, h3⟩
  let pf : Nat → List Nat × List Value := fun i => if h : i < qs.length then (hch i h).choose else ([], [])
  have hpf : ∀ i (h : i < qs.length), Frzd P ν L w qs[i] (pf i).1 (pf i).2 ∧ (pf i).2.length = n ∧ (a.eval (parts.toList[i]'(by omega)).2 = .agg (pf i).2.toArray ∨ (pf i).2 = [a.eval (parts.toList[i]'(by omega)).2]) := fun i h => by
    have := (hch i h).choose_spec
    simpa only [pf, h, dif_pos] using this
  let toks : List Nat := ((List.range qs.length).map fun i => (pf i).1).flatten
  have hkill : (qs.map (·.kill)).flatten = toks.map tkK := by
    simp only [toks, List.map_flatten, List.map_map]
    congr 1
    apply List.ext_getElem
    · simp
    · intro i h1 h2
      have hi : i < qs.length := by simpa using h1
      simp only [List.getElem_map, List.getElem_range, Function.comp]
      exact (hpf i hi).1.kill
  have hsub : ∀ i, i < qs.length → ∀ t ∈ (pf i).1, t ∈ toks := fun i hi t ht => List.mem_flatten.2 ⟨_, List.mem_map.2 ⟨i, List.mem_range.2 hi, rfl⟩, ht⟩
  -- the parts' values
  let vs : List Value := parts.toList.map fun p => a.eval p.2
  have hvl : vs.length = qs.length := by simp only [vs, List.length_map]; omega
  have hvc : ∀ i (h : i < qs.length), (vs[i]'(by omega)).cells.toList = (pf i).2 ∧ ∃ zs, Pieces ν qs[i].ps zs ∧ (if ag then (xs[i]'(by omega)) = .agg zs else zs = [xs[i]'(by omega)]) ∧ zs.length = (pf i).2.length ∧ ∀ j (hj : j < zs.length) (hj' : j < (pf i).2.length), Rd P (fun b => L.F b ∨ L.blks toks b) w zs[j] (pf i).2[j] := fun i hi => by
    obtain ⟨h1, h2, h3⟩ := hpf i hi
    obtain ⟨zs, hz1, hz2⟩ := hxs i hi (by omega)
    obtain ⟨h4, h5, _, h6⟩ := h1.cells hz1 (c := vs[i]'(by omega)) (by simpa [vs] using h3)
    exact ⟨h4, zs, hz1, hz2, h5, fun j hj hj' => (h6 j hj hj').mono (fun b hb => hb.imp id (blks_mono (hsub i hi) b)) (fun _ _ => rfl)⟩
  have hcs : ∀ v ∈ vs, v.cells.size = n := fun v hv => by
    obtain ⟨i, hi, rfl⟩ := List.getElem_of_mem hv
    have h1 := (hvc i (by omega)).1
    have h2 := (hpf i (by omega)).2.1
    have := congrArg List.length h1
    simp only [Array.length_toList] at this
    omega
  let C : Array Value := (vs.flatMap fun v => v.cells.toList).toArray
  have hpn : 0 < n := Nat.pos_of_ne_zero hn0
  have hqlen : qs.length = len := by
    have : parts.toList.length = parts.size := by simp
    omega
  have hCsz : C.size = len * n := by
    have go : ∀ (vs : List Value), (∀ v ∈ vs, v.cells.size = n) → (vs.flatMap fun v => v.cells.toList).length = vs.length * n := by
      intro vs
      induction vs with
      | nil => intro _; simp
      | cons v vs ih =>
        intro h
        simp only [List.flatMap_cons, List.length_append, List.length_cons, Nat.add_mul, Nat.one_mul]
        rw [ih (fun u hu => h u (List.mem_cons_of_mem _ hu))]
        have := h v List.mem_cons_self
        simp only [Array.length_toList]
        omega
    simp only [C, List.size_toArray]
    rw [go vs hcs, hvl, hqlen]
  have hrun : (Instr.buildSlice t len (parts.map fun (i, x) => (i, a.eval x))).run P w = .ok (.slice (some ⟨w.heap.size, 0, none⟩) len len) (w.alloc (.cells C e)) := by
    have hlist : (parts.map fun (i, x) => (i, a.eval x)).toList = (vs.zipIdx 0).map fun x => (x.2, x.1) := by
      rw [← hp1]; simp
    by_cases hl0 : len = 0
    · subst hl0
      have hnil : parts.toList = [] := List.eq_nil_of_length_eq_zero (by omega)
      have hC0 : C = #[] := Array.eq_empty_of_size_eq_zero (by omega)
      have hpe : parts = #[] := by
        apply Array.ext'
        exact hnil
      rw [hC0, hpe]
      have hr0 : Array.range 0 = #[] := rfl
      simp [Instr.buildSlice, run_underlying hu, run_sizeOf hsz, Instr.fill, newRow, hr0]
    · simp only [hl0, false_or] at hz0
      obtain ⟨⟨as, zv⟩, hzo⟩ := Option.isSome_iff_exists.1 hz0
      obtain ⟨ie, z, hie, hz, hra, hsize⟩ := zeroOf_ok (L := L) (w := w) hzo
      have hszn : ie.size = n := by
        have : szOf P e = some ie.size := by simp [szOf, hie]
        rw [hsz] at this
        exact (Option.some.inj this).symm
      have hmul : 0 < len * n := Nat.mul_pos (Nat.pos_of_ne_zero hl0) hpn
      refine run_buildSlice w t e len _ C ie z hu hie hz (by rw [hszn]; omega) (by rw [hszn]; omega) ?_
      rw [hlist, hszn]
      exact Go.Great.fill_whole hpn vs _ hcs (by simp only [Array.size_map, Array.size_range]; rw [hvl, hqlen])
  have hcell : ∀ i (h : i < qs.length) j (hj : j < (pf i).2.length), C.getD (0 + (i * n + j)) undef = (pf i).2[j] := by
    intro i hi j hj
    have hjn : j < n := by have := (hpf i hi).2.1; omega
    have h1 := Go.Great.flat_get hpn vs hcs (i * n + j)
    have h2 : (i * n + j) / n = i := by rw [Nat.add_comm, Nat.add_mul_div_right _ _ hpn, Nat.div_eq_of_lt hjn]; omega
    have h3 : (i * n + j) % n = j := by rw [Nat.add_comm, Nat.add_mul_mod_self_right, Nat.mod_eq_of_lt hjn]
    rw [h2, h3, List.getElem?_eq_getElem (show i < vs.length by omega)] at h1
    simp only [Option.bind_some] at h1
    have h4 := (hvc i hi).1
    have h5 : (vs[i]'(by omega)).cells[j]? = some (pf i).2[j] := by
      rw [← Array.getElem?_toList, h4, List.getElem?_eq_getElem hj]
    rw [h5] at h1
    simp only [C, Array.getD_eq_getD_getElem?, List.getElem?_toArray, Nat.zero_add, h1, Option.getD_some]
  refine new_row R hd (w' := w.alloc (.cells C e)) (v := .slice (some ⟨w.heap.size, 0, none⟩) len len) hod (WStep.alloc w _ _) (by simp [execOp, ho, hrun]) hkill ?_ ?_ (fun b hb => ?_) _ rfl
  · intro hm
    have : tkK (tokS d 0) ∈ (qs.map (·.kill)).flatten := by rw [hkill]; exact List.mem_map.2 ⟨_, hm, rfl⟩
    simp [this] at hnk
  · refine ⟨xs, rfl, .inr ⟨w.heap.size, 0, len, n, ag, C, (0, 0), by simp [hxl, hqlen], heap_alloc_new w _, .inl (by simp), by omega, by simp only [maxLen]; omega, by omega, hag, hsz, hpn, fun hf => by subst hf; simpa using hag1, fun i hi => ?_⟩⟩
    have hi' : i < qs.length := by omega
    obtain ⟨h4, zs, hz1, hz2, h5, h6⟩ := hvc i hi'
    have hstep : ∀ b, (L.F b ∨ L.blks toks b) → (w.alloc (.cells C e)).heap[b]? = w.heap[b]? := by
      intro b hb
      refine heap_alloc_old w _ b ?_
      rcases hb with hb | ⟨t, _, r, h1, h2⟩
      · exact R.sl b (R.fs b hb)
      · exact (R.rowmine t r b h1 h2).2.1
    cases ag with
    | true =>
      simp only [if_true] at hz2
      refine ⟨zs, hz2, by rw [h5]; exact (hpf i hi').2.1, fun j hj => ?_⟩
      refine ⟨(hz1.2 j (by have := hz1.1; omega) hj).2, ?_⟩
      show Rd P _ _ zs[j] (C.getD (0 + (i * n + j)) undef)
      rw [hcell i hi' j (by omega)]
      exact (h6 j hj (by omega)).mono (fun _ h => h) hstep
    | false =>
      simp only [Bool.false_eq_true, if_false] at hz2
      subst hz2
      have hn1 : n = 1 := by simpa using hag1
      have h7 := h6 0 (by simp) (by have := (hpf i hi').2.1; omega)
      have h8 := hcell i hi' 0 (by have := (hpf i hi').2.1; omega)
      refine ⟨by simpa using (hz1.2 0 (by have := hz1.1; simp at this; omega) (by simp)).2, ?_⟩
      show Rd P _ _ xs[i] (C.getD (0 + (i * n + 0)) undef)
      rw [h8]
      exact h7.mono (fun _ h => h) hstep
  · have : w.heap.size = b := by simpa [Value.ownBlock] using hb
    subst this
    exact ⟨by simp, Nat.le_refl _⟩
end
end Go.Proofs.YtogfkdpgkloljaaDoorVs
