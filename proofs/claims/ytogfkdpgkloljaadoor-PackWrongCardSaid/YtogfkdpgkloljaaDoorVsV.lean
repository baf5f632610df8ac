/-
  What a call brings back. Conditions: each lemma's own premises.
-/
import Derived.Test.YtogfkdpgkloljaaDoorVsU
set_option linter.unusedVariables false
set_option linter.unusedSimpArgs false
namespace Go.Proofs.YtogfkdpgkloljaaDoorVs
def rowsG (base : Nat) : Nat → List PM → List V → List Value → List (Nat × Row)
  | j, .own :: ms, x :: xs, c :: cs => (base + j, ⟨c, eOf x⟩) :: rowsG base (j + 1) ms xs cs
  | j, _ :: ms, _ :: xs, _ :: cs => rowsG base (j + 1) ms xs cs
  | _, _, _, _ => []
def kbG (base : Nat) : Nat → List PM → List Value → List (Nat × Nat)
  | j, .own :: ms, c :: cs => (c.ownBlock.toList.map fun b => (tkK (base + j), b)) ++ kbG base (j + 1) ms cs
  | j, _ :: ms, _ :: cs => kbG base (j + 1) ms cs
  | _, _, _ => []
theorem kbG_snd (base : Nat) : ∀ (ms : List PM) (j : Nat) (cs : List Value), (kbG base j ms cs).map (·.2) = blkG ms cs
  | [], j, cs => by cases cs <;> rfl
  | m :: ms, j, [] => by cases m <;> rfl
  | m :: ms, j, c :: cs => by
    cases m with
    | own => simp only [kbG, blkG, List.map_append, kbG_snd base ms (j + 1) cs, List.map_map]; simp [Function.comp_def]
    | _ => exact kbG_snd base ms (j + 1) cs
section
variable {P : Program} {w0 : World} {M : Nat → Prop} {N : Fr} {α : Al} {ν ν' : Env} {L : Lay} {a : Act} {w w' : World} {Φ : Funs} {o : Oper} {d : Nat} {E : Eff}
theorem RAs.cons {a1 : At} {as : List At} {x : V} {xs : List V} {c : Value} {cs : List Value} (h : RA P L w a1 x c) (H : RAs P L w as xs cs) : RAs P L w (a1 :: as) (x :: xs) (c :: cs) :=
  ⟨by simp [H.1], by simp [H.2.1], fun i h0 h1 h2 => by
    cases i with
    | zero => exact h
    | succ i => exact H.2.2 i (by simpa using h0) (by simpa using h1) (by simpa using h2)⟩
theorem RAs.nil : RAs P L w [] [] [] := ⟨rfl, rfl, fun i h => by simp at h⟩
theorem outV_cons {raw : List (List V)} {p : Option (Nat × Nat)} {ps : List (Option (Nat × Nat))} {zs : List V} (h : outV raw (p :: ps) = some zs) : ∃ z r, zs = z :: r ∧ outV1 raw p = some z ∧ outV raw ps = some r := by
  simp only [outV, List.mapM_cons, Option.bind_eq_bind, Option.bind_eq_some_iff, Option.pure_def, Option.some.injEq] at h
  obtain ⟨z, h1, r, h2, rfl⟩ := h
  exact ⟨z, r, rfl, h1, h2⟩
theorem outV_nil {raw : List (List V)} {zs : List V} (h : outV raw [] = some zs) : zs = [] := by
  simp only [outV, List.mapM_nil] at h; cases h; rfl
theorem outV_append {raw : List (List V)} : ∀ {ps qs : List (Option (Nat × Nat))} {zs : List V}, outV raw (ps ++ qs) = some zs → ∃ z1 z2, zs = z1 ++ z2 ∧ outV raw ps = some z1 ∧ outV raw qs = some z2
  | [], qs, zs, h => ⟨[], zs, rfl, rfl, h⟩
  | p :: ps, qs, zs, h => by
    obtain ⟨z, r, rfl, h1, h2⟩ := outV_cons (ps := ps ++ qs) h
    obtain ⟨z1, z2, rfl, h3, h4⟩ := outV_append h2
    refine ⟨z :: z1, z2, rfl, ?_, h4⟩
    simp only [outV, List.mapM_cons] at h3 ⊢
    rw [h1]
    simp [h3]
theorem tkK_mem_own {base j : Nat} {ms : List PM} : tkK (base + j) ∈ ownKeys base j (.own :: ms) := by simp [ownKeys]
/-- some cells that come: their rows, what their places say -/
theorem grp {F' : Nat → Prop} {raw : List (List V)} {q base : Nat} : ∀ (ms : List PM) (j : Nat) (xs : List V) (cs : List Value), PCells P F' F' w' ms xs cs → (∀ i (h : i < xs.length), (raw[q]?).bind (·[j + i]?) = some xs[i]) →
    (∀ p ∈ outTok q base j ms, ∃ zs, outV raw p.2 = some zs ∧ ν' p.1 = zs) →
    (∀ p ∈ rowsG base j ms xs cs, tkK p.1 ∈ ownKeys base j ms ∧ RowOK P F' w' p.2 (ν' (tC p.1)) ∧ ∀ b, p.2.blk = some b → (tkK p.1, b) ∈ kbG base j ms cs) ∧
    ∀ L' : Lay, (∀ b, F' b → L'.F b) → (∀ p ∈ rowsG base j ms xs cs, L'.row p.1 = some p.2) → ∀ zs, outV raw (outPc q j ms) = some zs → RAs P L' w' (resAt base j ms) zs cs
  | [], j, xs, cs, H, hr, hν => by
    have h1 : cs = [] := List.eq_nil_of_length_eq_zero H.ml.symm
    subst h1
    have h2 : xs = [] := List.eq_nil_of_length_eq_zero H.xl
    subst h2
    refine ⟨fun p hp => by simp [rowsG] at hp, fun L' _ _ zs hz => ?_⟩
    rw [outV_nil hz]
    exact .nil
  | m :: ms, j, xs, [], H, hr, hν => by have := H.ml; simp at this
  | m :: ms, j, [], c :: cs, H, hr, hν => by have := H.xl; simp at this
  | m :: ms, j, x :: xs, c :: cs, H, hr, hν => by
    have H' : PCells P F' F' w' ms xs cs := ⟨by have := H.ml; simpa using this, by have := H.xl; simpa using this, fun i h h1 h2 => H.ok (i + 1) (by simpa using h) (by simpa using h1) (by simpa using h2)⟩
    have hr' : ∀ i (h : i < xs.length), (raw[q]?).bind (·[j + 1 + i]?) = some xs[i] := fun i h => by
      have := hr (i + 1) (by simpa using h)
      rw [show j + 1 + i = j + (i + 1) by omega]
      simpa using this
    have h0 := H.ok 0 (by simp) (by simp) (by simp)
    have hx0 := hr 0 (by simp)
    simp only [Nat.add_zero, List.getElem_cons_zero] at hx0 h0
    have hpk : pk raw (q, j) = some x := by
      unfold pk
      rw [hx0]
      have := h0.1
      split
      · rename_i he; cases he; exact absurd rfl this
      · rfl
    cases m with
    | own =>
      have hν' : ∀ p ∈ outTok q base (j + 1) ms, ∃ zs, outV raw p.2 = some zs ∧ ν' p.1 = zs := fun p hp => hν p (by simp [outTok, hp])
      obtain ⟨g1, g2⟩ := grp ms (j + 1) xs cs H' hr' hν'
      refine ⟨fun p hp => ?_, fun L' hF hrow zs hz => ?_⟩
      · simp only [rowsG, List.mem_cons] at hp
        rcases hp with rfl | hp
        · obtain ⟨zs, h1, h2⟩ := hν (tC (base + j), [some (q, j)]) (by simp [outTok])
          obtain ⟨z, r, rfl, h3, h4⟩ := outV_cons h1
          rw [outV_nil h4] at h2
          simp only [outV1, hpk, Option.some.injEq] at h3
          subst h3
          refine ⟨by simp [ownKeys], by rw [h2]; exact h0.2, fun b hb => ?_⟩
          simp only [kbG, List.mem_append, List.mem_map]
          exact .inl ⟨b, by simpa [Row.blk] using hb, rfl⟩
        · obtain ⟨h1, h2, h3⟩ := g1 p hp
          exact ⟨by simp [ownKeys, h1], h2, fun b hb => by simp only [kbG, List.mem_append]; exact .inr (h3 b hb)⟩
      · obtain ⟨z, r, rfl, h3, h4⟩ := outV_cons (ps := outPc q (j + 1) ms) hz
        cases h3
        exact RAs.cons (.inr ⟨rfl, _, hrow (base + j, ⟨c, eOf x⟩) (by simp [rowsG]), rfl⟩) (g2 L' hF (fun p hp => hrow p (by simp [rowsG, hp])) r h4)
    | fz =>
      obtain ⟨g1, g2⟩ := grp ms (j + 1) xs cs H' hr' hν
      refine ⟨g1, fun L' hF hrow zs hz => ?_⟩
      obtain ⟨z, r, rfl, h3, h4⟩ := outV_cons (ps := outPc q (j + 1) ms) hz
      simp only [outV1, hpk, Option.some.injEq] at h3
      subst h3
      exact RAs.cons (.inr (Rd.mono h0.2 hF (fun _ _ => rfl))) (g2 L' hF hrow r h4)
    | lent =>
      obtain ⟨g1, g2⟩ := grp ms (j + 1) xs cs H' hr' hν
      refine ⟨g1, fun L' hF hrow zs hz => ?_⟩
      obtain ⟨z, r, rfl, h3, h4⟩ := outV_cons (ps := outPc q (j + 1) ms) hz
      simp only [outV1, hpk, Option.some.injEq] at h3
      subst h3
      exact RAs.cons (.inr (Rd.mono h0.2 hF (fun _ _ => rfl))) (g2 L' hF hrow r h4)

/-- results, and variables that come back: ou their places, kl their keys, sb the variables' shapes; rw rows, nb new variables, cb variables that come back, kb all blocks by key, bl the blocks -/
structure ItOK (P : Program) (F' : Nat → Prop) (w' : World) (ν' : Env) (ou kl : List Nat) (sb : List (Nat × Bx)) (rw : List (Nat × Row)) (nb cb kb : List (Nat × Nat)) (bl : List Nat) : Prop where
  rk : ∀ p ∈ rw, tkK p.1 ∈ kl ∧ RowOK P F' w' p.2 (ν' (tC p.1)) ∧ ∀ b, p.2.blk = some b → (tkK p.1, b) ∈ kb
  nk : ∀ p ∈ nb, bxK p.1 ∈ kl ∧ (bxK p.1, p.2) ∈ kb ∧ p.1 ∈ sb.map (·.1)
  ck : ∀ p ∈ cb, (bxK p.1, p.2) ∈ kb ∧ p.1 ∈ sb.map (·.1)
  sn : kb.map (·.2) = bl
  bx : ∀ p ∈ sb, p.2.ro = false ∧ ∀ L' : Lay, (∀ b, F' b → L'.F b) → (∀ q ∈ rw, L'.row q.1 = some q.2) → ∀ b, (p.1, b) ∈ nb ∨ (p.1, b) ∈ cb → BoxOK P L' w' b p.2.as (ν' (bC p.1))
  rp : (rw.map fun p => tC p.1).Sublist ou
  np : (nb.map fun p => bC p.1).Sublist ou
  sp : (sb.map fun p => bC p.1).Sublist ou
  bd : ∀ p ∈ sb, bxK p.1 ∈ kl ∨ ∃ b, (p.1, b) ∈ cb
  ot : ∀ t, tC t ∈ ou → tkK t ∈ kl
  ob : ∀ u, bC u ∈ ou → u ∈ sb.map (·.1)
  om : ∀ c ∈ ou, c % 3 ≠ 0
theorem bC_inj {u v : Nat} (h : bC u = bC v) : u = v := by simp only [bC] at h; omega
theorem ItOK.cat {F' : Nat → Prop} {ou1 ou2 kl1 kl2 : List Nat} {sb1 sb2 : List (Nat × Bx)} {rw1 rw2 : List (Nat × Row)} {nb1 nb2 cb1 cb2 kb1 kb2 : List (Nat × Nat)} {bl1 bl2 : List Nat} (h1 : ItOK P F' w' ν' ou1 kl1 sb1 rw1 nb1 cb1 kb1 bl1) (h2 : ItOK P F' w' ν' ou2 kl2 sb2 rw2 nb2 cb2 kb2 bl2) (hn : (ou1 ++ ou2).Nodup) :
    ItOK P F' w' ν' (ou1 ++ ou2) (kl1 ++ kl2) (sb1 ++ sb2) (rw1 ++ rw2) (nb1 ++ nb2) (cb1 ++ cb2) (kb1 ++ kb2) (bl1 ++ bl2) := by
  have hdis : ∀ u, u ∈ sb1.map (·.1) → u ∈ sb2.map (·.1) → False := by
    intro u hu hv
    have k1 : bC u ∈ ou1 := h1.sp.subset (by
      obtain ⟨p, hp, rfl⟩ := List.mem_map.1 hu
      exact List.mem_map.2 ⟨p, hp, rfl⟩)
    have k2 : bC u ∈ ou2 := h2.sp.subset (by
      obtain ⟨p, hp, rfl⟩ := List.mem_map.1 hv
      exact List.mem_map.2 ⟨p, hp, rfl⟩)
    exact (List.nodup_append.1 hn).2.2 _ k1 _ k2 rfl
  refine ⟨fun p hp => ?_, fun p hp => ?_, fun p hp => ?_, by rw [List.map_append, h1.sn, h2.sn], fun p hp => ?_, ?_, ?_, ?_, fun p hp => ?_, fun t ht => ?_, fun u hu => ?_, fun c hc => ?_⟩
  · rcases List.mem_append.1 hp with hp | hp
    · obtain ⟨k1, k2, k3⟩ := h1.rk p hp
      exact ⟨List.mem_append_left _ k1, k2, fun b hb => List.mem_append_left _ (k3 b hb)⟩
    · obtain ⟨k1, k2, k3⟩ := h2.rk p hp
      exact ⟨List.mem_append_right _ k1, k2, fun b hb => List.mem_append_right _ (k3 b hb)⟩
  · rcases List.mem_append.1 hp with hp | hp
    · obtain ⟨k1, k2, k3⟩ := h1.nk p hp
      exact ⟨List.mem_append_left _ k1, List.mem_append_left _ k2, by rw [List.map_append]; exact List.mem_append_left _ k3⟩
    · obtain ⟨k1, k2, k3⟩ := h2.nk p hp
      exact ⟨List.mem_append_right _ k1, List.mem_append_right _ k2, by rw [List.map_append]; exact List.mem_append_right _ k3⟩
  · rcases List.mem_append.1 hp with hp | hp
    · obtain ⟨k2, k3⟩ := h1.ck p hp
      exact ⟨List.mem_append_left _ k2, by rw [List.map_append]; exact List.mem_append_left _ k3⟩
    · obtain ⟨k2, k3⟩ := h2.ck p hp
      exact ⟨List.mem_append_right _ k2, by rw [List.map_append]; exact List.mem_append_right _ k3⟩
  · rcases List.mem_append.1 hp with hp | hp
    · obtain ⟨k1, k2⟩ := h1.bx p hp
      have hm : p.1 ∈ sb1.map (·.1) := List.mem_map.2 ⟨p, hp, rfl⟩
      refine ⟨k1, fun L' hF hrow b hb => k2 L' hF (fun q hq => hrow q (List.mem_append_left _ hq)) b ?_⟩
      rcases hb with hb | hb
      · rcases List.mem_append.1 hb with hb | hb
        · exact .inl hb
        · exact (hdis _ hm (h2.nk _ hb).2.2).elim
      · rcases List.mem_append.1 hb with hb | hb
        · exact .inr hb
        · exact (hdis _ hm (h2.ck _ hb).2).elim
    · obtain ⟨k1, k2⟩ := h2.bx p hp
      have hm : p.1 ∈ sb2.map (·.1) := List.mem_map.2 ⟨p, hp, rfl⟩
      refine ⟨k1, fun L' hF hrow b hb => k2 L' hF (fun q hq => hrow q (List.mem_append_right _ hq)) b ?_⟩
      rcases hb with hb | hb
      · rcases List.mem_append.1 hb with hb | hb
        · exact (hdis _ (h1.nk _ hb).2.2 hm).elim
        · exact .inl hb
      · rcases List.mem_append.1 hb with hb | hb
        · exact (hdis _ (h1.ck _ hb).2 hm).elim
        · exact .inr hb
  · rw [List.map_append]; exact h1.rp.append h2.rp
  · rw [List.map_append]; exact h1.np.append h2.np
  · rw [List.map_append]; exact h1.sp.append h2.sp
  · rcases List.mem_append.1 hp with hp | hp
    · exact (h1.bd p hp).imp (List.mem_append_left _) (fun ⟨b, h⟩ => ⟨b, List.mem_append_left _ h⟩)
    · exact (h2.bd p hp).imp (List.mem_append_right _) (fun ⟨b, h⟩ => ⟨b, List.mem_append_right _ h⟩)
  · exact (List.mem_append.1 ht).elim (fun h => List.mem_append_left _ (h1.ot t h)) (fun h => List.mem_append_right _ (h2.ot t h))
  · rw [List.map_append]; exact (List.mem_append.1 hu).elim (fun h => List.mem_append_left _ (h1.ob u h)) (fun h => List.mem_append_right _ (h2.ob u h))
  · exact (List.mem_append.1 hc).elim (h1.om c) (h2.om c)
theorem ItOK.nil {F' : Nat → Prop} : ItOK P F' w' ν' [] [] [] [] [] [] [] [] := ⟨by simp, by simp, by simp, rfl, by simp, by simp, by simp, by simp, by simp, by simp, by simp, by simp⟩
def Res.ou (R : Res) : List Nat := R.outs.map (·.1)
theorem outTok_mem {q base : Nat} : ∀ (ms : List PM) (j : Nat) (c : Nat), c ∈ (outTok q base j ms).map (·.1) → ∃ t, c = tC t ∧ tkK t ∈ ownKeys base j ms
  | [], j, c, h => by simp [outTok] at h
  | m :: ms, j, c, h => by
    cases m with
    | own =>
      simp only [outTok, List.map_cons, List.mem_cons] at h
      rcases h with rfl | h
      · exact ⟨_, rfl, by simp [ownKeys]⟩
      · obtain ⟨t, h1, h2⟩ := outTok_mem ms (j + 1) c h
        exact ⟨t, h1, by simp [ownKeys, h2]⟩
    | _ => exact outTok_mem ms (j + 1) c h
theorem tC_inj {s t : Nat} (h : tC s = tC t) : s = t := by simp only [tC] at h; omega
theorem outTok_ot {q base j : Nat} {ms : List PM} (t : Nat) (h : tC t ∈ (outTok q base j ms).map (·.1)) : tkK t ∈ ownKeys base j ms := by
  obtain ⟨t', h1, h2⟩ := outTok_mem ms j _ h
  rw [tC_inj h1]; exact h2
theorem outTok_ob {q base j : Nat} {ms : List PM} (u : Nat) (h : bC u ∈ (outTok q base j ms).map (·.1)) : False := by
  obtain ⟨t', h1, h2⟩ := outTok_mem ms j _ h
  simp only [bC, tC] at h1; omega
theorem outTok_om {q base j : Nat} {ms : List PM} (c : Nat) (h : c ∈ (outTok q base j ms).map (·.1)) : c % 3 ≠ 0 := by
  obtain ⟨t', h1, h2⟩ := outTok_mem ms j _ h
  simp only [tC] at h1; omega
theorem rowsG_places {q base : Nat} : ∀ (ms : List PM) (j : Nat) (xs : List V) (cs : List Value), ((rowsG base j ms xs cs).map fun p => tC p.1).Sublist ((outTok q base j ms).map (·.1))
  | [], j, xs, cs => by simp [rowsG]
  | m :: ms, j, [], cs => by cases m <;> simp [rowsG]
  | m :: ms, j, x :: xs, [] => by cases m <;> simp [rowsG]
  | m :: ms, j, x :: xs, c :: cs => by
    cases m with
    | own => simp only [rowsG, outTok, List.map_cons]; exact (rowsG_places ms (j + 1) xs cs).cons_cons _
    | _ => exact rowsG_places ms (j + 1) xs cs
theorem box_of {b : Nat} {as : List At} {zs : List V} (ho : boxOpen w' b) (h : RAs P L w' as zs (cellsAt w' b)) : BoxOK P L w' b as zs := by
  obtain ⟨C, ty, fz, h1, h2⟩ := ho
  refine ⟨C, ty, fz, h1, h2, ?_⟩
  simpa [cellsAt, h1] using h
theorem back1_ok {F' : Nat → Prop} {raw : List (List V)} {q u b : Nat} {ms : List PM} {xs : List V} (h : boxOpen w' b ∧ PCells P F' F' w' ms xs (cellsAt w' b)) (hr : raw[q]? = some xs)
    (hν : ∀ p ∈ (back1 q u ms).outs, ∃ zs, outV raw p.2 = some zs ∧ ν' p.1 = zs) :
    ∃ rw kb, ItOK P F' w' ν' (back1 q u ms).ou (back1 q u ms).kill (back1 q u ms).setb rw [] [(u, b)] kb (b :: blkG ms (cellsAt w' b)) := by
  obtain ⟨h1, h2⟩ := h
  obtain ⟨g1, g2⟩ := grp (P := P) (w' := w') (ν' := ν') (F' := F') (raw := raw) (q := q) (base := tokB u 0) ms 0 xs (cellsAt w' b) h2 (fun i hi => by simp [hr, hi]) (fun p hp => hν p (by simp [back1, hp]))
  refine ⟨rowsG (tokB u 0) 0 ms xs (cellsAt w' b), (bxK u, b) :: kbG (tokB u 0) 0 ms (cellsAt w' b), fun p hp => ?_, by simp, fun p hp => ?_, by simp [kbG_snd], fun p hp => ?_, ?_, by simp, by simp [back1, Res.ou], fun p hp => .inr ⟨b, by simp [back1] at hp; subst hp; simp⟩, fun t ht => ?_, fun v hv => ?_, fun c hc => ?_⟩
  · obtain ⟨k1, k2, k3⟩ := g1 p hp
    exact ⟨k1, k2, fun b hb => List.mem_cons_of_mem _ (k3 b hb)⟩
  · have : p = (u, b) := by simpa using hp
    subst this
    simp [back1]
  · have : p = (u, ⟨false, resAt (tokB u 0) 0 ms⟩) := by simpa [back1] using hp
    subst this
    refine ⟨rfl, fun L' hF hrow b' hb' => ?_⟩
    have : b' = b := by simpa using hb'
    subst this
    obtain ⟨zs, h3, h4⟩ := hν (bC u, outPc q 0 ms) (by simp [back1])
    rw [h4]
    exact box_of h1 (g2 L' hF hrow zs h3)
  · simp only [Res.ou, back1, List.map_cons]
    exact (rowsG_places ms 0 xs _).cons _
  · simp only [Res.ou, back1, List.map_cons, List.mem_cons] at ht
    rcases ht with ht | ht
    · simp only [tC, bC] at ht; omega
    · exact outTok_ot t ht
  · simp only [Res.ou, back1, List.map_cons, List.mem_cons] at hv
    rcases hv with hv | hv
    · rw [bC_inj hv]; simp [back1]
    · exact (outTok_ob v hv).elim
  · simp only [Res.ou, back1, List.map_cons, List.mem_cons] at hc
    rcases hc with hc | hc
    · simp only [bC] at hc; omega
    · exact outTok_om c hc
theorem obx_ot {d q o : Nat} {ms : List PM} : ∀ t, tC t ∈ (res1 d q o (.obx ms)).ou → tkK t ∈ (res1 d q o (.obx ms)).kill := fun t ht => by
  simp only [Res.ou, res1, List.map_cons, List.mem_cons] at ht ⊢
  rcases ht with ht | ht
  · simp only [tC, bC] at ht; omega
  · exact .inr (outTok_ot t ht)
theorem obx_ob {d q o : Nat} {ms : List PM} : ∀ u, bC u ∈ (res1 d q o (.obx ms)).ou → u ∈ (res1 d q o (.obx ms)).setb.map (·.1) := fun v hv => by
  simp only [Res.ou, res1, List.map_cons, List.mem_cons] at hv
  rcases hv with hv | hv
  · rw [bC_inj hv]; simp [res1]
  · exact (outTok_ob v hv).elim
theorem obx_om {d q o : Nat} {ms : List PM} : ∀ c ∈ (res1 d q o (.obx ms)).ou, c % 3 ≠ 0 := fun c hc => by
  simp only [Res.ou, res1, List.map_cons, List.mem_cons] at hc
  rcases hc with hc | hc
  · simp only [bC] at hc; omega
  · exact outTok_om c hc
theorem res1_ok {F' : Nat → Prop} {raw : List (List V)} {d q o : Nat} {s : RSh} {xs : List V} {v : Value} (h : RRes P F' w' s xs v) (hr : raw[q]? = some xs)
    (hν : ∀ p ∈ (res1 d q o s).outs, ∃ zs, outV raw p.2 = some zs ∧ ν' p.1 = zs) :
    ∃ rw nb kb, ItOK P F' w' ν' (res1 d q o s).ou (res1 d q o s).kill (res1 d q o s).setb rw nb [] kb (resB w' s v) ∧ ∀ L' : Lay, (∀ b, F' b → L'.F b) → (∀ p ∈ rw, L'.row p.1 = some p.2) → (∀ p ∈ nb, L'.box p.1 = some (p.2, false)) → ∀ zs, outV raw (res1 d q o s).sl = some zs → RPart P L' w' (res1 d q o s).part zs v := by
  cases s with
  | one m =>
    obtain ⟨g1, g2⟩ := grp (P := P) (w' := w') (ν' := ν') (F' := F') (raw := raw) (q := q) (base := tokS d o) [m] 0 xs [v] h (fun i hi => by simp [hr, hi]) hν
    exact ⟨rowsG (tokS d o) 0 [m] xs [v], [], kbG (tokS d o) 0 [m] [v], ⟨g1, by simp, by simp, by simp [kbG_snd, resB], by simp [res1], rowsG_places _ _ _ _, by simp, by simp [res1], by simp [res1], fun t ht => outTok_ot t ht, fun u hu => (outTok_ob u hu).elim, fun c hc => outTok_om c hc⟩, fun L' hF hrow _ zs hz => g2 L' hF hrow zs hz⟩
  | agg ms =>
    obtain ⟨cs, rfl, h⟩ := h
    obtain ⟨g1, g2⟩ := grp (P := P) (w' := w') (ν' := ν') (F' := F') (raw := raw) (q := q) (base := tokS d o) ms 0 xs cs.toList h (fun i hi => by simp [hr, hi]) hν
    exact ⟨rowsG (tokS d o) 0 ms xs cs.toList, [], kbG (tokS d o) 0 ms cs.toList, ⟨g1, by simp, by simp, by simp [kbG_snd, resB], by simp [res1], rowsG_places _ _ _ _, by simp, by simp [res1], by simp [res1], fun t ht => outTok_ot t ht, fun u hu => (outTok_ob u hu).elim, fun c hc => outTok_om c hc⟩, fun L' hF hrow _ zs hz => ⟨cs, rfl, g2 L' hF hrow zs hz⟩⟩
  | obx ms =>
    rcases h with ⟨rfl, hx⟩ | ⟨b, ys, rfl, ho, rfl, h⟩
    · refine ⟨[], [], [], ⟨by simp, by simp, by simp, by simp [resB], fun p hp => ?_, by simp, by simp, by simp [res1, Res.ou], fun p hp => .inl (by simp [res1] at hp ⊢; simp [hp]), obx_ot, obx_ob, obx_om⟩, fun L' hF hrow _ zs hz => ?_⟩
      · have : p = (boxN d q, ⟨false, resAt (tokB (boxN d q) 0) 1 ms⟩) := by simpa [res1] using hp
        subst this
        exact ⟨rfl, fun L' _ _ b hb => by simp at hb⟩
      · obtain ⟨z, r, rfl, h3, h4⟩ := outV_cons hz
        rw [outV_nil h4]
        cases xs with
        | nil => simp at hx
        | cons x xs =>
          have : x = .bool false := by simpa using hx
          subst this
          simp only [outV1, pk, hr, Option.bind_some, List.getElem?_cons_zero, Option.some.injEq] at h3
          subst h3
          exact RAs.one (.inr (.inl ⟨rfl, rfl⟩))
    · obtain ⟨g1, g2⟩ := grp (P := P) (w' := w') (ν' := ν') (F' := F') (raw := raw) (q := q) (base := tokB (boxN d q) 0) ms 1 ys (cellsAt w' b) h (fun i hi => by simp [hr, Nat.add_comm 1 i, hi]) (fun p hp => hν p (by simp [res1, hp]))
      refine ⟨rowsG (tokB (boxN d q) 0) 1 ms ys (cellsAt w' b), [(boxN d q, b)], (bxK (boxN d q), b) :: kbG (tokB (boxN d q) 0) 1 ms (cellsAt w' b), ⟨fun p hp => ?_, fun p hp => ?_, by simp, by simp [kbG_snd, resB], fun p hp => ?_, ?_, by simp [res1, Res.ou], by simp [res1, Res.ou], fun p hp => .inl (by simp [res1] at hp ⊢; simp [hp]), obx_ot, obx_ob, obx_om⟩, fun L' hF hrow hnb zs hz => ?_⟩
      · obtain ⟨k1, k2, k3⟩ := g1 p hp
        exact ⟨by simp [res1, k1], k2, fun b hb => List.mem_cons_of_mem _ (k3 b hb)⟩
      · have : p = (boxN d q, b) := by simpa using hp
        subst this
        simp [res1]
      · have : p = (boxN d q, ⟨false, resAt (tokB (boxN d q) 0) 1 ms⟩) := by simpa [res1] using hp
        subst this
        refine ⟨rfl, fun L' hF hrow b' hb' => ?_⟩
        have : b' = b := by simpa using hb'
        subst this
        obtain ⟨zs, h3, h4⟩ := hν (bC (boxN d q), outPc q 1 ms) (by simp [res1])
        rw [h4]
        exact box_of ho (g2 L' hF hrow zs h3)
      · simp only [Res.ou, res1, List.map_cons]
        exact (rowsG_places ms 1 ys _).cons _
      · obtain ⟨z, r, rfl, h3, h4⟩ := outV_cons hz
        rw [outV_nil h4]
        simp only [outV1, pk, hr, Option.bind_some, List.getElem?_cons_zero, Option.some.injEq] at h3
        subst h3
        exact RAs.one (.inr (.inr ⟨rfl, b, false, hnb (boxN d q, b) (by simp), rfl⟩))
end
end Go.Proofs.YtogfkdpgkloljaaDoorVs
