/-
  A call of a function comes to what its instructions say. Conditions: each lemma's own premises.
-/
import Derived.Test.YtogfkdpgkloljaaDoorVsX
set_option linter.unusedVariables false
set_option linter.unusedSimpArgs false
namespace Go.Proofs.YtogfkdpgkloljaaDoorVs
section
variable {P : Program} {w0 : World} {M : Nat → Prop} {N : Fr} {α : Al} {ν ν' : Env} {L : Lay} {a : Act} {w w' : World} {Φ : Funs} {o : Oper} {d : Nat} {E : Eff}
theorem nodup_of_map {β γ : Type} {f : β → γ} : ∀ {l : List β}, (l.map f).Nodup → l.Nodup
  | [], _ => List.nodup_nil
  | x :: l, h => by
    simp only [List.map_cons, List.nodup_cons] at h
    exact List.nodup_cons.2 ⟨fun hm => h.1 (List.mem_map.2 ⟨x, hm, rfl⟩), nodup_of_map h.2⟩
/-- the layout with some rows told for good -/
def Lay.frozen (L : Lay) (fz : List Nat) : Lay := L.after (fz.map tkK) (fun _ => none) (fun _ => none) (fun b => L.F b ∨ L.gvB (· ∈ fz) b)
theorem frozen_row {fz : List Nat} {t : Nat} (h : t ∉ fz) : (L.frozen fz).row t = L.row t := by
  have : tkK t ∉ fz.map tkK := fun hm => by
    obtain ⟨s, hs, he⟩ := List.mem_map.1 hm
    rw [tkK_inj he] at hs; exact h hs
  simp only [Lay.frozen, Lay.after, if_neg this]
theorem frozen_box {fz : List Nat} {u : Nat} : (L.frozen fz).box u = L.box u := by
  have : bxK u ∉ fz.map tkK := fun hm => by
    obtain ⟨s, hs, he⟩ := List.mem_map.1 hm
    exact tkbx he
  simp only [Lay.frozen, Lay.after, if_neg this]
theorem Rel.frozen (R : Rel P w0 M N α ν L a w) (fz : List Nat) : Rel P w0 M N (α.sk [] (fz.map tkK)) ν (L.frozen fz) a w :=
  R.freeze (fz.map tkK) (· ∈ fz) (fun t => ⟨fun h => by
    obtain ⟨s, hs, he⟩ := List.mem_map.1 h
    rw [tkK_inj he] at hs; exact hs, fun h => List.mem_map.2 ⟨t, h, rfl⟩⟩) (fun u h => by
    obtain ⟨s, hs, he⟩ := List.mem_map.1 h
    exact tkbx he)
/-- ahead of the call -/
theorem call_pre (R : Rel P w0 M N α ν L a w) {ps : List PSh} {As : List Arg} {fz : List Nat} {ka : List (Nat × Nat)} {zs : List Nat} {xss : List (List V)} {cs : List Value} (A : ArgsOK P L w ps As fz ka zs xss cs)
    (hK : (As.map Arg.keys).flatten.Nodup) (hln : ∀ k, k ∈ (As.map (·.ln)).flatten → k ∉ (As.map Arg.keys).flatten) :
    (∀ b, (L.frozen fz).F b → b < w.heap.size ∧ b ∉ argsB w ps cs) ∧ PArgs P (L.frozen fz).F (fun b => b < w.heap.size ∧ b ∉ argsB w ps cs) w ps xss cs ∧ (argsB w ps cs).Nodup ∧ (∀ b ∈ argsB w ps cs, b < w.heap.size) ∧ (∀ b ∈ argsB w ps cs, mine w0 M b) := by
  have hK2 := (A.pm.nodup_iff).1 hK
  obtain ⟨hka, _, hdis⟩ := List.nodup_append.1 hK2
  have hB : ∀ b, b ∈ argsB w ps cs → ∃ k, (k, b) ∈ ka ∧ L.keyB k b := fun b hb => by
    rw [← A.sn] at hb
    obtain ⟨q, hq, rfl⟩ := List.mem_map.1 hb
    exact ⟨q.1, hq, A.kb q hq⟩
  have hBm : ∀ b, b ∈ argsB w ps cs → mine w0 M b ∧ b < w.heap.size ∧ ¬ L.S b := fun b hb => by
    obtain ⟨k, _, h⟩ := hB b hb
    exact keyB_mine R h
  have hfzB : ∀ b, L.gvB (· ∈ fz) b → b < w.heap.size ∧ b ∉ argsB w ps cs := by
    rintro b ⟨t, r, ht, h1, h2⟩
    refine ⟨(R.rowmine t r b h1 h2).2.1, fun hb => ?_⟩
    obtain ⟨k, hk, hkb⟩ := hB b hb
    have := keyB_inj R hkb (.inl ⟨t, r, rfl, h1, h2⟩)
    subst this
    exact hdis _ (List.mem_map.2 ⟨_, hk, rfl⟩) _ (List.mem_append_left _ (List.mem_map.2 ⟨t, ht, rfl⟩)) rfl
  have hF : ∀ b, (L.frozen fz).F b → b < w.heap.size ∧ b ∉ argsB w ps cs := by
    rintro b (h | h)
    · exact ⟨R.sl b (R.fs b h), fun hb => (hBm b hb).2.2 (R.fs b h)⟩
    · exact hfzB b h
  refine ⟨hF, A.ok _ _ (fun b h => .inl h) (fun b ⟨t, ht, r, h1, h2⟩ => .inr ⟨t, r, ht, h1, h2⟩) (fun b h => ⟨R.sl b h, fun hb => (hBm b hb).2.2 h⟩) (fun k b hk hb => ⟨(keyB_mine R hb).2.1, fun hm => ?_⟩), ?_, fun b hb => (hBm b hb).2.1, fun b hb => (hBm b hb).1⟩
  · obtain ⟨k', hk', hkb⟩ := hB b hm
    have := keyB_inj R hkb hb
    subst this
    exact hln _ hk ((A.pm.mem_iff).2 (List.mem_append_left _ (List.mem_map.2 ⟨_, hk', rfl⟩)))
  · rw [← A.sn]
    exact pair_nodup hka (fun k k' b h1 h2 => keyB_inj R (A.kb _ h1) (A.kb _ h2))
/-- after the call -/
theorem call_post (R : Rel P w0 M N α ν L a w) {g : Sig} {As : List Arg} {fz : List Nat} {ka : List (Nat × Nat)} {zs : List Nat} {xss raw : List (List V)} {cs vs : List Value} {F' : Nat → Prop} {d' : Nat} {ou ks : List Nat} {sb : List (Nat × Bx)} (A : ArgsOK P L w g.ps As fz ka zs xss cs)
    (hK : (As.map Arg.keys).flatten.Nodup) (SP : SimPost P (L.frozen fz).F w g cs raw vs F' w')
    (hou : ou = ((resL d' 0 0 g.rs).map Res.ou).flatten ++ ((backL g.rs.length As).map Res.ou).flatten) (hks : ks = (As.map (·.kill)).flatten ++ (((resL d' 0 0 g.rs).map (·.kill)).flatten ++ ((backL g.rs.length As).map (·.kill)).flatten))
    (hsb : sb = ((resL d' 0 0 g.rs).map (·.setb)).flatten ++ ((backL g.rs.length As).map (·.setb)).flatten) (hcb : ∀ p ∈ ((backL g.rs.length As).map (·.setb)).flatten, bxK p.1 ∉ ks) (hn : ou.Nodup)
    (hpl : ∀ p ∈ ((resL d' 0 0 g.rs).map (·.outs)).flatten ++ ((backL g.rs.length As).map (·.outs)).flatten, ∃ zs, outV raw p.2 = some zs ∧ ν' p.1 = zs) (hel : ∀ c, c % 3 ≠ 0 → c ∉ ou → ν' c = ν c) :
    ∃ L', Rel P w0 M N ((α.sk [] ks).setBs sb) (fun c => if c % 3 = 0 then ν c else ν' c) L' a w' ∧ (∀ c ∈ ou, c % 3 ≠ 0) ∧ ∀ zs, outV raw ((resL d' 0 0 g.rs).map (·.sl)).flatten = some zs → RParts P L' w' ((resL d' 0 0 g.rs).map (·.part)) zs vs := by
  have hK2 := (A.pm.nodup_iff).1 hK
  obtain ⟨hka, _, hdis⟩ := List.nodup_append.1 hK2
  have hB : ∀ b, b ∈ argsB w g.ps cs → ∃ k, (k, b) ∈ ka ∧ L.keyB k b := fun b hb => by
    rw [← A.sn] at hb
    obtain ⟨q, hq, rfl⟩ := List.mem_map.1 hb
    exact ⟨q.1, hq, A.kb q hq⟩
  -- what comes back
  obtain ⟨raw1, raw2, rfl, hl1, hRR, hRB⟩ := SP.res
  rw [hou] at hn
  have hn12 := List.nodup_append.1 hn
  obtain ⟨rw1, nb1, kb1, I1, p1⟩ := resL_ok (P := P) (w' := w') (ν' := ν') (raw := raw1 ++ raw2) (d := d') g.rs 0 0 raw1 vs hRR (fun i hi => by rw [Nat.zero_add, List.getElem?_append_left hi]) (fun p hp => hpl p (List.mem_append_left _ hp)) hn12.1
  obtain ⟨rw2, kb2, I2⟩ := backL_ok (P := P) (L := L) (w' := w') (ν' := ν') (raw := raw1 ++ raw2) As g.rs.length raw2 (fun B hB u ms hu => by obtain ⟨b, h, _⟩ := A.bx B hB u ms hu; exact ⟨b, h⟩) (by rw [← A.bk]; exact hRB) (fun i hi => by rw [← hl1, List.getElem?_append_right (by omega)]; congr 1; omega) (fun p hp => hpl p (List.mem_append_right _ hp)) hn12.2.1
  have I := I1.cat I2 hn
  rw [List.append_nil, List.nil_append] at I
  rw [← A.bk] at I2 I
  have hbl := SP.bl
  rw [← hou] at hn
  rw [← hou, ← hsb] at I
  generalize hkl : ((resL d' 0 0 g.rs).map (·.kill)).flatten ++ ((backL g.rs.length As).map (·.kill)).flatten = kl at I hks
  have hklk : ∀ k, k ∈ kl → k ∈ ks := fun k h => by rw [hks]; exact List.mem_append_right _ h
  have hkin : ∀ k, k ∈ (As.map (·.kill)).flatten → k ∈ ks := fun k h => by rw [hks]; exact List.mem_append_left _ h
  -- keys given are struck
  have hkey : ∀ t, tkK t ∈ (As.map Arg.keys).flatten → tkK t ∈ ks := fun t h => by
    obtain ⟨B, hB, hk⟩ := mem_flat.1 h
    refine hkin _ (mem_flat.2 ⟨B, hB, ?_⟩)
    simp only [Arg.keys, List.mem_append] at hk
    rcases hk with hk | hk
    · split at hk
      · exact (tkbx (List.mem_singleton.1 hk)).elim
      · simp at hk
    · exact hk
  have hkat : ∀ t, tkK t ∈ ka.map (·.1) → tkK t ∈ ks := fun t h => hkey t ((A.pm.mem_iff).2 (List.mem_append_left _ h))
  have hfzk : ∀ t, t ∈ fz → tkK t ∈ ks := fun t h => hkey t ((A.pm.mem_iff).2 (List.mem_append_right _ (List.mem_append_left _ (List.mem_map.2 ⟨t, h, rfl⟩))))
  have hkafz : ∀ t, tkK t ∈ ka.map (·.1) → t ∉ fz := fun t h h2 => hdis _ h _ (List.mem_append_left _ (List.mem_map.2 ⟨t, h2, rfl⟩)) rfl
  -- variables that come back
  have hcbk : ∀ u, bxK u ∈ ka.map (·.1) → ∃ b, (u, b) ∈ (As.map (cbOf L)).flatten ∧ L.box u = some (b, false) := fun u h => by
    have h1 := (A.pm.mem_iff).2 (List.mem_append_left _ h)
    obtain ⟨B, hB, hk⟩ := mem_flat.1 h1
    simp only [Arg.keys, List.mem_append] at hk
    rcases hk with hk | hk
    · split at hk
      · rename_i v ms he
        have hvu := bxK_inj (List.mem_singleton.1 hk)
        subst hvu
        obtain ⟨b, h2, _⟩ := A.bx B hB u ms he
        exact ⟨b, mem_flat.2 ⟨B, hB, by simp [cbOf, he, h2]⟩, h2⟩
      · simp at hk
    · obtain ⟨t, ht⟩ := A.kk _ (mem_flat.2 ⟨B, hB, hk⟩)
      exact (tkbx ht.symm).elim
  have hcbk' : ∀ u b, (u, b) ∈ (As.map (cbOf L)).flatten → bxK u ∈ ka.map (·.1) ∧ L.box u = some (b, false) := fun u b h => by
    obtain ⟨B, hB, hk⟩ := mem_flat.1 h
    simp only [cbOf] at hk
    split at hk
    · simp at hk
    · rename_i v ms he
      obtain ⟨b', h2, h3⟩ := A.bx B hB v ms he
      rw [h2] at hk
      simp at hk
      obtain ⟨rfl, rfl⟩ := hk
      exact ⟨h3, h2⟩
  -- blocks that come back
  have hbo : ∀ k b, (k, b) ∈ kb1 ++ kb2 → b < w'.heap.size ∧ (w.heap.size ≤ b ∨ b ∈ argsB w g.ps cs) ∧ ¬ F' b := fun k b h => hbl b (by
    rw [← I.sn]; exact List.mem_map.2 ⟨_, h, rfl⟩)
  have hinj : ∀ k k' b, (k, b) ∈ kb1 ++ kb2 → (k', b) ∈ kb1 ++ kb2 → k = k' := fun k k' b h1 h2 => snd_inj (by rw [I.sn]; exact SP.nd) h1 h2
  have hBgv : ∀ b, b ∈ argsB w g.ps cs → (L.frozen fz).gvB (fun t => tkK t ∈ ka.map (·.1)) b ∨ ∃ u, (bxK u, b) ∈ kb1 ++ kb2 ∧ bxK u ∈ ka.map (·.1) ∧ L.box u = some (b, false) := fun b hb => by
    obtain ⟨k, h1, h2⟩ := hB b hb
    rcases h2 with ⟨t, r, rfl, h3, h4⟩ | ⟨u, rfl, h3⟩
    · have ht : tkK t ∈ ka.map (·.1) := List.mem_map.2 ⟨_, h1, rfl⟩
      exact .inl ⟨t, r, ht, by rw [frozen_row (hkafz t ht)]; exact h3, h4⟩
    · have hu : bxK u ∈ ka.map (·.1) := List.mem_map.2 ⟨_, h1, rfl⟩
      obtain ⟨b', h5, h6⟩ := hcbk u hu
      rw [h3] at h6
      cases h6
      exact .inr ⟨u, (I.ck (u, b) (by simpa using h5)).1, hu, h3⟩
  have hnew : ∀ t b, (tkK t, b) ∈ kb1 ++ kb2 → b < w'.heap.size ∧ (w.heap.size ≤ b ∨ (L.frozen fz).gvB (fun t => tkK t ∈ ka.map (·.1)) b) ∧ ¬ F' b := fun t b h => by
    obtain ⟨h1, h2, h3⟩ := hbo _ b h
    refine ⟨h1, h2.imp id fun h4 => ?_, h3⟩
    rcases hBgv b h4 with h5 | ⟨u, h5, _⟩
    · exact h5
    · exact (tkbx (hinj _ _ _ h h5)).elim
  have hnrn : ((rw1 ++ rw2).map (·.1)).Nodup := by
    have := I.rp.nodup hn
    have e : ((rw1 ++ rw2).map fun p => tC p.1) = ((rw1 ++ rw2).map (·.1)).map tC := by rw [List.map_map]; rfl
    rw [e] at this
    exact nodup_of_map this
  have hnbn : (nb1.map (fun p => p.1)).Nodup := by
    have := I.np.nodup hn
    have e : (nb1.map fun p => bC p.1) = (nb1.map (fun p => p.1)).map bC := by rw [List.map_map]; rfl
    rw [e] at this
    exact nodup_of_map this
  have hsbn : (sb.map (·.1)).Nodup := by
    have := I.sp.nodup hn
    have e : (sb.map fun p => bC p.1) = (sb.map (·.1)).map bC := by rw [List.map_map]; rfl
    rw [e] at this
    exact nodup_of_map this
  have hsbi : ∀ u, u ∈ sb.map (·.1) → (setbOf sb u).isSome := fun u hu => by
    obtain ⟨p, hp, rfl⟩ := List.mem_map.1 hu
    have : (sb.reverse.find? (·.1 == p.1)) = some p := find_of_nodup (by rw [List.map_reverse]; exact ((List.reverse_perm _).nodup_iff).2 hsbn) (List.mem_reverse.2 hp)
    simp [setbOf, this]
  have hsbm : ∀ u x, setbOf sb u = some x → (u, x) ∈ sb := fun u x h => List.mem_reverse.1 (find_mem h)
  have e3t : ∀ t, tC t % 3 ≠ 0 := fun t => by simp only [tC]; omega
  have e3b : ∀ u, bC u % 3 ≠ 0 := fun u => by simp only [bC]; omega
  have R1 := R.frozen fz
  have D : CallDat P (L.frozen fz) w w' ν (fun c => if c % 3 = 0 then ν c else ν' c) ks (fun t => tkK t ∈ ka.map (·.1)) (fun t => ((rw1 ++ rw2).find? (·.1 == t)).map (·.2)) (fun u => (nb1.find? (·.1 == u)).map (·.2)) (fun u => bxK u ∈ ka.map (·.1)) F' (setbOf sb) := by
    have hLrow : ∀ q ∈ rw1 ++ rw2, ((L.frozen fz).after ks (fun t => ((rw1 ++ rw2).find? (·.1 == t)).map (·.2)) (fun u => (nb1.find? (·.1 == u)).map (·.2)) F').row q.1 = some q.2 := fun q hq => by
      simp only [Lay.after, if_pos (hklk _ (I.rk q hq).1), find_of_nodup hnrn hq, Option.map_some]
    refine ⟨SP.hw.mono (fun b hb => ?_), hkat, SP.hF, fun b hb => ?_, fun s => by simp [sC], fun t ht => ?_, fun u hu hcu => ?_, fun t r ht hr => ?_, fun t r b ht hr hb => ?_, fun u b hu hb => ?_, fun u hu => ?_, fun u x b ro hx hb => ?_, fun t t' r r' b ht ht' hr hr' hb hb' => ?_, fun t r u b ht hu hr hb hnb => ?_, fun u u' b hu hu' hb hb' => ?_⟩
    · rcases hBgv b hb with h | ⟨u, _, h1, h2⟩
      · exact .inl h
      · exact .inr ⟨u, h1, by rw [frozen_box]; exact h2⟩
    · rcases SP.hF' b hb with h | ⟨h1, h2⟩
      · exact .inl h
      · refine .inr ⟨h1, h2.imp id fun h3 => ?_⟩
        rcases hBgv b h3 with h4 | ⟨u, h4, _⟩
        · exact h4
        · exact absurd hb (hbo _ b h4).2.2
    · simp only [if_neg (e3t t)]
      exact hel _ (e3t t) (fun h => ht (hklk _ (I.ot t h)))
    · simp only [if_neg (e3b u)]
      refine hel _ (e3b u) (fun h => ?_)
      obtain ⟨p, hp, rfl⟩ := List.mem_map.1 (I.ob u h)
      rcases I.bd p hp with h1 | ⟨b, h1⟩
      · exact hu (hklk _ h1)
      · exact hcu (hcbk' _ b (by simpa using h1)).1
    · simp only [if_neg (e3t t)]
      exact (I.rk (t, r) (find_mem hr)).2.1
    · exact hnew t b ((I.rk (t, r) (find_mem hr)).2.2 b hb)
    · obtain ⟨h1, h2, h3⟩ := I.nk (u, b) (find_mem hb)
      obtain ⟨h4, h5, h6⟩ := hbo _ b h2
      refine ⟨h4, h5.imp id fun h7 => ?_, h6, hsbi u h3⟩
      rcases hBgv b h7 with h8 | ⟨v, h8, h9, _⟩
      · exact h8
      · have := bxK_inj (hinj _ _ _ h2 h8)
        subst this
        obtain ⟨b', h10, _⟩ := hcbk u h9
        have h11 := I2.ck (u, b') h10
        obtain ⟨p, hp, he⟩ := List.mem_map.1 h11.2
        exact absurd (hklk _ h1) (by have := hcb p hp; rw [he] at this; exact this)
    · obtain ⟨b', h10, _⟩ := hcbk u hu
      have h11 := I2.ck (u, b') h10
      obtain ⟨p, hp, he⟩ := List.mem_map.1 h11.2
      refine ⟨by have := hcb p hp; rw [he] at this; exact this, hsbi u ?_⟩
      exact (I.ck (u, b') (by simpa using h10)).2
    · have hm := hsbm u x hx
      obtain ⟨h1, h2⟩ := I.bx (u, x) hm
      simp only [if_neg (e3b u)]
      by_cases hu : bxK u ∈ ks
      · simp only [Lay.after, if_pos hu, Option.map_eq_some_iff, Prod.mk.injEq] at hb
        obtain ⟨b', hb', rfl, rfl⟩ := hb
        refine ⟨h1, h2 _ (fun b h => h) hLrow _ (.inl (find_mem (by simpa using hb')))⟩
      · have hb0 : L.box u = some (b, ro) := by
          simp only [Lay.after, if_neg hu, frozen_box] at hb; exact hb
        rcases I.bd (u, x) hm with h3 | ⟨b', h3⟩
        · exact absurd (hklk _ h3) hu
        · obtain ⟨h4, h5⟩ := hcbk' u b' (by simpa using h3)
          rw [h5] at hb0
          cases hb0
          exact ⟨h1, h2 _ (fun b h => h) hLrow _ (.inr h3)⟩
    · exact tkK_inj (hinj _ _ _ ((I.rk (t, r) (find_mem hr)).2.2 b hb) ((I.rk (t', r') (find_mem hr')).2.2 b hb'))
    · exact tkbx (hinj _ _ _ ((I.rk (t, r) (find_mem hr)).2.2 b hb) (I.nk (u, b) (find_mem hnb)).2.1)
    · exact bxK_inj (hinj _ _ _ (I.nk (u, b) (find_mem hb)).2.1 (I.nk (u', b) (find_mem hb')).2.1)
  have R2 := R1.callStep D
  rw [sk_sk, sk_congr (k2 := ks) (fun k => by
    simp only [List.mem_append]
    refine ⟨fun h => h.elim (fun h => ?_) id, .inr⟩
    obtain ⟨t, ht, rfl⟩ := List.mem_map.1 h
    exact hfzk t ht)] at R2
  refine ⟨_, R2, I.om, fun zs hz => p1 _ (fun b h => h) (fun p hp => ?_) (fun p hp => ?_) zs hz⟩
  · have hp' := List.mem_append_left rw2 hp
    simp only [Lay.after, if_pos (hklk _ (I.rk p hp').1), find_of_nodup hnrn hp', Option.map_some]
  · have hp' : p ∈ nb1 := hp
    simp only [Lay.after, if_pos (hklk _ (I.nk p hp').1), find_of_nodup hnbn hp', Option.map_some]
end
end Go.Proofs.YtogfkdpgkloljaaDoorVs
