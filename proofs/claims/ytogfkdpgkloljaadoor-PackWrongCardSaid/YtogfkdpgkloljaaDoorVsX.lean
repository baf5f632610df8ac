/-
  A call of a function comes to what its instructions say. Conditions: each lemma's own premises.
-/
import Derived.Test.YtogfkdpgkloljaaDoorVsW
set_option linter.unusedVariables false
set_option linter.unusedSimpArgs false
namespace Go.Proofs.YtogfkdpgkloljaaDoorVs
section
variable {P : Program} {w0 : World} {M : Nat → Prop} {N : Fr} {α : Al} {ν ν' : Env} {L : Lay} {a : Act} {w w' : World} {Φ : Funs} {o : Oper} {d : Nat} {E : Eff}
theorem numb_length : ∀ (k : Nat) (l : List (List Pc)), (numb k l).length = l.length
  | _, [] => rfl
  | k, ps :: r => by simp [numb, numb_length (k + ps.length) r]
theorem ins_pieces {pss : List (List Pc)} {xss : List (List V)} (h : (numb 0 pss).mapM (pks ((pss.flatten.map (·.1)).map (VArg.get ν))) = some xss) : xss.length = pss.length ∧ ∀ i (h : i < pss.length) (h' : i < xss.length), Pieces ν pss[i] xss[i] := by
  obtain ⟨h6, h7⟩ := gather_get h
  rw [numb_length] at h6
  refine ⟨h6, fun i hi hi' => ?_⟩
  obtain ⟨hi2, H⟩ := numb_args (ν := ν) pss [] i hi
  have := h7 i (by simpa using hi2) hi'
  rw [List.map_map] at this
  have h8 := H xss[i] this
  simpa [Pieces, pcGet] using h8
theorem mapM_some {β γ : Type} {f : β → Option γ} : ∀ {l : List β} {r : List γ}, l.mapM f = some r → r.length = l.length ∧ ∀ i (h : i < l.length) (h' : i < r.length), f l[i] = some r[i]
  | [], r, h => by
    simp only [List.mapM_nil] at h
    cases h
    exact ⟨rfl, fun i h => by cases h⟩
  | p :: ps, outs, h => by
    simp only [List.mapM_cons, Option.bind_eq_bind, Option.bind_eq_some_iff, Option.pure_def, Option.some.injEq] at h
    obtain ⟨x, hx, r, hr, rfl⟩ := h
    obtain ⟨h1, h2⟩ := mapM_some (l := ps) hr
    refine ⟨by simp [h1], fun i hi hi' => ?_⟩
    cases i with
    | zero => simpa using hx
    | succ i => simpa using h2 i (by simpa using hi) (by simpa using hi')
theorem parts_shape {rs : List Res} {sh : Sh} {zs : List V} {vs : List Value} (hsh : RM.out α (match rs with
      | [r] => RM.opt (mkSh r.part.1 r.part.2)
      | rs => .ok (Sh.tup (rs.map (·.part))) : RM Sh) sh) (h : RParts P L w (rs.map (·.part)) zs vs) : RSl P L w sh zs (tupV vs) := by
  have hmulti : (∀ r, rs ≠ [r]) → sh = .tup (rs.map (·.part)) → RSl P L w sh zs (tupV vs) := by
    intro hne he
    subst he
    have hlen : ∀ (ps : List (Bool × List At)) (zs : List V) (vs : List Value), RParts P L w ps zs vs → vs.length = ps.length := by
      intro ps
      induction ps with
      | nil => intro zs vs h; rw [h.2]; rfl
      | cons p ps ih => intro zs vs ⟨x1, x2, c, c2, _, h2, _, h4⟩; rw [h2]; simp [ih x2 c2 h4]
    have hl := hlen _ _ _ h
    have : tupV vs = .tuple vs.toArray := by
      unfold tupV
      split
      · rename_i v
        simp only [List.length_map, List.length_cons, List.length_nil] at hl
        obtain ⟨r, hr⟩ := List.length_eq_one_iff.1 hl.symm
        exact absurd hr (hne r)
      · rfl
    rw [this]
    exact ⟨_, rfl, by simpa using h⟩
  split at hsh
  · rename_i r
    rw [out_opt] at hsh
    obtain ⟨x1, x2, c, c2, rfl, rfl, h3, h4, h5⟩ := h
    subst h4 h5
    rw [List.append_nil]
    unfold mkSh at hsh
    split at hsh
    · rename_i hb
      cases hsh
      unfold RPart at h3
      rw [if_pos hb] at h3
      exact h3
    · rename_i hb
      unfold RPart at h3
      rw [if_neg hb] at h3
      split at hsh
      · rename_i a1 he
        cases hsh
        rw [he] at h3
        exact RSl.one h3
      · cases hsh
  · rename_i hne
    rw [out_ok] at hsh
    exact hmulti (fun r e => hne r e) hsh
theorem mem_flat {β γ : Type} {f : β → List γ} {l : List β} {x : γ} : x ∈ (l.map f).flatten ↔ ∃ b ∈ l, x ∈ f b := by
  simp only [List.mem_flatten, List.mem_map]
  constructor
  · rintro ⟨_, ⟨b, hb, rfl⟩, hx⟩; exact ⟨b, hb, hx⟩
  · rintro ⟨b, hb, hx⟩; exact ⟨_, ⟨b, hb, rfl⟩, hx⟩
theorem find_mem {β : Type} {l : List (Nat × β)} {t : Nat} {r : β} (h : (l.find? (·.1 == t)).map (·.2) = some r) : (t, r) ∈ l := by
  simp only [Option.map_eq_some_iff] at h
  obtain ⟨p, hp, rfl⟩ := h
  have h1 := List.mem_of_find?_eq_some hp
  have h2 := List.find?_some hp
  simp only [beq_iff_eq] at h2
  rw [← h2]; exact h1
theorem snd_inj {l : List (Nat × Nat)} (h : (l.map (·.2)).Nodup) {k k' b : Nat} (h1 : (k, b) ∈ l) (h2 : (k', b) ∈ l) : k = k' := by
  induction l with
  | nil => cases h1
  | cons p l ih =>
    simp only [List.map_cons, List.nodup_cons] at h
    rcases List.mem_cons.1 h1 with h1 | h1 <;> rcases List.mem_cons.1 h2 with h2 | h2
    · rw [← h1] at h2; cases h2; rfl
    · exact absurd (List.mem_map.2 ⟨_, h2, by rw [← h1]⟩) h.1
    · exact absurd (List.mem_map.2 ⟨_, h1, by rw [← h2]⟩) h.1
    · exact ih h.2 h1 h2
theorem pair_nodup {l : List (Nat × Nat)} (h : (l.map (·.1)).Nodup) (hi : ∀ k k' b, (k, b) ∈ l → (k', b) ∈ l → k = k') : (l.map (·.2)).Nodup := by
  induction l with
  | nil => exact List.nodup_nil
  | cons p l ih =>
    simp only [List.map_cons, List.nodup_cons] at h ⊢
    refine ⟨fun hm => ?_, ih h.2 (fun k k' b h1 h2 => hi k k' b (List.mem_cons_of_mem _ h1) (List.mem_cons_of_mem _ h2))⟩
    obtain ⟨q, hq, he⟩ := List.mem_map.1 hm
    have := hi p.1 q.1 p.2 List.mem_cons_self (by rw [← he]; exact List.mem_cons_of_mem _ hq)
    exact h.1 (List.mem_map.2 ⟨q, hq, this.symm⟩)
theorem tkbx {t u : Nat} (h : tkK t = bxK u) : False := by simp only [tkK, bxK] at h; omega
theorem bxK_inj {u v : Nat} (h : bxK u = bxK v) : u = v := by simp only [bxK] at h; omega
end
end Go.Proofs.YtogfkdpgkloljaaDoorVs
