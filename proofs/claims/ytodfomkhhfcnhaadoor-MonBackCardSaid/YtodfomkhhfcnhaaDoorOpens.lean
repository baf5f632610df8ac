/- What a law's parameter reads as, by its type: of a type's reading (DataW.trod) the kind's reading (Kd.K) follows; rows, structs and arrays are put together of their parts. -/
import Derived.Deep.Slices
import Derived.OpenShut
import GoSem.ClaimWide
import Derived.ChangeArms
import Derived.DataReads
import Derived.SizedLaws
import Derived.Test.YtodfomkhhfcnhaaDoorV1
namespace Go.Proofs.YtodfomkhhfcnhaaDoor.Opens
open Go Go.Proofs.YtodfomkhhfcnhaaDoorW.PrintWords
set_option linter.unusedVariables false
def Wt {H : Type} (P : Program) (t : TypeId) (d : DataW H) : Prop := ∀ n ∈ d.weights P t, n ≤ reachBytes
theorem wt_of {H : Type} {P : Program} {ts : List TypeId} {ds : List (DataW H)} {j : Nat} {t : TypeId} {d : DataW H} (h : (DataW.weightsEach P ts ds).all (· ≤ reachBytes) = true) (ht : ts[j]? = some t) (hd : ds[j]? = some d) : Wt P t d :=
  fun n hn => by simpa using List.all_eq_true.1 h _ (DataW.weights_mem_each ht hd n hn)
theorem wt_all {H : Type} {P : Program} {e : TypeId} : ∀ {l : List (DataW H)} {d : DataW H} {n : Nat}, d ∈ l → n ∈ d.weights P e → n ∈ DataW.weightsAll P e l
  | x :: l, d, n, h, hn => by
    rw [DataW.weightsAll, List.mem_append]
    rcases List.mem_cons.1 h with rfl | h
    · exact Or.inl hn
    · exact Or.inr (wt_all h hn)
structure Opens {α : Type} (P : Program) (t : TypeId) (d : Kd α) (wf : α → Prop) : Prop where
  sz : d.sz = P.cellsOf t
  op : ∀ {H : Type} {enc : TypeId × Value → H} {w : World} {spare : Nat → Bool} {held : Bool} {fuel : Nat} {cs : List Value} {x : DataW H × List MemPlace}, DataW.trod enc P w 0 spare held fuel t cs = some x → Wt P t x.1 → ∃ a, d.K w a cs ∧ wf a
theorem opens_int {P : Program} {t : TypeId} {k : IntKind} (ht : P.underlying t = some (.int k)) (hc : P.cellsOf t = 1) : Opens P t (Kd.int k) (fun n => (Lit.int k n).wf = true) :=
  ⟨hc.symm, fun h _ => by
    obtain ⟨n, rfl, _, hw⟩ := DataW.trod_int ht h
    exact ⟨n, rfl, hw⟩⟩
theorem opens_iso {P : Program} {t : TypeId} {β γ : Type} {d : Kd β} {wf : β → Prop} {f : γ → β} (g : β → γ) (hfg : ∀ b, f (g b) = b) (h : Opens P t d wf) : Opens P t (Kd.iso d f) (fun c => wf (f c)) :=
  ⟨h.sz, fun ht hz => by
    obtain ⟨a, ha, hw⟩ := h.op ht hz
    refine ⟨g a, ?_, ?_⟩
    · show d.K _ (f (g a)) _
      rw [hfg]; exact ha
    · show wf (f (g a))
      rw [hfg]; exact hw⟩
theorem Opens.weaken {P : Program} {t : TypeId} {β : Type} {d : Kd β} {wf wf' : β → Prop} (h : Opens P t d wf) (hw : ∀ x, wf x → wf' x) : Opens P t d wf' :=
  ⟨h.sz, fun ht hz => by
    obtain ⟨a, ha, hwa⟩ := h.op ht hz
    exact ⟨a, ha, hw a hwa⟩⟩
/-- Parts that lie behind one another: (type, where it begins). -/
structure OpensF {β : Type} (P : Program) (fs : List (TypeId × Nat)) (off total : Nat) (d : Kd β) (wf : β → Prop) : Prop where
  op : ∀ {H : Type} {enc : TypeId × Value → H} {w : World} {spare : Nat → Bool} {held : Bool} {n : Nat} {cs : List Value}, cs.length = total →
    (∀ f ∈ fs, ∃ x, DataW.trod enc P w 0 spare held n f.1 ((cs.drop f.2).take (P.cellsOf f.1)) = some x ∧ Wt P f.1 x.1) → ∃ a, d.K w a (cs.drop off) ∧ wf a
theorem opensF_last {P : Program} {β : Type} {d : Kd β} {wf : β → Prop} {t : TypeId} {off total : Nat} (h : Opens P t d wf) (ho : off + P.cellsOf t = total) : OpensF P [(t, off)] off total d wf :=
  ⟨fun hl hf => by
    obtain ⟨x, hx, hz⟩ := hf (t, off) (by simp)
    rw [List.take_of_length_le (by simp [List.length_drop]; omega)] at hx
    exact h.op hx hz⟩
theorem opensF_cons {P : Program} {β γ : Type} {d : Kd β} {e : Kd γ} {wf : β → Prop} {we : γ → Prop} {t : TypeId} {off nx total : Nat} {fs : List (TypeId × Nat)} (h : Opens P t d wf) (ho : off + P.cellsOf t = nx) (hr : OpensF P fs nx total e we) :
    OpensF P ((t, off) :: fs) off total (Kd.pair d e) (fun x => wf x.1 ∧ we x.2) :=
  ⟨fun {H enc w spare held n cs} hl hf => by
    obtain ⟨x, hx, hz⟩ := hf (t, off) (by simp)
    obtain ⟨a, ha, hwa⟩ := h.op hx hz
    obtain ⟨b, hb, hwb⟩ := hr.op hl (fun f hm => hf f (List.mem_cons_of_mem _ hm))
    refine ⟨(a, b), ⟨_, _, ?_, ha, hb⟩, hwa, hwb⟩
    rw [← ho, ← List.drop_drop, List.take_append_drop]⟩
theorem opens_struct {P : Program} {t : TypeId} {β : Type} {d : Kd β} {wf : β → Prop} {fs : Array Field} {l : List (TypeId × Nat)} (ht : P.underlying t = some (.struct fs)) (hl : fs.toList.map (fun f => (f.type, f.offset)) = l) (hs : d.sz = P.cellsOf t)
    (h : OpensF P l 0 (P.cellsOf t) d wf) : Opens P t d wf :=
  ⟨hs, fun hx hz => by
    obtain ⟨xs, n, _, rfl, hlen, hxl, hf⟩ := DataW.trod_struct ht hx
    have h2 := h.op hlen (fun f hm => by
      rw [← hl] at hm
      obtain ⟨g, hg, rfl⟩ := List.mem_map.1 hm
      obtain ⟨i, hi⟩ := List.getElem?_of_mem hg
      have hi' : fs[i]? = some g := by rw [← Array.getElem?_toList]; exact hi
      have h3 := hf i g hi'
      have hlt : i < xs.length := by
        rw [hxl]
        exact (Array.getElem?_eq_some_iff.1 hi').1
      rw [List.getElem?_eq_getElem hlt] at h3
      refine ⟨_, h3, fun n hn => hz n ?_⟩
      rw [DataW.weights, ht]
      exact DataW.weights_mem_each (j := i) (t := g.type) (by rw [List.getElem?_map, Array.getElem?_toList, hi']; rfl) (by rw [List.getElem?_map, List.getElem?_eq_getElem hlt]; rfl) n hn)
    simpa using h2⟩
theorem add_add (a : Addr) (i j : Nat) : (a.add i).add j = a.add (i + j) := by
  unfold Addr.add
  by_cases hi : i = 0 <;> by_cases hj : j = 0 <;> simp [hi, hj, Nat.add_assoc]
theorem list_of {α : Type} {R : Nat → α → Prop} : ∀ n, (∀ i, i < n → ∃ p, R i p) → ∃ l : List α, l.length = n ∧ ∀ j p, l[j]? = some p → R j p
  | 0, _ => ⟨[], rfl, fun j p h => by simp at h⟩
  | n + 1, h => by
    obtain ⟨l, hl, hr⟩ := list_of n (fun i hi => h i (by omega))
    obtain ⟨p, hp⟩ := h n (by omega)
    refine ⟨l ++ [p], by simp [hl], fun j q hq => ?_⟩
    by_cases hj : j < n
    · rw [List.getElem?_append_left (by omega)] at hq
      exact hr j q hq
    · have hj' : j = n := by
        have := (List.getElem?_eq_some_iff.1 hq).1
        simp [hl] at this; omega
      subst hj'
      rw [List.getElem?_append_right (by omega)] at hq
      simp [hl] at hq
      rw [← hq]; exact hp
theorem opens_row {P : Program} {t e : TypeId} {α : Type} {d : Kd α} {wf : α → Prop} (ht : P.underlying t = some (.slice e)) (he : Opens P e d wf) {H : Type} {enc : TypeId × Value → H} {w : World} {spare : Nat → Bool} {held : Bool} {fuel : Nat} {cs : List Value} {x : DataW H × List MemPlace}
    (hx : DataW.trod enc P w 0 spare held fuel t cs = some x) (hz : Wt P t x.1) {B : Nat} (hB : P.bytesOf e = B) : ∃ (A : Option Addr) (c : Nat) (l : List α), cs = [.slice A l.length c] ∧ l.length ≤ c ∧ l.length ≤ maxLen ∧ l.length * B ≤ 140737488351232 ∧ d.C w A l.length l ∧ ∀ p ∈ l, wf p := by
  rcases Go.Deep.open_slice ht hx with ⟨rfl, _⟩ | ⟨a, len, cap, m, n, D, Pl, rfl, _, hl, hm, hmm, rfl, hel⟩
  · exact ⟨none, 0, [], rfl, Nat.le_refl _, Nat.zero_le _, by simp, ⟨rfl, by simp, fun h => by simp at h⟩, fun p hp => by simp at hp⟩
  · have hle : len ≤ m := by rw [hmm]; split <;> omega
    have hz1 : ∀ i, i < len → Wt P e (D i) := fun i hi n hn => hz n (by
      rw [DataW.weights, ht]
      exact List.mem_cons_of_mem _ (List.mem_append_left _ (wt_all (List.mem_map.2 ⟨i, List.mem_range.2 hi, rfl⟩) hn)))
    have hz2 : len * B ≤ 140737488351232 := by
      have h1 := hz ((((List.range len).map D).length + ((List.range (m - len)).map fun j => D (len + j)).length) * P.bytesOf e) (by
        rw [DataW.weights, ht]
        exact List.mem_cons_self ..)
      rw [hB] at h1
      simp only [List.length_map, List.length_range] at h1
      exact Nat.le_trans (Nat.mul_le_mul_right _ (by omega)) h1
    obtain ⟨l, hll, hr⟩ := list_of (R := fun i p => (∃ c : List Value, c.length = d.sz ∧ d.K w p c ∧ ∀ k u, c[k]? = some u → w.cell? (a.add (i * d.sz + k)) = some u) ∧ wf p) len (fun i hi => by
      obtain ⟨cs', h1, h2⟩ := hel i (by omega)
      obtain ⟨p, hp, hw⟩ := he.op h2 (hz1 i hi)
      obtain ⟨_, hcl, hcell⟩ := World.cells?_some h1
      refine ⟨p, ⟨cs', d.K_len hp, hp, fun k u hu => ?_⟩, hw⟩
      have hk : k < P.cellsOf e := by rw [← hcl]; exact (List.getElem?_eq_some_iff.1 hu).1
      have h4 := hcell k hk
      rw [hu] at h4
      rw [he.sz, ← h4]
      rw [add_add])
    refine ⟨some a, cap, l, by rw [hll], by omega, by omega, by rw [hll]; exact hz2, ⟨rfl, by rw [hll]; exact Nat.le_trans hl hm, fun _ => ⟨a, rfl, fun j p hp => (hr j p hp).1⟩⟩, fun p hp => ?_⟩
    obtain ⟨j, hj⟩ := List.getElem?_of_mem hp
    exact (hr j p hj).2
theorem opens_slice {P : Program} {t e : TypeId} {α : Type} {d : Kd α} {wf : α → Prop} (q : Nat) (ht : P.underlying t = some (.slice e)) (hc : P.cellsOf t = 1) {B : Nat} (hB : P.bytesOf e = B) (he : Opens P e d wf) : Opens P t (Kd.slice q d) (fun l => l.length ≤ maxLen ∧ l.length * B ≤ 140737488351232 ∧ ∀ p ∈ l, wf p) :=
  ⟨hc.symm, fun hx hz => by
    obtain ⟨A, c, l, rfl, h1, h2, h5, h3, h4⟩ := opens_row ht he hx hz hB
    exact ⟨l, ⟨A, c, rfl, h1, h3⟩, h2, h5, h4⟩⟩
theorem param_row {P : Program} {t e : TypeId} {α : Type} {d : Kd α} {wf : α → Prop} (ht : P.underlying t = some (.slice e)) (he : Opens P e d wf) {H : Type} {enc : TypeId × Value → H} {w : World} {spare : Nat → Bool} {held : Bool} {a : Option Addr} {len cap : Nat} {D : DataW H} {ps : List MemPlace}
    (h : DataW.Trod enc P w 0 spare held t (.slice a len cap) D ps) (hz : Wt P t D) {B : Nat} (hB : P.bytesOf e = B) : ∃ l : List α, len = l.length ∧ l.length ≤ cap ∧ l.length ≤ maxLen ∧ l.length * B ≤ 140737488351232 ∧ d.C w a l.length l ∧ ∀ p ∈ l, wf p := by
  obtain ⟨fuel, hf⟩ := h
  obtain ⟨A, c, l, hc, h1, h2, h5, h3, h4⟩ := opens_row ht he hf hz hB
  simp [Value.cells] at hc
  obtain ⟨rfl, rfl, rfl⟩ := hc
  exact ⟨l, rfl, h1, h2, h5, h3, h4⟩
theorem param {P : Program} {t : TypeId} {α : Type} {d : Kd α} {wf : α → Prop} (he : Opens P t d wf) {H : Type} {enc : TypeId × Value → H} {w : World} {spare : Nat → Bool} {held : Bool} {v : Value} {D : DataW H} {ps : List MemPlace}
    (h : DataW.Trod enc P w 0 spare held t v D ps) (hz : Wt P t D) : ∃ x, d.K w x v.cells.toList ∧ wf x := by
  obtain ⟨fuel, hf⟩ := h
  exact he.op hf hz
end Go.Proofs.YtodfomkhhfcnhaaDoor.Opens
