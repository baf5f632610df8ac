/-
  Several texts in one: What a law's parameter reads as: of what can be read of a type (DataW.trod) values follow that stand for its cells (Rd). No condition but each lemma's own premises. | slices.Grow of a nil row, by hand. Conditions: each lemma's own premises. | slices.Delete of an own row, by hand. Conditions: each lemma's own premises.
-/
import Derived.Test.YtlhcgiegganbpaaDoorVM7
import Derived.Deep.Slices
import Derived.OpenShut
import GoSem.ClaimWide
import Derived.ChangeArms
import Derived.DataReads
import Derived.SizedLaws
import Derived.Test.YtlhcgiegganbpaaDoorProg
import Derived.Laws.Append
import Derived.Laws.AppendOwn
import Derived.Laws.Rows
import Derived.WalkKit
import Derived.RowKitTokens
set_option linter.unusedVariables false
set_option linter.unusedSimpArgs false
namespace Go.Proofs.YtlhcgiegganbpaaDoorVs
def Wt {H : Type} (P : Program) (t : TypeId) (d : DataW H) : Prop := ∀ n ∈ d.weights P t, n ≤ reachBytes
theorem wt_of {H : Type} {P : Program} {ts : List TypeId} {ds : List (DataW H)} {j : Nat} {t : TypeId} {d : DataW H} (h : (DataW.weightsEach P ts ds).all (· ≤ reachBytes) = true) (ht : ts[j]? = some t) (hd : ds[j]? = some d) : Wt P t d :=
  fun n hn => by simpa using List.all_eq_true.1 h _ (DataW.weights_mem_each ht hd n hn)
theorem wt_all {H : Type} {P : Program} {e : TypeId} : ∀ {l : List (DataW H)} {d : DataW H} {n : Nat}, d ∈ l → n ∈ d.weights P e → n ∈ DataW.weightsAll P e l
  | x :: l, d, n, h, hn => by
    rw [DataW.weightsAll, List.mem_append]
    rcases List.mem_cons.1 h with rfl | h
    · exact Or.inl hn
    · exact Or.inr (wt_all h hn)
/-- values that stand for cells, one by one -/
def Cs (P : Program) (w : World) (ys : List V) (cs : List Value) : Prop := ys.length = cs.length ∧ ∀ j (h : j < ys.length) (h' : j < cs.length), ys[j] ≠ .undef ∧ Rd P (fun b => b < w.heap.size) w ys[j] cs[j]
theorem Cs.append {P : Program} {w : World} {a b : List V} {c d : List Value} (h1 : Cs P w a c) (h2 : Cs P w b d) : Cs P w (a ++ b) (c ++ d) := by
  refine ⟨by simp [h1.1, h2.1], fun j h h' => ?_⟩
  by_cases hj : j < a.length
  · rw [List.getElem_append_left hj, List.getElem_append_left (by rw [← h1.1]; exact hj)]
    exact h1.2 j hj _
  · rw [List.getElem_append_right (by omega), List.getElem_append_right (by have := h1.1; omega)]
    have e : j - a.length = j - c.length := by rw [h1.1]
    have h3 := h2.2 (j - a.length) (by simp at h; omega) (by simp at h'; have := h1.1; omega)
    simpa [e] using h3
theorem Cs.one {P : Program} {w : World} {y : V} {c : Value} (hy : y ≠ .undef) (h : Rd P (fun b => b < w.heap.size) w y c) : Cs P w [y] [c] :=
  ⟨rfl, fun j h1 h2 => by
    obtain rfl : j = 0 := by simp at h1; omega
    exact ⟨hy, h⟩⟩
structure ROp (P : Program) (t : TypeId) (wf : List V → Prop) : Prop where
  op : ∀ {H : Type} {enc : TypeId × Value → H} {w : World} {spare : Nat → Bool} {held : Bool} {fuel : Nat} {cs : List Value} {x : DataW H × List MemPlace}, DataW.trod enc P w 0 spare held fuel t cs = some x → Wt P t x.1 → ∃ ys, Cs P w ys cs ∧ wf ys
theorem rop_int {P : Program} {t : TypeId} (k : IntKind) (ht : P.underlying t = some (.int k)) : ROp P t (fun ys => ∃ n, ys = [.int k n] ∧ k.min ≤ n ∧ n ≤ k.max) :=
  ⟨fun h _ => by
    obtain ⟨n, rfl, _, hw⟩ := DataW.trod_int ht h
    exact ⟨_, .one (by simp) (.int k n), n, rfl, by simpa [Lit.wf] using hw⟩⟩
theorem rop_bool {P : Program} {t : TypeId} (ht : P.underlying t = some .bool) : ROp P t (fun ys => ∃ b, ys = [.bool b]) :=
  ⟨fun h _ => by
    obtain ⟨b, rfl, _⟩ := DataW.trod_bool ht h
    exact ⟨_, .one (by simp) (.bool b), b, rfl⟩⟩
theorem rop_string {P : Program} {t : TypeId} (ht : P.underlying t = some .string) : ROp P t (fun ys => ∃ s : ByteArray, ys = [.str s] ∧ s.size ≤ 140737488351232) :=
  ⟨fun h hw => by
    obtain ⟨s, rfl, rfl, hs⟩ := DataW.trod_string ht h
    have h2 := hw s.data.toList.length (by simp [DataW.weights])
    rw [show reachBytes = 140737488351232 from rfl] at h2
    exact ⟨_, .one (by simp) (.str s), s, rfl, by simpa using h2⟩⟩
theorem ROp.weaken {P : Program} {t : TypeId} {wf wf' : List V → Prop} (h : ROp P t wf) (hw : ∀ x, wf x → wf' x) : ROp P t wf' :=
  ⟨fun ht hz => by
    obtain ⟨a, ha, hwa⟩ := h.op ht hz
    exact ⟨a, ha, hw a hwa⟩⟩
/-- parts that lie behind one another: (type, where it begins) -/
structure ROpF (P : Program) (fs : List (TypeId × Nat)) (off total : Nat) (wf : List V → Prop) : Prop where
  op : ∀ {H : Type} {enc : TypeId × Value → H} {w : World} {spare : Nat → Bool} {held : Bool} {n : Nat} {cs : List Value}, cs.length = total →
    (∀ f ∈ fs, ∃ x, DataW.trod enc P w 0 spare held n f.1 ((cs.drop f.2).take (P.cellsOf f.1)) = some x ∧ Wt P f.1 x.1) → ∃ ys, Cs P w ys (cs.drop off) ∧ wf ys
theorem ropF_last {P : Program} {wf : List V → Prop} {t : TypeId} {off total : Nat} (h : ROp P t wf) (ho : off + P.cellsOf t = total) : ROpF P [(t, off)] off total wf :=
  ⟨fun hl hf => by
    obtain ⟨x, hx, hz⟩ := hf (t, off) (by simp)
    rw [List.take_of_length_le (by simp [List.length_drop]; omega)] at hx
    exact h.op hx hz⟩
theorem ropF_cons {P : Program} {wf we : List V → Prop} {t : TypeId} {off nx total : Nat} {fs : List (TypeId × Nat)} (h : ROp P t wf) (ho : off + P.cellsOf t = nx) (hr : ROpF P fs nx total we) :
    ROpF P ((t, off) :: fs) off total (fun ys => ∃ a b, ys = a ++ b ∧ wf a ∧ we b) :=
  ⟨fun {H enc w spare held n cs} hl hf => by
    obtain ⟨x, hx, hz⟩ := hf (t, off) (by simp)
    obtain ⟨a, ha, hwa⟩ := h.op hx hz
    obtain ⟨b, hb, hwb⟩ := hr.op hl (fun f hm => hf f (List.mem_cons_of_mem _ hm))
    refine ⟨a ++ b, ?_, a, b, rfl, hwa, hwb⟩
    have h3 := ha.append hb
    rwa [← ho, ← List.drop_drop, List.take_append_drop] at h3⟩
theorem rop_struct {P : Program} {t : TypeId} {wf : List V → Prop} {fs : Array Field} {l : List (TypeId × Nat)} (ht : P.underlying t = some (.struct fs)) (hl : fs.toList.map (fun f => (f.type, f.offset)) = l)
    (h : ROpF P l 0 (P.cellsOf t) wf) : ROp P t wf :=
  ⟨fun hx hz => by
    obtain ⟨xs, n, _, rfl, hlen, hxl, hf⟩ := DataW.trod_struct ht hx
    have h2 := h.op hlen (fun f hm => by
      rw [← hl] at hm
      obtain ⟨g, hg, rfl⟩ := List.mem_map.1 hm
      obtain ⟨i, hi⟩ := List.getElem?_of_mem hg
      have hi' : fs[i]? = some g := by rw [← Array.getElem?_toList]; exact hi
      have h3 := hf i g hi'
      have hlt : i < xs.length := by
        rw [hxl]
        exact (Array.getElem?_eq_some_iff.1 hi').1
      rw [List.getElem?_eq_getElem hlt] at h3
      refine ⟨_, h3, fun n hn => hz n ?_⟩
      rw [DataW.weights, ht]
      exact DataW.weights_mem_each (j := i) (t := g.type) (by rw [List.getElem?_map, Array.getElem?_toList, hi']; rfl) (by rw [List.getElem?_map, List.getElem?_eq_getElem hlt]; rfl) n hn)
    simpa using h2⟩
theorem rop_array {P : Program} {t e : TypeId} {n : Nat} {wf : List V → Prop} {l : List (TypeId × Nat)} (ht : P.underlying t = some (.array n e)) (hl : (List.range n).map (fun i => (e, i * P.cellsOf e)) = l)
    (h : ROpF P l 0 (P.cellsOf t) wf) : ROp P t wf :=
  ⟨fun hx hz => by
    obtain ⟨xs, m, _, rfl, hlen, hxl, hf⟩ := DataW.trod_array ht hx
    have h2 := h.op hlen (fun f hm => by
      rw [← hl] at hm
      obtain ⟨i, hi, rfl⟩ := List.mem_map.1 hm
      have h3 := hf i (List.mem_range.1 hi)
      have hlt : i < xs.length := by
        rw [hxl]
        exact List.mem_range.1 hi
      rw [List.getElem?_eq_getElem hlt] at h3
      refine ⟨_, h3, fun n hn => hz n ?_⟩
      rw [DataW.weights, ht]
      exact wt_all (List.mem_map.2 ⟨_, List.getElem_mem hlt, rfl⟩) hn)
    simpa using h2⟩
theorem addr_add (a : Addr) (i j : Nat) : (a.add i).add j = a.add (i + j) := by
  unfold Addr.add
  by_cases hi : i = 0 <;> by_cases hj : j = 0 <;> simp [hi, hj, Nat.add_assoc]
theorem rows_of {α : Type} {R : Nat → α → Prop} : ∀ n, (∀ i, i < n → ∃ p, R i p) → ∃ l : List α, l.length = n ∧ ∀ j (h : j < l.length), R j l[j]
  | 0, _ => ⟨[], rfl, fun j h => by simp at h⟩
  | n + 1, h => by
    obtain ⟨l, hl, hr⟩ := rows_of n (fun i hi => h i (by omega))
    obtain ⟨p, hp⟩ := h n (by omega)
    refine ⟨l ++ [p], by simp [hl], fun j hj => ?_⟩
    by_cases hj' : j < l.length
    · rw [List.getElem_append_left hj']
      exact hr j hj'
    · have e : j = n := by simp at hj; omega
      subst e
      rw [List.getElem_append_right (by omega)]
      simpa using hp
theorem cell_in {w : World} {a : Addr} {v : Value} (h : w.cell? a = some v) : a.block < w.heap.size ∧ a.spot = none := by
  unfold World.cell? at h
  split at h
  · rename_i hh
    refine ⟨(Array.getElem?_eq_some_iff.1 hh).1, ?_⟩
    split at h
    · cases h
    · rename_i hs
      simpa using hs
  · cases h
/-- a row: its elements' cells stand one behind the other -/
theorem rop_row {P : Program} {t e : TypeId} {wf : List V → Prop} (ht : P.underlying t = some (.slice e)) (he : ROp P e wf) {H : Type} {enc : TypeId × Value → H} {w : World} {spare : Nat → Bool} {held : Bool} {fuel : Nat} {cs : List Value} {x : DataW H × List MemPlace}
    (hx : DataW.trod enc P w 0 spare held fuel t cs = some x) (hz : Wt P t x.1) {B : Nat} (hB : P.bytesOf e = B) {k : Nat} (hk : P.cellsOf e = k) (hp : 0 < k) :
    ∃ (A : Option Addr) (c : Nat) (l : List (List V)), cs = [.slice A l.length c] ∧ l.length ≤ c ∧ l.length ≤ maxLen ∧ l.length * B ≤ 140737488351232 ∧ (∀ p ∈ l, p.length = k ∧ wf p) ∧
      (l ≠ [] → ∃ (b o : Nat) (f : Nat → Value), A = some ⟨b, o, none⟩ ∧ b < w.heap.size ∧ (∀ i, i < l.length * k → w.cell? ⟨b, o + i, none⟩ = some (f i)) ∧ ∀ i (h : i < l.length) j (h' : j < l[i].length), l[i][j] ≠ .undef ∧ Rd P (fun b => b < w.heap.size) w l[i][j] (f (i * k + j))) := by
  rcases Go.Deep.open_slice ht hx with ⟨rfl, _⟩ | ⟨a, len, cap, m, n, D, Pl, rfl, _, hl, hm, hmm, rfl, hel⟩
  · exact ⟨none, 0, [], rfl, Nat.le_refl _, Nat.zero_le _, by simp, by simp, fun h => absurd rfl h⟩
  · have hle : len ≤ m := by rw [hmm]; split <;> omega
    have hz1 : ∀ i, i < len → Wt P e (D i) := fun i hi n hn => hz n (by
      rw [DataW.weights, ht]
      exact List.mem_cons_of_mem _ (List.mem_append_left _ (wt_all (List.mem_map.2 ⟨i, List.mem_range.2 hi, rfl⟩) hn)))
    have hz2 : len * B ≤ 140737488351232 := by
      have h1 := hz ((((List.range len).map D).length + ((List.range (m - len)).map fun j => D (len + j)).length) * P.bytesOf e) (by
        rw [DataW.weights, ht]
        exact List.mem_cons_self ..)
      rw [hB] at h1
      simp only [List.length_map, List.length_range] at h1
      exact Nat.le_trans (Nat.mul_le_mul_right _ (by omega)) h1
    obtain ⟨l, hll, hr⟩ := rows_of (R := fun i p => (∃ c : List Value, c.length = k ∧ Cs P w p c ∧ ∀ j (h : j < c.length), w.cell? (a.add (i * k + j)) = some c[j]) ∧ wf p) len (fun i hi => by
      obtain ⟨cs', h1, h2⟩ := hel i (by omega)
      obtain ⟨p, hp, hw⟩ := he.op h2 (hz1 i hi)
      obtain ⟨_, hcl, hcell⟩ := World.cells?_some h1
      refine ⟨p, ⟨cs', by rw [hcl, hk], hp, fun j hj => ?_⟩, hw⟩
      have h4 := hcell j (by rw [← hcl]; exact hj)
      rw [List.getElem?_eq_getElem hj, addr_add, hk] at h4
      exact h4)
    refine ⟨some a, cap, l, by rw [hll], by omega, by omega, by rw [hll]; exact hz2, fun p hp => ?_, fun hne => ?_⟩
    · obtain ⟨j, hj, rfl⟩ := List.getElem_of_mem hp
      obtain ⟨⟨c, h1, h2, _⟩, h3⟩ := hr j hj
      exact ⟨by rw [h2.1, h1], h3⟩
    · have hpos : 0 < l.length := List.length_pos_iff.2 hne
      have hcell : ∀ i, i < l.length * k → w.cell? (a.add i) = some ((w.cell? (a.add i)).getD .nilIface) := fun i hi => by
        have hq : i / k < l.length := Nat.div_lt_of_lt_mul (by rw [Nat.mul_comm]; exact hi)
        obtain ⟨⟨c, h1, h2, h3⟩, _⟩ := hr (i / k) hq
        have h4 := h3 (i % k) (by rw [h1]; exact Nat.mod_lt _ hp)
        rw [Nat.mul_comm, Nat.div_add_mod] at h4
        rw [h4]; rfl
      obtain ⟨hb, hs⟩ := cell_in (hcell 0 (Nat.mul_pos hpos hp))
      obtain ⟨b, o, sp⟩ := a
      have hs' : sp = none := by simpa [Addr.add] using hs
      have hb' : b < w.heap.size := by simpa [Addr.add] using hb
      subst hs'
      have ea : ∀ i, (⟨b, o, none⟩ : Addr).add i = ⟨b, o + i, none⟩ := fun i => by
        unfold Addr.add
        by_cases hi : i = 0 <;> simp [hi]
      refine ⟨b, o, fun i => (w.cell? ⟨b, o + i, none⟩).getD .nilIface, rfl, hb', fun i hi => ?_, fun i hi j hj => ?_⟩
      · have := hcell i hi
        rwa [ea] at this
      · obtain ⟨⟨c, h1, h2, h3⟩, _⟩ := hr i hi
        have hj' : j < c.length := by rw [← h2.1]; exact hj
        have h4 := h3 j hj'
        rw [ea] at h4
        simp only [h4, Option.getD_some]
        exact h2.2 j hj hj'
theorem ones_of : ∀ (l : List (List V)), (∀ p ∈ l, p.length = 1) → ∃ xs : List V, l = xs.map fun x => [x]
  | [], _ => ⟨[], rfl⟩
  | p :: l, h => by
    obtain ⟨xs, rfl⟩ := ones_of l (fun q hq => h q (List.mem_cons_of_mem _ hq))
    match p, h p (List.mem_cons_self ..) with
    | [x], _ => exact ⟨x :: xs, rfl⟩
theorem rd_row1 {P : Program} {t e : TypeId} {wf : List V → Prop} (ht : P.underlying t = some (.slice e)) (he : ROp P e wf) {H : Type} {enc : TypeId × Value → H} {w : World} {spare : Nat → Bool} {held : Bool} {fuel : Nat} {cs : List Value} {x : DataW H × List MemPlace}
    (hx : DataW.trod enc P w 0 spare held fuel t cs = some x) (hz : Wt P t x.1) {B : Nat} (hB : P.bytesOf e = B) (hk : P.cellsOf e = 1) (ha : agT P e = some false) (hs : szOf P e = some 1) :
    ∃ (A : Option Addr) (c : Nat) (xs : List V), cs = [.slice A xs.length c] ∧ xs.length ≤ maxLen ∧ xs.length * B ≤ 140737488351232 ∧ (∀ y ∈ xs, wf [y]) ∧ Rd P (fun b => b < w.heap.size) w (.list e xs) (.slice A xs.length c) := by
  obtain ⟨A, c, l, rfl, h1, h2, h3, h4, h5⟩ := rop_row ht he hx hz hB hk (by decide)
  obtain ⟨xs, rfl⟩ := ones_of l (fun p hp => (h4 p hp).1)
  simp only [List.length_map] at h1 h2 h3 h5
  refine ⟨A, c, xs, by simp, h2, h3, fun y hy => (h4 [y] (List.mem_map.2 ⟨y, hy, rfl⟩)).2, ?_⟩
  by_cases hn : xs = []
  · subst hn
    exact .nil e A c
  · obtain ⟨b, o, f, rfl, hb, hf, hr⟩ := h5 (by simpa using hn)
    refine Rd.listS e xs b o c f hn ha hs hb h1 (fun i hi => hf i (by omega)) (fun i hi => ?_) (fun i hi => ?_)
    · have := (hr i (by simpa using hi) 0 (by simp)).1
      simpa using this
    · have := (hr i (by simpa using hi) 0 (by simp)).2
      simpa using this
theorem rd_rowA {P : Program} {t e : TypeId} {wf : List V → Prop} (ht : P.underlying t = some (.slice e)) (he : ROp P e wf) {H : Type} {enc : TypeId × Value → H} {w : World} {spare : Nat → Bool} {held : Bool} {fuel : Nat} {cs : List Value} {x : DataW H × List MemPlace}
    (hx : DataW.trod enc P w 0 spare held fuel t cs = some x) (hz : Wt P t x.1) {B : Nat} (hB : P.bytesOf e = B) {k : Nat} (hk : P.cellsOf e = k) (hp : 0 < k) (ha : agT P e = some true) (hs : szOf P e = some k) :
    ∃ (A : Option Addr) (c : Nat) (l : List (List V)), cs = [.slice A l.length c] ∧ l.length ≤ maxLen ∧ l.length * B ≤ 140737488351232 ∧ (∀ p ∈ l, p.length = k ∧ wf p) ∧ Rd P (fun b => b < w.heap.size) w (.list e (l.map .agg)) (.slice A l.length c) := by
  obtain ⟨A, c, l, rfl, h1, h2, h3, h4, h5⟩ := rop_row ht he hx hz hB hk hp
  refine ⟨A, c, l, rfl, h2, h3, h4, ?_⟩
  by_cases hn : l = []
  · subst hn
    exact .nil e A c
  · obtain ⟨b, o, f, rfl, hb, hf, hr⟩ := h5 hn
    exact Rd.listA e l b o c k f hn ha hs hp hb h1 (fun ys hy => (h4 ys hy).1) hf (fun i hi j hj => (hr i hi j hj).1) (fun i hi j hj => (hr i hi j hj).2)
theorem rop_slice1 {P : Program} {t e : TypeId} {wf : List V → Prop} (ht : P.underlying t = some (.slice e)) {B : Nat} (hB : P.bytesOf e = B) (hk : P.cellsOf e = 1) (ha : agT P e = some false) (hs : szOf P e = some 1) (he : ROp P e wf) :
    ROp P t (fun ys => ∃ xs : List V, ys = [.list e xs] ∧ xs.length ≤ maxLen ∧ xs.length * B ≤ 140737488351232 ∧ ∀ y ∈ xs, wf [y]) :=
  ⟨fun hx hz => by
    obtain ⟨A, c, xs, rfl, h1, h2, h3, h4⟩ := rd_row1 ht he hx hz hB hk ha hs
    exact ⟨_, .one (by simp) h4, xs, rfl, h1, h2, h3⟩⟩
theorem rop_sliceA {P : Program} {t e : TypeId} {wf : List V → Prop} (ht : P.underlying t = some (.slice e)) {B : Nat} (hB : P.bytesOf e = B) {k : Nat} (hk : P.cellsOf e = k) (hp : 0 < k) (ha : agT P e = some true) (hs : szOf P e = some k) (he : ROp P e wf) :
    ROp P t (fun ys => ∃ l : List (List V), ys = [.list e (l.map .agg)] ∧ l.length ≤ maxLen ∧ l.length * B ≤ 140737488351232 ∧ ∀ p ∈ l, p.length = k ∧ wf p) :=
  ⟨fun hx hz => by
    obtain ⟨A, c, l, rfl, h1, h2, h3, h4⟩ := rd_rowA ht he hx hz hB hk hp ha hs
    exact ⟨_, .one (by simp) h4, l, rfl, h1, h2, h3⟩⟩
/-- a parameter of one cell -/
theorem rd_param {P : Program} {t : TypeId} {wf : List V → Prop} (he : ROp P t wf) {H : Type} {enc : TypeId × Value → H} {w : World} {spare : Nat → Bool} {held : Bool} {v : Value} {D : DataW H} {ps : List MemPlace} (hv : v.cells = #[v])
    (h : DataW.Trod enc P w 0 spare held t v D ps) (hz : Wt P t D) : ∃ y, y ≠ .undef ∧ Rd P (fun b => b < w.heap.size) w y v ∧ wf [y] := by
  obtain ⟨fuel, hf⟩ := h
  obtain ⟨ys, h1, h2⟩ := he.op hf hz
  rw [hv] at h1
  match ys, h1 with
  | [y], h1 => exact ⟨y, (h1.2 0 (by simp) (by simp)).1, (h1.2 0 (by simp) (by simp)).2, h2⟩
  | [], h1 => exact absurd h1.1 (by simp)
  | _ :: _ :: _, h1 => exact absurd h1.1 (by simp)
end Go.Proofs.YtlhcgiegganbpaaDoorVs
set_option linter.unusedVariables false
namespace Go.Proofs.YtlhcgiegganbpaaDoorVs
open Go.RowKit Go.Extern
theorem run_zeros_nil {P : Program} (w : World) (t ti ty e : TypeId) (i : TypeInfo) (z : Value) (size bytes : Nat) (ht : P.underlying t = some (.slice e)) {k : IntKind} (hti : P.underlying ti = some (.int k)) (hi : P.info? e = some i) (hz : i.zero = some z)
    (hsize : i.size = size) (hby : i.bytes = bytes) (hzs : z.cells.size = size) (hsz : 0 < size) (hb0 : 0 < bytes) (kx : IntKind) (m : Nat) (hm : 0 < m) (hbytes : m * bytes ≤ 140737488355328) :
    ∃ b cap C w', (Builtin.append_ #[t, ti] ty #[.slice none 0 0, .int kx m]).run P w = .ok (.slice (some ⟨b, 0, none⟩) m cap) w' ∧ w.heap.size ≤ b ∧ w'.heap[b]? = some (.cells C e (0, 0)) ∧ m ≤ cap ∧ cap ≤ maxLen ∧ C.size = cap * size ∧ w.grownBy w' none := by
  subst hsize
  subst hby
  have hle : m ≤ 140737488355328 := Nat.le_trans (Nat.le_mul_of_pos_right _ hb0) hbytes
  have h63 : m ≤ maxLen := by simp only [maxLen]; omega
  have hw : IntKind.i64.wrap (m : Int) = m := by rw [IntKind.wrap_i64]; omega
  have hneg : ¬ ((m : Int) < 0) := by omega
  have hbig : ¬ (281474976710656 < (m : Int) * (i.bytes : Int)) := by
    rw [← Int.natCast_mul]
    omega
  have hsn : i.size ≠ 0 := by omega
  have hn : ¬ (m = 0) := by omega
  have h63' : ¬ (9223372036854775807 < (m : Int)) := by omega
  have hfit := growslice_fits (need := m) (old := 0) hm hbytes
  have h48' : ¬ (281474976710656 < Builtin.nextslicecap m 0 * i.bytes) := by omega
  have hmz : ¬ (m * i.size = 0) := Nat.mul_ne_zero hn hsn
  have hge := grownCap_ge w m 0 e
  refine ⟨w.heap.size, grownCap w m 0 e, _, w.drew.alloc (.cells (Builtin.zeroCells z.cells m ++ Builtin.zeroCells z.cells (grownCap w m 0 e - m)) e), ?_, Nat.le_refl _, heap_alloc_new w.drew _, hge, grownCap_le_maxLen w m 0 e h63, ?_, ⟨rfl, rfl, rfl, by simp, fun k hk _ => heap_alloc_old w.drew _ hk⟩⟩
  · simp [Builtin.append_, run_underlying ht, run_underlying hti, sizeOf, typeInfo, zeroValue, hi, hz, asInt, asIntOf, hw, hneg, hbig, hn, h63', h48', Question.forced, Builtin.firstCells, newRow, grownCap, hmz]
  · simp only [Array.size_append, size_zeroCells, hzs, ← Nat.add_mul]
    congr 1
    omega
theorem wpList_zeros_nil {P : Program} {w : World} {ops : Array Oper} {rest : List Oper} {o : Oper} {a : Act} {Q : Exit → Act → World → Prop} (hgd : o.guard = none) (s x : Operand) (t ti : TypeId)
    (ho : o.op = .call { callee := .builtin .append, args := #[s, x], argTypes := #[t, ti] })
    (e : TypeId) (i : TypeInfo) (z : Value) (size bytes : Nat) (ht : P.underlying t = some (.slice e)) {k : IntKind} (hti : P.underlying ti = some (.int k)) (hi : P.info? e = some i) (hz : i.zero = some z)
    (hsize : i.size = size) (hby : i.bytes = bytes) (hzs : z.cells.size = size) (hsz : 0 < size) (hb0 : 0 < bytes) (hs : a.eval s = .slice none 0 0) (kx : IntKind) (m : Nat) (hx : a.eval x = .int kx m) (hm : 0 < m) (hbytes : m * bytes ≤ 140737488355328)
    (h : ∀ b cap C w', w.heap.size ≤ b → w'.heap[b]? = some (.cells C e (0, 0)) → m ≤ cap → cap ≤ maxLen → C.size = cap * size → w.grownBy w' none → wpList P ops Q rest (a.put o.dst (.slice (some ⟨b, 0, none⟩) m cap)) w') : wpList P ops Q (o :: rest) a w :=
  wpList_plain hgd fun K hK => by
    obtain ⟨b, cap, C, w', hr, h1, h2, h3, h4, h5, h6⟩ := run_zeros_nil (P := P) w t ti o.type e i z size bytes ht hti hi hz hsize hby hzs hsz hb0 kx m hm hbytes
    unfold Oper.wp execOp
    simp only [ho, resolve, invoke, builtin, Sem.run_bind, Sem.run_pure, Result.andThen_ok, List.map_toArray, List.map_cons, List.map_nil, hs, hx, hr]
    exact hK _ _ (h b cap C w' h1 h2 h3 h4 h5 h6)

theorem info30 : ∃ i, Tryd.prog.info? 30 = some i ∧ i.size = 3 ∧ i.bytes = 24 ∧ i.zero = some (.agg #[.int .i64 0, .int .i64 0, .int .i64 0]) := by
  have h : ((Tryd.prog.info? 30).map fun i => (i.size, i.bytes)) = some (3, 24) := by kernel_rfl
  have h2 : ((Tryd.prog.info? 30).bind fun i => i.zero) = some (.agg #[.int .i64 0, .int .i64 0, .int .i64 0]) := by kernel_rfl
  cases hi : Tryd.prog.info? 30 with
  | none => rw [hi] at h; cases h
  | some i =>
    rw [hi] at h h2
    simp only [Option.map_some, Option.some.injEq, Prod.mk.injEq] at h
    exact ⟨i, rfl, h.1, h.2, h2⟩
theorem zeros_one (m : Nat) : ∀ u ∈ (Builtin.zeroCells (Value.agg #[.int .i64 0, .int .i64 0, .int .i64 0]).cells m).toList, u.oneCell' = true := by
  intro u hu
  simp only [Builtin.zeroCells, Array.toList_map, List.mem_map] at hu
  obtain ⟨k, _, rfl⟩ := hu
  have h3 : ∀ k, k < 3 → ((Value.agg #[.int .i64 0, .int .i64 0, .int .i64 0]).cells[k]!).oneCell' = true := by
    intro k hk
    rcases k with _ | _ | _ | k
    · rfl
    · rfl
    · rfl
    · omega
  exact h3 _ (Nat.mod_lt _ (by decide))
theorem grow_zero (w : World) : Calls Tryd.prog 74 #[.slice none 0 0, .int .i64 0] w fun e w' => e = .returned (.slice none 0 0) ∧ w' = w := by
  go_enter Tryd.func74, Tryd.ntmps74
  go_wp2
  go_ret
  exact ⟨rfl, rfl⟩
theorem grow_pos (m : Nat) (h0 : 0 < m) (h1 : m ≤ 1000) (w : World) : Calls Tryd.prog 74 #[.slice none 0 0, .int .i64 m] w fun e w' => ∃ b cap C, e = .returned (.slice (some ⟨b, 0, none⟩) 0 cap) ∧ w.heap.size ≤ b ∧ w'.heap[b]? = some (.cells C 30 (0, 0)) ∧ cap * 3 ≤ C.size ∧ cap ≤ maxLen ∧ w.grownBy w' none := by
  have e1 : ¬ ((m : Int) < 0) := by omega
  have e2 : wrap64 ((m : Int) - 0) = (m : Int) := by unfold wrap64; omega
  have e3 : (0 : Int) < (m : Int) := by omega
  obtain ⟨i, hi, hs, hb, hz⟩ := info30
  go_enter Tryd.func74, Tryd.ntmps74
  go_wp2_with (at_builtin; refine wpList_zeros_nil rfl _ _ 77 3 rfl 30 i _ 3 24 Tryd.underlying77 Tryd.underlying3 hi hz hs hb rfl (by decide) (by decide) rfl .i64 m ?c1 h0 (by omega) ?_)
  rintro b cap C w' hb1 hb2 hb3 hb4 hb5 hgb
  go_wp2
  go_ret
  exact ⟨b, cap, C, rfl, hb1, hb2, by omega, hb4, hgb⟩
def growφ (e : TypeId) (xss : List (List V)) : Option (List (List V)) := match xss with
  | [[], [.int .i64 n]] => if 0 ≤ n ∧ n ≤ 1000 then some [[.list e []]] else none
  | _ => none
/-- an own row that comes back: the answer of a call that takes no rows -/
theorem post_row {P : Program} {F S : Nat → Prop} {w w' : World} {ps : List PSh} {cs : List Value} {x : V} {v : Value} (hFS : ∀ b, F b → S b) (hS : ∀ b, S b → b < w.heap.size) (hw : WStep w w' (fun _ => False)) (hA : argsB w ps cs = []) (hB : backsOf ps cs = []) (hx : x ≠ .undef)
    (hrow : RowOK P F w' ⟨v, eOf x⟩ [x]) (hb : ∀ b, v.ownBlock = some b → b < w'.heap.size ∧ w.heap.size ≤ b) : SimPost P F w ⟨ps, [.one .own]⟩ cs [[x]] [v] F w' where
  hw := hw.some
  hF := fun b h => h
  hF' := fun b h => .inl h
  res := ⟨[[x]], [], rfl, rfl, ⟨⟨rfl, rfl, fun i h h1 h2 => by
    obtain rfl : i = 0 := by simp at h; omega
    exact ⟨hx, hrow⟩⟩, trivial⟩, by rw [hB]; trivial⟩
  nd := by
    rw [hB]
    simp only [ressB, resB, blkG, backsB, List.append_nil]
    cases v.ownBlock <;> simp
  bl := fun b hbm => by
    rw [hB] at hbm
    simp only [ressB, resB, blkG, backsB, List.append_nil, Option.mem_toList] at hbm
    obtain ⟨h1, h2⟩ := hb b hbm
    exact ⟨h1, .inl h2, fun hf => by have := hS b (hFS b hf); omega⟩
theorem sim_grow {GW : World → Prop} : Sim Tryd.prog GW 74 ⟨[.nils, .one .fz], [.one .own]⟩ (growφ 30) where
  en := ⟨_, Tryd.func74, by kernel_rfl, by kernel_rfl⟩
  calls F S w xss cs raw hFS hS hA hnd hbS hg h0 hφ := by
    unfold growφ at hφ
    split at hφ
    · rename_i n
      split at hφ
      · rename_i hn
        cases hφ
        match cs, hA with
        | [c0, c1], ⟨⟨hc0, _⟩, hc1, _⟩ =>
          subst hc0
          have h1 := (hc1.ok 0 (by simp) (by simp) (by simp)).2
          simp only [PCell, List.getElem_cons_zero] at h1
          rw [h1.int_inv]
          obtain ⟨m, rfl⟩ := Int.eq_ofNat_of_zero_le hn.1
          rcases Nat.eq_zero_or_pos m with rfl | hm
          · refine (grow_zero w).mono ?_
            rintro e w' ⟨rfl, rfl⟩
            exact ⟨[.slice none 0 0], F, rfl, post_row hFS hS (WStep.refl _ _) rfl rfl (by simp) ⟨[], rfl, .inl ⟨rfl, rfl⟩⟩ (fun b h => by cases h)⟩
          · refine (grow_pos m hm (by omega) w).mono ?_
            rintro e w' ⟨b, cap, C, rfl, hb1, hb2, hb3, hb4, hgb⟩
            refine ⟨[.slice (some ⟨b, 0, none⟩) 0 cap], F, rfl, post_row hFS hS ⟨hgb.os, hgb.tape, hgb.output, hgb.size, fun k hk _ => hgb.block k hk (by simp)⟩ rfl rfl (by simp) ⟨[], rfl, .inr ⟨b, 0, cap, 3, true, C, (0, 0), rfl, hb2, .inl (Nat.le_refl _), Nat.zero_le _, hb4, by omega, ⟨by kernel_rfl, by kernel_rfl, by decide, fun h => (by cases h), fun i h => (by simp at h)⟩⟩⟩ (fun k h => ?_)⟩
            cases h
            exact ⟨(Array.getElem?_eq_some_iff.1 hb2).1, hb1⟩
      · cases hφ
    · cases hφ
end Go.Proofs.YtlhcgiegganbpaaDoorVs
set_option linter.unusedVariables false
set_option maxRecDepth 8000
namespace Go.Proofs.YtlhcgiegganbpaaDoorVs
open Go.RowKit Go.Extern
theorem del_walk (b o n cap i j : Nat) (w w1 w2 : World) (news : Array Value) (hij : i < j) (hjn : j ≤ n) (hnc : n ≤ cap) (hne : ¬ cap = j)
    (hl : (loadCellsFrom ⟨b, o + j * 3, none⟩ 0 ((n - j) * 3) #[]).run Tryd.prog w.drew = .ok news w.drew)
    (hs : (storeCells ⟨b, o + i * 3, none⟩ news.toList).run Tryd.prog w.drew = .ok () w1)
    (hz : (Builtin.clear_ #[77] 0 #[.slice (some ⟨b, o + (i + (n - j)) * 3, none⟩) (n - (i + (n - j))) (cap - (i + (n - j)))]).run Tryd.prog w1 = .ok (.tuple #[]) w2) :
    Calls Tryd.prog 37 #[.slice (some ⟨b, o, none⟩) n cap, .int .i64 i, .int .i64 j] w fun e w' => e = .returned (.slice (some ⟨b, o, none⟩) (i + (n - j)) cap) ∧ w' = w2 := by
  have e0 : ¬ ((i : Int) = (j : Int)) := by omega
  have c1 : (i : Int) ≤ (j : Int) := by omega
  have c2 : (j : Int) ≤ (n : Int) := by omega
  have c3 : (0 : Int) ≤ (i : Int) := by omega
  have c4 : (n : Int) ≤ (cap : Int) := by omega
  have c5 : (0 : Int) ≤ (j : Int) := by omega
  have c6 : (i : Int) ≤ (cap : Int) := by omega
  have c7 : (i : Int) ≤ (n : Int) := by omega
  have c8 : i + (n - j) ≤ cap := by omega
  have c9 : ((i + (n - j) : Nat) : Int) ≤ (n : Int) := by omega
  have c10 : ¬ (n - (i + (n - j)) = 0) := by omega
  have c11 : ¬ (cap = i + (n - j)) := by omega
  go_enter Tryd.func37, Tryd.ntmps37
  go_wp2_with fail
  go_region
  go_wp2_with fail
  go_ret
  exact ⟨rfl, rfl⟩
theorem del_walk2 (b o n i : Nat) (w w2 : World) (hij : i < n)
    (hz : (Builtin.clear_ #[77] 0 #[.slice (some ⟨b, o + i * 3, none⟩) (n - i) (n - i)]).run Tryd.prog w.drew = .ok (.tuple #[]) w2) :
    Calls Tryd.prog 37 #[.slice (some ⟨b, o, none⟩) n n, .int .i64 i, .int .i64 n] w fun e w' => e = .returned (.slice (some ⟨b, o, none⟩) i n) ∧ w' = w2 := by
  have e0 : ¬ ((i : Int) = (n : Int)) := by omega
  have c1 : (i : Int) ≤ (n : Int) := by omega
  have c3 : (0 : Int) ≤ (i : Int) := by omega
  have c5 : (0 : Int) ≤ (n : Int) := by omega
  have c10 : ¬ (n - i = 0) := by omega
  have c11 : ¬ (n = i) := by omega
  go_enter Tryd.func37, Tryd.ntmps37
  go_wp2_with fail
  go_region
  go_wp2_with fail
  go_ret
  exact ⟨rfl, rfl⟩
theorem run_clear3 {w : World} {b q n cap : Nat} {C : Array Value} {fz : Nat × Nat} (hn : 0 < n) (hh : w.heap[b]? = some (.cells C 30 fz)) (hfz : fz.2 ≤ fz.1 ∨ C.size ≤ fz.1) (hq : q + n * 3 ≤ C.size) :
    ∃ zs : List Value, zs.length = n * 3 ∧ (Builtin.clear_ #[77] 0 #[.slice (some ⟨b, q, none⟩) n cap]).run Tryd.prog w = .ok (.tuple #[]) (w.setRow b (C.toList.take q ++ zs ++ C.toList.drop (q + n * 3)).toArray) := by
  obtain ⟨i, hi, _, _, hz⟩ := info30
  have hlen : (Builtin.zeroCells (Value.agg #[.int .i64 0, .int .i64 0, .int .i64 0]).cells n).toList.length = n * 3 := by
    have h3 : (Value.agg #[.int .i64 0, .int .i64 0, .int .i64 0]).cells.size = 3 := rfl
    simp [Builtin.zeroCells, h3]
  refine ⟨_, hlen, ?_⟩
  have hst := run_storeCells_fz Tryd.prog b q 30 fz (Builtin.zeroCells (Value.agg #[.int .i64 0, .int .i64 0, .int .i64 0]).cells n).toList 0 C w hh hfz (by rw [hlen]; omega) (zeros_one n)
  rw [hlen] at hst
  simp only [Nat.add_zero] at hst
  obtain ⟨m, rfl⟩ : ∃ m, n = m + 1 := ⟨n - 1, by omega⟩
  simp [Builtin.clear_, run_underlying Tryd.underlying77, zeroValue, typeInfo, hi, hz, hst]
/-- what Delete does to the row's cells -/
theorem del_calls (b o n cap i j : Nat) (w : World) (C : Array Value) (fz : Nat × Nat) (hij : i < j) (hjn : j ≤ n) (hnc : n ≤ cap) (hh : w.heap[b]? = some (.cells C 30 fz)) (hfz : fz.2 ≤ fz.1 ∨ C.size ≤ fz.1) (hC : o + cap * 3 ≤ C.size)
    (hone : ∀ t, t < n * 3 → (C.getD (t + o) undef).oneCell' = true) :
    Calls Tryd.prog 37 #[.slice (some ⟨b, o, none⟩) n cap, .int .i64 i, .int .i64 j] w fun e w' => e = .returned (.slice (some ⟨b, o, none⟩) (i + (n - j)) cap) ∧ ∃ D, w'.heap[b]? = some (.cells D 30 fz) ∧ D.size = C.size ∧ WStep w w' (· = b) ∧
      (∀ t, t < i * 3 → D.getD (t + o) undef = C.getD (t + o) undef) ∧ (∀ t, t < (n - j) * 3 → D.getD (i * 3 + t + o) undef = C.getD (j * 3 + t + o) undef) := by
  by_cases hne : cap = j
  · obtain rfl : n = j := by omega
    obtain rfl : cap = n := hne
    obtain ⟨zs, hzl, hz⟩ := run_clear3 (w := w.drew) (b := b) (q := o + i * 3) (n := cap - i) (cap := cap - i) (by omega) (show w.drew.heap[b]? = _ from hh) hfz (by rw [Nat.add_assoc, ← Nat.add_mul, show i + (cap - i) = cap by omega]; exact hC)
    refine (del_walk2 b o cap i w _ hij hz).mono ?_
    rintro e w' ⟨rfl, rfl⟩
    rw [show i + (cap - cap) = i by omega]
    refine ⟨rfl, _, setRow_heap _ b C _ 30 fz (show w.drew.heap[b]? = _ from hh), ?_, (WStep.drew w _).trans (WStep.setRow _ b _ _ rfl), fun t ht => ?_, fun t ht => by omega⟩
    · have : (o + i * 3) + (cap - i) * 3 ≤ C.size := by rw [Nat.add_assoc, ← Nat.add_mul, show i + (cap - i) = cap by omega]; exact hC
      simp only [List.size_toArray, List.length_append, List.length_take, List.length_drop, Array.length_toList, hzl]
      omega
    · simp only [Array.getD_eq_getD_getElem?, List.getElem?_toArray, List.append_assoc]
      rw [List.getElem?_append_left (by simp only [List.length_take, Array.length_toList]; omega), List.getElem?_take, if_pos (by omega), Array.getElem?_toList]
  · have hnews : ∀ t, t < (n - j) * 3 → w.drew.cell? ((⟨b, o + j * 3, none⟩ : Addr).add t) = some (C.getD (j * 3 + t + o) undef) := by
      intro t ht
      have hlt : o + j * 3 + t < C.size := by omega
      have e1 : j * 3 + t + o = o + j * 3 + t := by omega
      rw [add_plain, e1]
      have hh' : w.drew.heap[b]? = some (.cells C 30 fz) := hh
      simp [World.cell?, hh', hlt, Array.getD_eq_getD_getElem?]
    have hl := run_loadCells (P := Tryd.prog) w.drew ⟨b, o + j * 3, none⟩ ((n - j) * 3) (fun t => C.getD (j * 3 + t + o) undef) hnews
    unfold loadCells at hl
    generalize hNe : (List.range ((n - j) * 3)).map (fun t => C.getD (j * 3 + t + o) undef) = news at hl
    have hNl : news.length = (n - j) * 3 := by rw [← hNe]; simp
    have hs := run_storeCells_fz Tryd.prog b (o + i * 3) 30 fz news 0 C w.drew (show w.drew.heap[b]? = _ from hh) hfz (by rw [hNl]; omega) (fun v hv => by
      rw [← hNe] at hv
      obtain ⟨t, ht, rfl⟩ := List.mem_map.1 hv
      have := List.mem_range.1 ht
      exact hone _ (by omega))
    simp only [Nat.add_zero, hNl] at hs
    generalize hD1 : (C.toList.take (o + i * 3) ++ news ++ C.toList.drop (o + i * 3 + (n - j) * 3)).toArray = D1 at hs
    have hsz1 : D1.size = C.size := by
      rw [← hD1]
      simp only [List.size_toArray, List.length_append, List.length_take, List.length_drop, Array.length_toList, hNl]
      omega
    have hh1 : (w.drew.setRow b D1).heap[b]? = some (.cells D1 30 fz) := setRow_heap _ b C _ 30 fz (show w.drew.heap[b]? = _ from hh)
    obtain ⟨zs, hzl, hz⟩ := run_clear3 (b := b) (q := o + (i + (n - j)) * 3) (n := n - (i + (n - j))) (cap := cap - (i + (n - j))) (by omega) hh1 (by rw [hsz1]; exact hfz) (by rw [hsz1]; omega)
    refine (del_walk b o n cap i j w _ _ news.toArray hij hjn hnc hne hl hs hz).mono ?_
    rintro e w' ⟨rfl, rfl⟩
    have hnew : ∀ t, t < o + (i + (n - j)) * 3 → ((D1.toList.take (o + (i + (n - j)) * 3) ++ zs ++ D1.toList.drop (o + (i + (n - j)) * 3 + (n - (i + (n - j))) * 3)).toArray).getD t undef = D1.getD t undef := by
      intro t ht
      simp only [Array.getD_eq_getD_getElem?, List.getElem?_toArray, List.append_assoc]
      rw [List.getElem?_append_left (by simp only [List.length_take, Array.length_toList]; omega), List.getElem?_take, if_pos (by omega), Array.getElem?_toList]
    refine ⟨rfl, _, setRow_heap _ b D1 _ 30 fz hh1, ?_, ((WStep.drew w (· = b)).trans (WStep.setRow _ b _ (· = b) rfl)).trans (WStep.setRow _ b _ (· = b) rfl), fun t ht => ?_, fun t ht => ?_⟩
    · simp only [List.size_toArray, List.length_append, List.length_take, List.length_drop, Array.length_toList, hzl]
      omega
    · rw [hnew _ (by omega), ← hD1]
      simp only [Array.getD_eq_getD_getElem?, List.getElem?_toArray, List.append_assoc]
      rw [List.getElem?_append_left (by simp only [List.length_take, Array.length_toList]; omega), List.getElem?_take, if_pos (by omega), Array.getElem?_toList]
    · rw [hnew _ (by omega), ← hD1]
      simp only [Array.getD_eq_getD_getElem?, List.getElem?_toArray, List.append_assoc]
      rw [List.getElem?_append_right (by simp only [List.length_take, Array.length_toList]; omega), List.getElem?_append_left (by simp only [List.length_take, Array.length_toList, hNl]; omega)]
      have e1 : i * 3 + t + o - (C.toList.take (o + i * 3)).length = t := by simp only [List.length_take, Array.length_toList]; omega
      rw [e1, ← hNe]
      simp only [List.getElem?_map, List.getElem?_range ht, Option.map_some, Option.getD_some, Array.getD_eq_getD_getElem?]
def delφ (e : TypeId) (xss : List (List V)) : Option (List (List V)) := match xss with
  | [[.list e' xs], [.int .i64 i], [.int .i64 j]] => if e' = e ∧ 0 ≤ i ∧ i < j ∧ j ≤ xs.length then some [[.list e (xs.take i.toNat ++ xs.drop j.toNat)]] else none
  | _ => none
theorem RdRow.cut {P : Program} {F : Nat → Prop} {w w' : World} {e : TypeId} {sz : Nat} {ag : Bool} {xs : List V} {f h : Nat → Value} (hx : RdRow P F w e sz ag xs f) (hw : ∀ b, F b → w'.heap[b]? = w.heap[b]?) (i j : Nat) (hj : j ≤ xs.length) (hij : i ≤ j) (h1 : ∀ t, t < i * sz → h t = f t) (h2 : ∀ t, t < (xs.length - j) * sz → h (i * sz + t) = f (j * sz + t)) :
    RdRow P F w' e sz ag (xs.take i ++ xs.drop j) h := by
  have hi : (xs.take i).length = i := by simp; omega
  have hA : RdRow P F w' e sz ag (xs.take i) f := ⟨hx.hk, hx.hz, hx.hp, hx.ha, fun k hk => by
    have hk' : k < xs.length := by simp at hk; omega
    rw [List.getElem_take]
    exact (hx.hx k hk').mono (fun _ h => h) hw⟩
  have hB : RdRow P F w' e sz ag (xs.drop j) (fun t => f (j * sz + t)) := ⟨hx.hk, hx.hz, hx.hp, hx.ha, fun k hk => by
    have hk' : j + k < xs.length := by simp at hk; omega
    rw [List.getElem_drop]
    have := (hx.hx (j + k) hk').mono (fun _ h => h) hw
    simpa only [Nat.add_mul, Nat.add_assoc] using this⟩
  refine hA.append hB (fun k hk => h1 k (by rw [hi] at hk; exact hk)) (fun k hk => ?_)
  rw [hi]
  exact h2 k (by simpa using hk)
theorem sim_del {GW : World → Prop} : Sim Tryd.prog GW 37 ⟨[.one .own, .one .fz, .one .fz], [.one .own]⟩ (delφ 30) where
  en := ⟨_, Tryd.func37, by kernel_rfl, by kernel_rfl⟩
  calls F S w xss cs raw hFS hS hA hnd hbS hg h0 hφ := by
    unfold delφ at hφ
    split at hφ
    · rename_i e xs i j
      split at hφ
      · rename_i hn
        obtain ⟨rfl, hi0, hij, hj⟩ := hn
        cases hφ
        match cs, hA with
        | [c0, c1, c2], ⟨hc0, hc1, hc2, _⟩ =>
          have h0' := (hc0.ok 0 (by simp) (by simp) (by simp)).2
          have h1 := (hc1.ok 0 (by simp) (by simp) (by simp)).2
          have h2 := (hc2.ok 0 (by simp) (by simp) (by simp)).2
          simp only [PCell, List.getElem_cons_zero] at h0' h1 h2
          rw [h1.int_inv, h2.int_inv]
          obtain ⟨i, rfl⟩ := Int.eq_ofNat_of_zero_le hi0
          obtain ⟨j, rfl⟩ := Int.eq_ofNat_of_zero_le (show 0 ≤ j by omega)
          obtain ⟨xs', hxs, hrow⟩ := h0'
          cases hxs
          have hij' : i < j := by omega
          have hj' : j ≤ xs.length := by omega
          simp only [Int.toNat_natCast] at *
          rcases hrow with ⟨_, rfl⟩ | ⟨b, o, cap, sz, ag, C, fz, R⟩
          · simp at hj'; omega
          have hv := R.hv
          simp only at hv
          subst hv
          have hsz : sz = 3 := by
            have h3 : szOf Tryd.prog 30 = some 3 := by kernel_rfl
            have := R.rd.hz
            simp only [eOf] at this
            rw [h3] at this
            exact (Option.some.inj this).symm
          subst hsz
          have hb : b < w.heap.size ∧ ¬ S b := hbS b (by simp [argsB, argB, blkG, Value.ownBlock])
          have hone : ∀ t, t < xs.length * 3 → (C.getD (t + o) undef).oneCell' = true := fun t ht => by rw [Nat.add_comm]; exact R.rd.one t ht
          refine (del_calls b o xs.length cap i j w C fz hij' hj' R.hc R.hh R.hfz R.hs hone).mono ?_
          rintro e w' ⟨rfl, D, hD, hDs, hW, hd1, hd2⟩
          have hFb : ∀ k, F k → w'.heap[k]? = w.heap[k]? := fun k hk => hW.block k (hS k (hFS k hk)) (fun h => hb.2 (h ▸ hFS k hk))
          refine ⟨[.slice (some ⟨b, o, none⟩) (i + (xs.length - j)) cap], F, rfl, ?_, fun b h => h, fun b h => .inl h, ⟨[[.list 30 (xs.take i ++ xs.drop j)]], [], rfl, rfl, ⟨⟨rfl, rfl, fun k h h1 h2 => ?_⟩, trivial⟩, ?_⟩, ?_, ?_⟩
          · refine hW.mono fun k hk => ?_
            subst hk
            simp [argsB, argB, blkG, Value.ownBlock]
          · obtain rfl : k = 0 := by simp at h; omega
            refine ⟨by simp, xs.take i ++ xs.drop j, rfl, .inr ⟨b, o, cap, 3, ag, D, fz, ?_⟩⟩
            have hl : (xs.take i ++ xs.drop j).length = i + (xs.length - j) := by simp; omega
            have := R.hc
            refine ⟨by simp only [hl]; rfl, hD, by rw [hDs]; exact R.hfz, by rw [hl]; omega, R.hm, by rw [hDs]; exact R.hs, ?_⟩
            exact R.rd.cut hFb i j hj' (by omega) (fun t ht => by rw [Nat.add_comm o t]; exact hd1 t ht) (fun t ht => by rw [Nat.add_comm o, Nat.add_comm o]; exact hd2 t ht)
          · simp [backsOf, RBacks]
          · simp [ressB, resB, blkG, backsB, backsOf, Value.ownBlock]
          · intro k hk
            have hk' : k = b := by simpa [ressB, resB, blkG, backsB, backsOf, Value.ownBlock] using hk
            subst hk'
            exact ⟨Nat.lt_of_lt_of_le hb.1 hW.size, .inr (by simp [argsB, argB, blkG, Value.ownBlock]), fun h => hb.2 (hFS _ h)⟩
      · cases hφ
    · cases hφ
end Go.Proofs.YtlhcgiegganbpaaDoorVs
