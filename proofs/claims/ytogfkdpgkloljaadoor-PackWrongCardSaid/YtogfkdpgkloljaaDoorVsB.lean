/-
  What a value of the small language says of Go's memory, and what keeps it. Conditions: each lemma's own premises.
-/
import Derived.Test.YtogfkdpgkloljaaDoorVsC
set_option linter.unusedVariables false
set_option linter.unusedSimpArgs false
namespace Go.Proofs.YtogfkdpgkloljaaDoorVs

/-! ### what is only read -/
inductive Rd (P : Program) (S : Nat → Prop) (w : World) : V → Value → Prop
  | undef (c : Value) : Rd P S w .undef c
  | int (k : IntKind) (n : Int) : Rd P S w (.int k n) (.int k n)
  | bool (b : Bool) : Rd P S w (.bool b) (.bool b)
  | str (s : ByteArray) : Rd P S w (.str s) (.string s)
  | nilI : Rd P S w .nilI .nilIface
  | iface (t : TypeId) (x : V) (c : Value) (h : Rd P S w x c) : Rd P S w (.iface t x) (.iface t c)
  | nil (e : TypeId) (a : Option Addr) (cap : Nat) : Rd P S w (.list e []) (.slice a 0 cap)
  | listS (e : TypeId) (xs : List V) (b o cap : Nat) (f : Nat → Value) (hn : xs ≠ []) (hk : agT P e = some false) (hz : szOf P e = some 1) (hs : S b) (hc : xs.length ≤ cap)
      (hf : ∀ i, i < xs.length → w.cell? ⟨b, o + i, none⟩ = some (f i)) (hu : ∀ i (h : i < xs.length), xs[i] ≠ .undef) (hx : ∀ i (h : i < xs.length), Rd P S w xs[i] (f i)) : Rd P S w (.list e xs) (.slice (some ⟨b, o, none⟩) xs.length cap)
  | listA (e : TypeId) (yss : List (List V)) (b o cap sz : Nat) (f : Nat → Value) (hn : yss ≠ []) (hk : agT P e = some true) (hz : szOf P e = some sz) (hp : 0 < sz) (hs : S b) (hc : yss.length ≤ cap)
      (hl : ∀ ys ∈ yss, ys.length = sz) (hf : ∀ i, i < yss.length * sz → w.cell? ⟨b, o + i, none⟩ = some (f i))
      (hu : ∀ i (h : i < yss.length) j (h' : j < yss[i].length), yss[i][j] ≠ .undef)
      (hx : ∀ i (h : i < yss.length) j (h' : j < yss[i].length), Rd P S w yss[i][j] (f (i * sz + j))) : Rd P S w (.list e (yss.map .agg)) (.slice (some ⟨b, o, none⟩) yss.length cap)

theorem cell_same {w w' : World} {b o : Nat} (h : w'.heap[b]? = w.heap[b]?) : w'.cell? ⟨b, o, none⟩ = w.cell? ⟨b, o, none⟩ := World.cell?_of_block (a := ⟨b, o, none⟩) h
theorem Rd.mono {P : Program} {S S' : Nat → Prop} {w w' : World} {x : V} {c : Value} (h : Rd P S w x c) (hS : ∀ b, S b → S' b) (hw : ∀ b, S b → w'.heap[b]? = w.heap[b]?) : Rd P S' w' x c := by
  induction h with
  | undef c => exact .undef c
  | int k n => exact .int k n
  | bool b => exact .bool b
  | str s => exact .str s
  | nilI => exact .nilI
  | iface t x c h ih => exact .iface t x c ih
  | nil e a cap => exact .nil e a cap
  | listS e xs b o cap f hn hk hz hs hc hf hu hx ih => exact .listS e xs b o cap f hn hk hz (hS b hs) hc (fun i hi => by rw [cell_same (hw b hs)]; exact hf i hi) hu ih
  | listA e yss b o cap sz f hn hk hz hp hs hc hl hf hu hx ih => exact .listA e yss b o cap sz f hn hk hz hp (hS b hs) hc hl (fun i hi => by rw [cell_same (hw b hs)]; exact hf i hi) hu ih

/-! ### elements of a row: cells f 0, f 1, .. -/
/-- an element's value and its cells -/
def RdE (P : Program) (S : Nat → Prop) (w : World) (ag : Bool) (sz : Nat) (x : V) (f : Nat → Value) : Prop :=
  match ag with
  | false => x ≠ .undef ∧ Rd P S w x (f 0)
  | true => ∃ ys, x = .agg ys ∧ ys.length = sz ∧ ∀ j (h : j < ys.length), ys[j] ≠ .undef ∧ Rd P S w ys[j] (f j)
theorem RdE.mono {P : Program} {S S' : Nat → Prop} {w w' : World} {ag : Bool} {sz : Nat} {x : V} {f : Nat → Value} (h : RdE P S w ag sz x f) (hS : ∀ b, S b → S' b) (hw : ∀ b, S b → w'.heap[b]? = w.heap[b]?) : RdE P S' w' ag sz x f := by
  cases ag with
  | false => exact ⟨h.1, Rd.mono h.2 hS hw⟩
  | true =>
    obtain ⟨ys, rfl, hl, hr⟩ := h
    exact ⟨ys, rfl, hl, fun j h => ⟨(hr j h).1, (hr j h).2.mono hS hw⟩⟩
/-- a row of such -/
structure RdRow (P : Program) (S : Nat → Prop) (w : World) (e : TypeId) (sz : Nat) (ag : Bool) (xs : List V) (f : Nat → Value) : Prop where
  hk : agT P e = some ag
  hz : szOf P e = some sz
  hp : 0 < sz
  ha : ag = false → sz = 1
  hx : ∀ i (h : i < xs.length), RdE P S w ag sz xs[i] (fun j => f (i * sz + j))
theorem RdRow.mono {P : Program} {S S' : Nat → Prop} {w w' : World} {e : TypeId} {ag : Bool} {sz : Nat} {xs : List V} {f : Nat → Value} (h : RdRow P S w e sz ag xs f) (hS : ∀ b, S b → S' b) (hw : ∀ b, S b → w'.heap[b]? = w.heap[b]?) : RdRow P S' w' e sz ag xs f :=
  ⟨h.hk, h.hz, h.hp, h.ha, fun i hi => (h.hx i hi).mono hS hw⟩
theorem agg_list {sz : Nat} : ∀ (xs : List V), (∀ i (h : i < xs.length), ∃ ys, xs[i] = .agg ys ∧ ys.length = sz) → ∃ yss : List (List V), xs = yss.map .agg ∧ ∀ ys ∈ yss, ys.length = sz
  | [], _ => ⟨[], rfl, by simp⟩
  | x :: r, h => by
    obtain ⟨ys, hy, hl⟩ := h 0 (by simp)
    obtain ⟨yss, rfl, h2⟩ := agg_list r (fun i hi => h (i + 1) (by simpa using hi))
    simp only [List.getElem_cons_zero] at hy
    subst hy
    refine ⟨ys :: yss, rfl, ?_⟩
    intro z hz
    rcases List.mem_cons.1 hz with rfl | hz
    · exact hl
    · exact h2 z hz
/-- a row that is read out of cells -/
theorem Rd.of_row {P : Program} {S : Nat → Prop} {w : World} {e : TypeId} {ag : Bool} {sz : Nat} {xs : List V} {f : Nat → Value} (h : RdRow P S w e sz ag xs f) (b o cap : Nat) (hb : S b) (hc : xs.length ≤ cap)
    (hf : ∀ i, i < xs.length * sz → w.cell? ⟨b, o + i, none⟩ = some (f i)) : Rd P S w (.list e xs) (.slice (some ⟨b, o, none⟩) xs.length cap) := by
  by_cases hn : xs = []
  · subst hn; exact .nil e _ cap
  · obtain ⟨hk, hz, hp, ha, hx⟩ := h
    cases ag with
    | false =>
      have h1 := ha rfl; subst h1
      exact .listS e xs b o cap f hn hk hz hb hc (fun i hi => hf i (by omega)) (fun i hi => (hx i hi).1) (fun i hi => by have := (show _ ∧ _ from hx i hi).2; simpa using this)
    | true =>
      obtain ⟨yss, rfl, hl⟩ := agg_list xs (fun i hi => by obtain ⟨ys, h1, h2, _⟩ := hx i hi; exact ⟨ys, h1, h2⟩)
      have hne : yss ≠ [] := by rintro rfl; exact hn rfl
      have := Rd.listA (P := P) (S := S) (w := w) e yss b o cap sz f hne hk hz hp hb (by simpa using hc) hl (fun i hi => hf i (by simpa using hi)) (fun i hi j hj => by
        obtain ⟨ys, h1, h2, h3⟩ := hx i (by simpa using hi)
        simp only [List.getElem_map] at h1
        injection h1 with h1
        subst h1
        exact (h3 j hj).1) (fun i hi j hj => by
        obtain ⟨ys, h1, h2, h3⟩ := hx i (by simpa using hi)
        simp only [List.getElem_map] at h1
        injection h1 with h1
        subst h1
        exact (h3 j hj).2)
      simpa using this
/-- .. and the other way round -/
theorem Rd.inv {P : Program} {S : Nat → Prop} {w : World} {x : V} {c : Value} (h : Rd P S w x c) : ∀ e xs, x = .list e xs → (xs = [] ∧ ∃ a cap, c = .slice a 0 cap) ∨
    ∃ b o cap sz ag f, c = .slice (some ⟨b, o, none⟩) xs.length cap ∧ S b ∧ xs.length ≤ cap ∧ RdRow P S w e sz ag xs f ∧ (∀ i, i < xs.length * sz → w.cell? ⟨b, o + i, none⟩ = some (f i)) := by
  intro e' xs' he
  cases h with
  | nil e a cap => injection he with h1 h2; exact .inl ⟨h2.symm, a, cap, rfl⟩
  | listS e xs b o cap f hn hk hz hs hc hf hu hx =>
    injection he with h1 h2; subst h1; subst h2
    exact .inr ⟨b, o, cap, 1, false, f, rfl, hs, hc, ⟨hk, hz, by omega, fun _ => rfl, fun i hi => ⟨hu i hi, by simpa using hx i hi⟩⟩, fun i hi => hf i (by omega)⟩
  | listA e yss b o cap sz f hn hk hz hp hs hc hl hf hu hx =>
    injection he with h1 h2; subst h1; subst h2
    refine .inr ⟨b, o, cap, sz, true, f, by simp, hs, by simpa using hc, ⟨hk, hz, hp, by simp, fun i hi => ?_⟩, fun i hi => hf i (by simpa using hi)⟩
    have hi' : i < yss.length := by simpa using hi
    exact ⟨yss[i], by simp, hl _ (List.getElem_mem hi'), fun j hj => ⟨hu i hi' j hj, hx i hi' j hj⟩⟩
  | _ => cases he
theorem Rd.row {P : Program} {S : Nat → Prop} {w : World} {e : TypeId} {xs : List V} {c : Value} (h : Rd P S w (.list e xs) c) (hn : xs ≠ []) :
    ∃ b o cap sz ag f, c = .slice (some ⟨b, o, none⟩) xs.length cap ∧ S b ∧ xs.length ≤ cap ∧ RdRow P S w e sz ag xs f ∧ (∀ i, i < xs.length * sz → w.cell? ⟨b, o + i, none⟩ = some (f i)) := by
  rcases h.inv e xs rfl with ⟨h, _⟩ | h
  · exact absurd h hn
  · exact h
theorem Rd.slice {P : Program} {S : Nat → Prop} {w : World} {e : TypeId} {xs : List V} {c : Value} (h : Rd P S w (.list e xs) c) : ∃ a cap, c = .slice a xs.length cap := by
  rcases h.inv e xs rfl with ⟨rfl, a, cap, rfl⟩ | ⟨b, o, cap, sz, ag, f, rfl, _⟩
  · exact ⟨a, cap, rfl⟩
  · exact ⟨_, _, rfl⟩

/-! ### own rows, variables in memory -/
structure Row where
  val : Value
  e : TypeId
def Row.blk (r : Row) : Option Nat := r.val.ownBlock
structure Lay where
  row : Nat → Option Row
  box : Nat → Option (Nat × Bool)
  F : Nat → Prop
  S : Nat → Prop
def Lay.src (L : Lay) : Src → Nat → Prop
  | .fz => L.F
  | .lent => L.S
  | .of t => fun b => L.S b ∨ ∃ r, L.row t = some r ∧ r.blk = some b

/-- an own row: its value, its cells -/
structure RowAt (P : Program) (F : Nat → Prop) (w : World) (r : Row) (xs : List V) (b o cap sz : Nat) (ag : Bool) (C : Array Value) (fz : Nat × Nat) : Prop where
  hv : r.val = .slice (some ⟨b, o, none⟩) xs.length cap
  hh : w.heap[b]? = some (.cells C r.e fz)
  hfz : fz.2 ≤ fz.1 ∨ C.size ≤ fz.1
  hc : xs.length ≤ cap
  hm : cap ≤ maxLen
  hs : o + cap * sz ≤ C.size
  rd : RdRow P F w r.e sz ag xs (fun i => C.getD (o + i) undef)
def RowOK (P : Program) (F : Nat → Prop) (w : World) (r : Row) (x : List V) : Prop :=
  ∃ xs, x = [.list r.e xs] ∧ ((r.val = .slice none 0 0 ∧ xs = []) ∨ ∃ b o cap sz ag C fz, RowAt P F w r xs b o cap sz ag C fz)

/-- an element at a place -/
def ElAt (P : Program) (S : Nat → Prop) (w : World) (b p : Nat) (x : V) : Prop :=
  (∃ ys, x = .agg ys ∧ ∀ i (h : i < ys.length), ∃ c, w.cell? ⟨b, p + i, none⟩ = some c ∧ Rd P S w ys[i] c) ∨
  ((∀ ys, x ≠ .agg ys) ∧ ∃ c, w.cell? ⟨b, p, none⟩ = some c ∧ Rd P S w x c)
def RA (P : Program) (L : Lay) (w : World) (a : At) (x : V) (c : Value) : Prop :=
  x = .undef ∨ match a with
  | .dead => True
  | .gone _ => True
  | .v s => Rd P (L.src s) w x c
  | .nils => c = .slice none 0 0 ∧ ∃ e, x = .list e []
  | .nilp => c = .pointer none ∧ x = .unit
  | .own t => x = .unit ∧ ∃ r, L.row t = some r ∧ c = r.val
  | .ptr u off => x = .unit ∧ ∃ b ro, L.box u = some (b, ro) ∧ c = .pointer (some ⟨b, off, none⟩)
  | .opt u => (x = .bool false ∧ c = .pointer none) ∨ (x = .bool true ∧ ∃ b ro, L.box u = some (b, ro) ∧ c = .pointer (some ⟨b, 0, none⟩))
  | .elt t j => ∃ (r : Row) (i b o n cap sz : Nat), L.row t = some r ∧ x = .int .i64 i ∧ r.val = .slice (some ⟨b, o, none⟩) n cap ∧ szOf P r.e = some sz ∧ i < n ∧ c = .pointer (some ⟨b, o + i * sz + j, none⟩)
  | .iel s j => ∃ b p, L.src s b ∧ ElAt P (L.src s) w b p x ∧ c = .pointer (some ⟨b, p + j, none⟩)
/-- several: atoms, values, cells -/
def RAs (P : Program) (L : Lay) (w : World) (as : List At) (xs : List V) (cs : List Value) : Prop :=
  as.length = cs.length ∧ xs.length = as.length ∧ ∀ i (h : i < as.length) (h1 : i < xs.length) (h2 : i < cs.length), RA P L w as[i] xs[i] cs[i]
def RPart (P : Program) (L : Lay) (w : World) (p : Bool × List At) (xs : List V) (c : Value) : Prop :=
  if p.1 then ∃ cs, c = .agg cs ∧ RAs P L w p.2 xs cs.toList else RAs P L w p.2 xs [c]
def RParts (P : Program) (L : Lay) (w : World) : List (Bool × List At) → List V → List Value → Prop
  | [], xs, cs => xs = [] ∧ cs = []
  | p :: ps, xs, cs => ∃ xs1 xs2 c cs2, xs = xs1 ++ xs2 ∧ cs = c :: cs2 ∧ RPart P L w p xs1 c ∧ RParts P L w ps xs2 cs2
/-- a slot -/
def RSl (P : Program) (L : Lay) (w : World) : Sh → List V → Value → Prop
  | .one .dead, _, _ => True
  | .one (.gone _), _, _ => True
  | .one a, xs, c => RAs P L w [a] xs [c]
  | .agg as, xs, c => ∃ cs, c = .agg cs ∧ RAs P L w as xs cs.toList
  | .tup ps, xs, c => ∃ cs, c = .tuple cs ∧ RParts P L w ps xs cs.toList
structure BoxOK (P : Program) (L : Lay) (w : World) (b : Nat) (as : List At) (xs : List V) : Prop where
  cells : ∃ C ty fz, w.heap[b]? = some (.cells C ty fz) ∧ (fz.2 ≤ fz.1 ∨ C.size ≤ fz.1) ∧ RAs P L w as xs C.toList

/-- from world w0 on nothing that was there has changed but for M -/
structure Keep (w0 : World) (M : Nat → Prop) (w : World) : Prop where
  os : w.os = w0.os
  tape : w.tape = w0.tape
  output : w.output = w0.output
  size : w0.heap.size ≤ w.heap.size
  block : ∀ b, b < w0.heap.size → ¬ M b → w.heap[b]? = w0.heap[b]?
def mine (w0 : World) (M : Nat → Prop) (b : Nat) : Prop := w0.heap.size ≤ b ∨ M b

/-- the slots: how many, and those that stay what they were -/
structure Fr where
  n : Nat
  kl : List Nat
  val : Nat → Value
  F : Nat → Prop
def Fr.st (N : Fr) : Nat × List Nat := (N.n, N.kl)
def Fr.W (N : Fr) (d : Nat) : Prop := d < N.n ∧ d ∉ N.kl
structure FrOK (N : Fr) (a : Act) : Prop where
  size : a.tmps.size = N.n
  keep : ∀ s, s ∈ N.kl → a.tmps.getD s undef = N.val s
structure NdOK (N : Fr) (w0 : World) (M : Nat → Prop) (F : Nat → Prop) (a : Act) : Prop where
  nd : a.defers = []
  lo : ∀ b, N.F b → F b
  hi : ∀ b, F b → N.F b ∨ mine w0 M b
structure Rel (P : Program) (w0 : World) (M : Nat → Prop) (N : Fr) (α : Al) (ν : Env) (L : Lay) (a : Act) (w : World) : Prop where
  nt : FrOK N a
  nd : NdOK N w0 M L.F a
  kp : Keep w0 M w
  fs : ∀ b, L.F b → L.S b
  sl : ∀ b, L.S b → b < w.heap.size
  slots : ∀ s, RSl P L w (α.slot s) (ν (sC s)) (a.tmps.getD s undef)
  rows : ∀ t r, L.row t = some r → RowOK P L.F w r (ν (tC t))
  boxes : ∀ u b ro, L.box u = some (b, ro) → ∀ x, α.box u = some x → x.ro = ro ∧ BoxOK P L w b x.as (ν (bC u))
  rowmine : ∀ t r b, L.row t = some r → r.blk = some b → mine w0 M b ∧ b < w.heap.size ∧ ¬ L.S b
  boxmine : ∀ u b, L.box u = some (b, false) → mine w0 M b ∧ b < w.heap.size ∧ ¬ L.S b
  boxro : ∀ u b, L.box u = some (b, true) → L.S b
  rr : ∀ t t' r r' b, L.row t = some r → L.row t' = some r' → r.blk = some b → r'.blk = some b → t = t'
  rb : ∀ t r u b ro, L.row t = some r → r.blk = some b → L.box u = some (b, ro) → False
  bb : ∀ u u' b ro, L.box u = some (b, false) → L.box u' = some (b, ro) → u = u'
end Go.Proofs.YtogfkdpgkloljaaDoorVs
