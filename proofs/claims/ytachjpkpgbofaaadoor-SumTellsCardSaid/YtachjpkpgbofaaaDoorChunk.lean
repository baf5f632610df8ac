/- slices.Chunk at bytes (a closure that hands on runs of at most so many bytes), and what sum.Of comes to: walked by hand inside the wide fence. Condition: the row of rows reads as lists of bytes. -/
import Derived.RangeFuncNested
import Derived.RangeFuncBound
import Derived.RangeFuncCalls
import Derived.RangeFuncLeaves
import Derived.Shelf.Abstract
import Derived.Shelf.RegionOpen
import Derived.WalkKit
import Derived.OwnWalkIn
import Derived.TacticsInMore
import Derived.LoopNIn
import Derived.LoopIn
import Derived.BigRegionIn
import Derived.Lib.SliceRun
import Derived.Lib.Hide
import Derived.Test.YtachjpkpgbofaaaDoorProg
import Derived.Test.YtachjpkpgbofaaaDoorV1
namespace Go.Proofs.YtachjpkpgbofaaaDoor.Chunk
open Go Go.RowKit Go.Shelf Go.Proofs.YtachjpkpgbofaaaDoorW.PrintWords
set_option linter.unusedVariables false
set_option linter.unusedSimpArgs false
attribute [local go_sem] Oper.semAt_some

def upto {α : Type} (f : Nat → α) (k : Nat) : List α := (List.range k).map f
theorem upto_succ {α : Type} (f : Nat → α) (k : Nat) : upto f (k + 1) = upto f k ++ [f k] := by simp [upto, List.range_succ]
theorem upto_length {α : Type} (f : Nat → α) (k : Nat) : (upto f k).length = k := by simp [upto]
theorem add_add (a : Addr) (i j : Nat) : (a.add i).add j = a.add (i + j) := by
  unfold Addr.add
  by_cases hi : i = 0 <;> by_cases hj : j = 0 <;> simp [hi, hj, Nat.add_assoc]

theorem chunk_in (F : Fence) (n : Nat) (h : F.fn 16) (hro : F.round = none) (a : Option Addr) (len cap : Nat) (w : World) :
    CallsIn F n Tryd.prog 16 #[.slice a len cap, .int .i64 5000] w fun e w' => e = .returned (.func (.func 18) #[] #[.pointer (some ⟨w.heap.size, 0, none⟩), .pointer (some ⟨w.heap.size + 1, 0, none⟩)]) ∧ w' = (w.alloc (.cells #[.slice a len cap] 22)).alloc (.cells #[.int .i64 5000] 3) := by
  refine callsIn_of_wp Tryd.func16 rfl h ?_ hro
  simp only [Tryd.ntmps16, List.size_toArray, List.length_cons, List.length_nil, Nat.reduceAdd, Nat.reduceSub, Array.replicate_succ, Array.replicate_zero, List.push_toArray, List.append_toArray, List.nil_append, List.cons_append]
  gi_wp2
  go_ret
  exact ⟨rfl, rfl⟩

/-- where a run begins, and how many bytes it has. -/
abbrev Run (len : Nat) : Type := { x : Nat × Nat // x.1 + x.2 ≤ len }
/-- the run number k of len bytes. -/
def run_ (len k : Nat) : Run len := ⟨(min (5000 * k) len, min 5000 (len - 5000 * k)), by simp only []; omega⟩
def rounds_ (len : Nat) : Nat := (len + 4999) / 5000

set_option maxRecDepth 100000 in
set_option maxHeartbeats 2000000 in
theorem chunk1_in (F : Fence) (n : Nat) (h : F.fn 18) (hro : F.round = none) (hn : 1 ≤ n) (l Bs Bn len cap : Nat) (ad : Addr) (hl : len ≤ cap) (hreach : len ≤ 140737488351232) (Kp : World → World → Prop)
    (hKs : ∀ W W', Kp W W' → W'.heap[Bs]? = W.heap[Bs]?) (hKn : ∀ W W', Kp W W' → W'.heap[Bn]? = W.heap[Bn]?) (J Jx : List (Run len) → World → Prop)
    (hJ : ∀ s W, J s W → J s W.drew)
    (hY : ∀ pre x W, J pre W → pre.length < rounds_ len → YieldAt F (n - 1) Tryd.prog l #[.slice (some (ad.add x.1.1)) x.1.2 x.1.2] W fun e W' =>
      (e = .returned (.bool true) ∧ J (pre ++ [x]) W' ∧ Kp W W') ∨ (e = .returned (.bool false) ∧ Jx (pre ++ [x]) W'))
    (W : World) (hBs : W.cell? ⟨Bs, 0, none⟩ = some (.slice (some ad) len cap)) (hBn : W.cell? ⟨Bn, 0, none⟩ = some (.int .i64 5000)) (h0 : J [] W) :
    CallsIn F n Tryd.prog 18 #[.func (.yield l) #[] #[], .pointer (some ⟨Bs, 0, none⟩), .pointer (some ⟨Bn, 0, none⟩)] W fun e W' => (∃ v, e = .returned v) ∧
      ((∃ ys, ys = upto (run_ len) (rounds_ len) ∧ J ys W') ∨ (∃ pre, (∃ k, k ≤ rounds_ len ∧ pre = upto (run_ len) k) ∧ Jx pre W')) := by
  have hrl : rounds_ len = (len + 4999) / 5000 := rfl
  rw [hrl] at *
  refine callsIn_of_wp Tryd.func18 rfl h ?_ hro
  simp only [Tryd.ntmps18, List.size_toArray, List.length_cons, List.length_nil, Nat.reduceAdd, Nat.reduceSub, Array.replicate_succ, Array.replicate_zero, List.push_toArray, List.append_toArray, List.nil_append, List.cons_append]
  clear hrl
  gi_wp2
  gi_loopw [4] (fun i wr => ∃ k : Nat, k ≤ (len + 4999) / 5000 ∧ i = .int .i64 ((5000 * k : Nat) : Int) ∧ J (upto (run_ len) k) wr ∧ wr.cell? ⟨Bs, 0, none⟩ = some (.slice (some ad) len cap) ∧ wr.cell? ⟨Bn, 0, none⟩ = some (.int .i64 5000))
    (fun i _ => len + 5000 - (intOf i).toNat)
  case atStart => exact ⟨0, Nat.zero_le _, rfl, h0, hBs, hBn⟩
  case round =>
    obtain ⟨k, hk, rfl, hJs, hs, hn5⟩ := hrel
    by_cases hlt : 5000 * k < len
    · have hk1 : k < (len + 4999) / 5000 := by omega
      obtain ⟨i, hi⟩ : ∃ i, i = 5000 * k := ⟨_, rfl⟩
      rw [← hi] at hlt ⊢
      have Hi := Lib.hid hi
      clear hi
      have hne : ¬ cap = i := by omega
      have hile : i ≤ len := by omega
      obtain ⟨m, hm⟩ : ∃ m, m = min 5000 (len - i) := ⟨_, rfl⟩
      have HM : Hid ((if ((len - i : Nat) : Int) < 5000 then ((len - i : Nat) : Int) else 5000) = (m : Int)) := by
        show _ = _
        split <;> omega
      have hm1 : i + m ≤ len := by omega
      have hr : run_ len k = ⟨(i, m), hm1⟩ := Subtype.ext (by unfold run_; simp only [Prod.mk.injEq]; have := Hi.out; omega)
      have Hr := Lib.hid hr
      have hm0 : 1 ≤ m := by omega
      clear hm hr
      gi_wp2
      gi_region
      all_goals rw [HM.out]
      all_goals
        obtain ⟨fn, tmps, assign, body, hy, hR⟩ := hY _ ⟨(i, m), hm1⟩ wr.drew (hJ _ _ hJs) (by rw [upto_length]; exact hk1)
        dsimp only at hy
        gi_wp2
        refine hR.mono ?_
        rintro e W3 (⟨rfl, hJ3, hk3⟩ | ⟨rfl, hJx3⟩)
        · have hs3 : W3.cell? ⟨Bs, 0, none⟩ = some (.slice (some ad) len cap) := (World.cell?_of_block (hKs _ _ hk3)).trans hs
          have hn3 : W3.cell? ⟨Bn, 0, none⟩ = some (.int .i64 5000) := (World.cell?_of_block (hKn _ _ hk3)).trans hn5
          gi_wp2
          go_roundw
          case rel => exact ⟨k + 1, hk1, congrArg (Value.int .i64) (by have := Hi.out; omega), by rw [upto_succ, Hr.out]; exact hJ3, hs3, hn3⟩
          case measure => simp [intOf]; omega
        · gi_wp2
          refine bodyPost_ret (results_none rfl _ _ _) rfl ?_
          exact ⟨⟨_, rfl⟩, .inr ⟨_, ⟨k + 1, hk1, by rw [upto_succ, Hr.out]⟩, hJx3⟩⟩
    · gi_wp2
      go_end0
      exact ⟨⟨_, rfl⟩, .inl ⟨_, by rw [show k = (len + 4999) / 5000 by omega], hJs⟩⟩
set_option maxRecDepth 100000 in
set_option maxHeartbeats 1000000 in
theorem chunk1_nil_in (F : Fence) (n : Nat) (h : F.fn 18) (hro : F.round = none) (l Bs Bn cap : Nat) (a : Option Addr) {α : Type} (J : List α → World → Prop) (W : World) (hBs : W.cell? ⟨Bs, 0, none⟩ = some (.slice a 0 cap)) (h0 : J [] W) :
    CallsIn F n Tryd.prog 18 #[.func (.yield l) #[] #[], .pointer (some ⟨Bs, 0, none⟩), .pointer (some ⟨Bn, 0, none⟩)] W fun e W' => (∃ v, e = .returned v) ∧ J [] W' := by
  refine callsIn_of_wp Tryd.func18 rfl h ?_ hro
  simp only [Tryd.ntmps18, List.size_toArray, List.length_cons, List.length_nil, Nat.reduceAdd, Nat.reduceSub, Array.replicate_succ, Array.replicate_zero, List.push_toArray, List.append_toArray, List.nil_append, List.cons_append]
  gi_wp2
  gi_loopw [4] (fun i wr => i = .int .i64 0 ∧ J [] wr ∧ wr.cell? ⟨Bs, 0, none⟩ = some (.slice a 0 cap)) (fun _ _ => 0)
  case atStart => exact ⟨rfl, h0, hBs⟩
  case round =>
    obtain ⟨rfl, hJs, hs⟩ := hrel
    gi_wp2
    go_end0
    exact ⟨⟨_, rfl⟩, hJs⟩
def Kp (B Bs Bn : Nat) (W W' : World) : Prop := Below B W W' ∧ W'.heap[Bs]? = W.heap[Bs]? ∧ W'.heap[Bn]? = W.heap[Bn]?
theorem Kp.t {B Bs Bn : Nat} {W1 W2 W3 : World} (h : Kp B Bs Bn W1 W2) (k : Kp B Bs Bn W2 W3) : Kp B Bs Bn W1 W3 := ⟨h.1.trans k.1, k.2.1.trans h.2.1, k.2.2.trans h.2.2⟩
theorem Kp.b {B Bs Bn N : Nat} (hB : B ≤ N) (hs : Bs < N) (hn : Bn < N) (W : World) (l : Nat) (o o' : Obj) (hl : N ≤ l) (h : W.heap[l]? = some o) (_ : o.isCells = false) (_ : o.isWalk = false) : Kp B Bs Bn W (W.putObj l o') :=
  ⟨(Below.refl B W).grown (grownBy_putObj' W l o') (by have := (Array.getElem?_eq_some_iff.1 h).1; omega) (fun k e => by cases e; omega), World.putObj_heap_other (by omega), World.putObj_heap_other (by omega)⟩
theorem Kp.set {B Bs Bn : Nat} {W W' : World} (h : Kp B Bs Bn W W') {b : Nat} (v : Value) (hb : B ≤ b) (hs : Bs ≠ b) (hn : Bn ≠ b) : Kp B Bs Bn W (W'.setCell ⟨b, 0, none⟩ v) :=
  ⟨h.1.setCell (p := ⟨b, 0, none⟩) hb _, (Below.heap_setCell _ _ _ _ hs).trans h.2.1, (Below.heap_setCell _ _ _ _ hn).trans h.2.2⟩
theorem Kp.drew {B Bs Bn : Nat} {W W' : World} (h : Kp B Bs Bn W W') : Kp B Bs Bn W W'.drew := ⟨below_drew1 h.1, h.2.1, h.2.2⟩
theorem grownBy_drew (W : World) : W.grownBy W.drew none := ⟨rfl, rfl, rfl, Nat.le_refl _, fun _ _ _ => rfl⟩
theorem chunk_stops (F : Fence) (n : Nat) (h : F.fn 18) (hro : F.round = none) (hn : 1 ≤ n) (B Bs Bn len cap : Nat) (A : Option Addr) (hA : 0 < len → ∃ ad, A = some ad) (hl : len ≤ cap) (hreach : len ≤ 140737488351232) (w : World) (hBs : Boxed w Bs 22 (.slice A len cap)) (hBn : Boxed w Bn 3 (.int .i64 5000)) :
    SeqStopsK F n Tryd.prog 18 #[.pointer (some ⟨Bs, 0, none⟩), .pointer (some ⟨Bn, 0, none⟩)] (fun x : Run len => #[.slice (some ((A.getD default).add x.1.1)) x.1.2 x.1.2]) (Kp B Bs Bn) (fun ys => ys = upto (run_ len) (rounds_ len)) (fun pre => ∃ k, k ≤ rounds_ len ∧ pre = upto (run_ len) k) (rounds_ len) w := fun l J Jx W hW hJ _ hY h0 => by
  have h1 : W.cell? ⟨Bs, 0, none⟩ = some (.slice A len cap) := (hW.cell (p := ⟨Bs, 0, none⟩) hBs.lt).trans hBs.cell
  have h2 : W.cell? ⟨Bn, 0, none⟩ = some (.int .i64 5000) := (hW.cell (p := ⟨Bn, 0, none⟩) hBn.lt).trans hBn.cell
  by_cases hz : 0 < len
  · obtain ⟨ad, rfl⟩ := hA hz
    exact chunk1_in F n h hro hn l Bs Bn len cap ad hl hreach (Kp B Bs Bn) (fun _ _ k => k.2.1) (fun _ _ k => k.2.2) J Jx (fun s W hs => hJ s W _ none hs (grownBy_drew W) (fun r e => by cases e)) hY W h1 h2 h0
  · obtain rfl : len = 0 := by omega
    exact (chunk1_nil_in F n h hro l Bs Bn cap A J W h1 h0).mono fun e W' ⟨he, hj⟩ => ⟨he, .inl ⟨_, rfl, hj⟩⟩
end Go.Proofs.YtachjpkpgbofaaaDoor.Chunk
