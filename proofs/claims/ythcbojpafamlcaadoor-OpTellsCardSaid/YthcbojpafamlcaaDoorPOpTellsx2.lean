/- The functions that the law reaches, as plain functions of lists and numbers, and that a call of the Go code comes to just their answers; laid by this repo's own program over the seat's translation. Conditions: each contract's own premises. -/
import Derived.Test.YthcbojpafamlcaaDoorPOpTellsx0
namespace Go.Proofs.YthcbojpafamlcaaDoor.POpTells
open Go.RowKit Go.Proofs.YthcbojpafamlcaaDoorW.PrintWords Go.Proofs.YthcbojpafamlcaaDoorW.PrintLast Go.Proofs.YthcbojpafamlcaaDoorW.PrintMore
attribute [local go_sem] max2_int min2_int max_two min_two max_three min_three max_four min_four   -- for this text's walks alone
set_option linter.unusedVariables false
set_option linter.unusedSimpArgs false

/-! ### op_of: function 27 -/
def op_of.f (a0 : Int) : Option (ByteArray × ByteArray × Bool) := if 0 ≤ a0 ∧ a0 < 256 then (if a0 = 0 then some (⟨#[115, 101, 108, 102]⟩, ⟨#[]⟩, true) else if a0 = 1 then some (⟨#[110, 105, 108]⟩, ⟨#[]⟩, true) else if a0 = 2 then some (⟨#[116, 114, 117, 101]⟩, ⟨#[]⟩, true) else if a0 = 3 then some (⟨#[102, 97, 108, 115, 101]⟩, ⟨#[]⟩, true) else if a0 = 4 then some (⟨#[108, 105, 116]⟩, ⟨#[49]⟩, true) else if a0 = 5 then some (⟨#[116, 101, 109, 112]⟩, ⟨#[49, 49]⟩, true) else if a0 = 6 then some (⟨#[115, 101, 116]⟩, ⟨#[49, 49]⟩, true) else if a0 = 7 then some (⟨#[118, 97, 114]⟩, ⟨#[49]⟩, true) else if a0 = 8 then some (⟨#[112, 117, 116]⟩, ⟨#[49]⟩, true) else if a0 = 9 then some (⟨#[112, 111, 112]⟩, ⟨#[]⟩, true) else if a0 = 10 then some (⟨#[100, 117, 112]⟩, ⟨#[]⟩, true) else if a0 = 11 then some (⟨#[115, 101, 110, 100]⟩, ⟨#[49, 49]⟩, true) else if a0 = 12 then some (⟨#[115, 117, 112, 101, 114]⟩, ⟨#[49, 49]⟩, true) else if a0 = 13 then some (⟨#[106, 117, 109, 112]⟩, ⟨#[50]⟩, true) else if a0 = 14 then some (⟨#[101, 108, 115, 101]⟩, ⟨#[50, 50]⟩, true) else if a0 = 15 then some (⟨#[106, 111, 105, 110]⟩, ⟨#[]⟩, true) else if a0 = 16 then some (⟨#[98, 108, 111, 99, 107]⟩, ⟨#[49]⟩, true) else if a0 = 17 then some (⟨#[97, 110, 115, 119, 101, 114]⟩, ⟨#[]⟩, true) else if a0 = 18 then some (⟨#[109, 101]⟩, ⟨#[]⟩, true) else if a0 = 19 then some (⟨#[104, 111, 109, 101]⟩, ⟨#[]⟩, true) else if a0 = 20 then some (⟨#[99, 108, 97, 115, 115]⟩, ⟨#[49]⟩, true) else some (⟨#[]⟩, ⟨#[]⟩, false)) else none
theorem op_of.stepV {P : Program} {ops : Array Oper} {rest : List Oper} {o : Oper} {a : Act} {Q : Exit → Act → World → Prop} {W W1 : World} (N : Tmp) (hd : o.dst = some N) (hg : o.guard = none) (v : Value) (hrun : (execOp a.eval o).run P W = .ok (.value v) W1) (h : wpList P ops Q rest (a.put (some N) v) W1) : wpList P ops Q (o :: rest) a W := by
  refine wpList_plain hg fun K hK => ?_
  unfold Oper.wp
  rw [hrun, Oper.upon_value, hd]
  exact hK _ _ h
def op_of.cells : List Value := [.string ⟨#[115, 101, 108, 102]⟩, .string ⟨#[]⟩, .string ⟨#[110, 105, 108]⟩, .string ⟨#[]⟩, .string ⟨#[116, 114, 117, 101]⟩, .string ⟨#[]⟩, .string ⟨#[102, 97, 108, 115, 101]⟩, .string ⟨#[]⟩, .string ⟨#[108, 105, 116]⟩, .string ⟨#[49]⟩, .string ⟨#[116, 101, 109, 112]⟩, .string ⟨#[49, 49]⟩, .string ⟨#[115, 101, 116]⟩, .string ⟨#[49, 49]⟩, .string ⟨#[118, 97, 114]⟩, .string ⟨#[49]⟩, .string ⟨#[112, 117, 116]⟩, .string ⟨#[49]⟩, .string ⟨#[112, 111, 112]⟩, .string ⟨#[]⟩, .string ⟨#[100, 117, 112]⟩, .string ⟨#[]⟩, .string ⟨#[115, 101, 110, 100]⟩, .string ⟨#[49, 49]⟩, .string ⟨#[115, 117, 112, 101, 114]⟩, .string ⟨#[49, 49]⟩, .string ⟨#[106, 117, 109, 112]⟩, .string ⟨#[50]⟩, .string ⟨#[101, 108, 115, 101]⟩, .string ⟨#[50, 50]⟩, .string ⟨#[106, 111, 105, 110]⟩, .string ⟨#[]⟩, .string ⟨#[98, 108, 111, 99, 107]⟩, .string ⟨#[49]⟩, .string ⟨#[97, 110, 115, 119, 101, 114]⟩, .string ⟨#[]⟩, .string ⟨#[109, 101]⟩, .string ⟨#[]⟩, .string ⟨#[104, 111, 109, 101]⟩, .string ⟨#[]⟩, .string ⟨#[99, 108, 97, 115, 115]⟩, .string ⟨#[49]⟩]
def op_of.Tab (wc : World) (g : Nat) : Prop := ∃ cur : Array Value, wc.heap[g]? = some (.cells cur 68 (0, 0)) ∧ cur.toList = op_of.cells
theorem op_of.Tab.cell {wc : World} {g : Nat} (h : op_of.Tab wc g) (i : Nat) (v : Value) (hv : op_of.cells[i]? = some v) : wc.cell? ⟨g, i, none⟩ = some v := by
  obtain ⟨cur, h1, h2⟩ := h
  rw [cell_of_row wc g i cur 68 (0, 0) h1, ← Array.getElem?_toList, h2]
  exact hv
theorem op_of.stepS {P : Program} {ops : Array Oper} {rest : List Oper} {o : Oper} {a : Act} {Q : Exit → Act → World → Prop} {W : World} (N : Tmp) (hd : o.dst = some N) (hg : o.guard = none) (v : Value) (hrun : (execOp a.eval o).run P W = .ok (.value v) W) (h : wpList P ops Q rest (a.put (some N) v) W) : wpList P ops Q (o :: rest) a W := op_of.stepV N hd hg v hrun h

theorem op_of.old {w : World} {o : Obj} {k : Nat} (h : k < w.heap.size) : (w.alloc o).heap[k]? = w.heap[k]? := by
  show (w.heap.push o)[k]? = _
  rw [Array.getElem?_push, if_neg (Nat.ne_of_lt h)]
theorem op_of.belowCells {w W : World} {g : Nat} (h : Below w.heap.size w W) (hg : w.heap.size ≤ g) (vs : List Value) : Below w.heap.size w (W.setCells g 0 vs) := by
  obtain ⟨s1, s2, s3, s4⟩ := setCells_same g vs 0 W
  exact ⟨s1.trans h.os, s2.trans h.tape, s3.trans h.output, by rw [s4]; exact h.size, fun k hk => by rw [setCells_far _ _ _ (by omega)]; exact h.block k hk⟩
theorem op_of.storeRun {P : Program} {W W1 : World} {ev : Operand → Value} {o : Oper} {T : TypeId} {x y : Operand} {u v : Value} (ho : o.op = .store T x y) (h4 : ev x = u) (h26 : ev y = v) (hs : (Instr.storeAt T u v).run P W = .ok () W1) : (execOp ev o).run P W = .ok .skip W1 := by
  unfold execOp
  rw [ho]
  simp only [h4, h26, Sem.run_bind, hs, Result.andThen]
  rfl

set_option maxRecDepth 100000 in
set_option maxHeartbeats 4000000 in
theorem op_of.calls (c : Int) (r1 r2 : ByteArray) (r3 : Bool) (w : World) (h : op_of.f c = some (r1, r2, r3)) : Calls Tryd.prog 27 #[.int .u8 c] w fun e w' => e = .returned (.tuple #[.agg #[.string r1, .string r2], .bool r3]) ∧ Below w.heap.size w w' := by
  go_enter Tryd.func27, Tryd.ntmps27
  go_upto_region 1 with (fail)
  go_cut [4] (fun v4 wc => v4 = .pointer (some ⟨w.heap.size + 1, 0, none⟩) ∧ op_of.Tab wc (w.heap.size + 1) ∧ wc.heap[w.heap.size]? = some (.cells #[.string ⟨#[]⟩, .string ⟨#[]⟩] 61 (0, 0)) ∧ wc.heap.size = w.heap.size + 2 ∧ Below w.heap.size w wc)
  case first =>
    refine wp_region_lit ?_
    refine op_of.stepS 5 rfl rfl (.agg #[.string ⟨#[115, 101, 108, 102]⟩, .string ⟨#[]⟩]) (by kernel_rfl) ?_
    refine op_of.stepS 6 rfl rfl (.agg #[.string ⟨#[110, 105, 108]⟩, .string ⟨#[]⟩]) (by kernel_rfl) ?_
    refine op_of.stepS 7 rfl rfl (.agg #[.string ⟨#[116, 114, 117, 101]⟩, .string ⟨#[]⟩]) (by kernel_rfl) ?_
    refine op_of.stepS 8 rfl rfl (.agg #[.string ⟨#[102, 97, 108, 115, 101]⟩, .string ⟨#[]⟩]) (by kernel_rfl) ?_
    refine op_of.stepS 9 rfl rfl (.agg #[.string ⟨#[108, 105, 116]⟩, .string ⟨#[49]⟩]) (by kernel_rfl) ?_
    refine op_of.stepS 10 rfl rfl (.agg #[.string ⟨#[116, 101, 109, 112]⟩, .string ⟨#[49, 49]⟩]) (by kernel_rfl) ?_
    refine op_of.stepS 11 rfl rfl (.agg #[.string ⟨#[115, 101, 116]⟩, .string ⟨#[49, 49]⟩]) (by kernel_rfl) ?_
    refine op_of.stepS 12 rfl rfl (.agg #[.string ⟨#[118, 97, 114]⟩, .string ⟨#[49]⟩]) (by kernel_rfl) ?_
    refine op_of.stepS 13 rfl rfl (.agg #[.string ⟨#[112, 117, 116]⟩, .string ⟨#[49]⟩]) (by kernel_rfl) ?_
    refine op_of.stepS 14 rfl rfl (.agg #[.string ⟨#[112, 111, 112]⟩, .string ⟨#[]⟩]) (by kernel_rfl) ?_
    refine op_of.stepS 15 rfl rfl (.agg #[.string ⟨#[100, 117, 112]⟩, .string ⟨#[]⟩]) (by kernel_rfl) ?_
    refine op_of.stepS 16 rfl rfl (.agg #[.string ⟨#[115, 101, 110, 100]⟩, .string ⟨#[49, 49]⟩]) (by kernel_rfl) ?_
    refine op_of.stepS 17 rfl rfl (.agg #[.string ⟨#[115, 117, 112, 101, 114]⟩, .string ⟨#[49, 49]⟩]) (by kernel_rfl) ?_
    refine op_of.stepS 18 rfl rfl (.agg #[.string ⟨#[106, 117, 109, 112]⟩, .string ⟨#[50]⟩]) (by kernel_rfl) ?_
    refine op_of.stepS 19 rfl rfl (.agg #[.string ⟨#[101, 108, 115, 101]⟩, .string ⟨#[50, 50]⟩]) (by kernel_rfl) ?_
    refine op_of.stepS 20 rfl rfl (.agg #[.string ⟨#[106, 111, 105, 110]⟩, .string ⟨#[]⟩]) (by kernel_rfl) ?_
    refine op_of.stepS 21 rfl rfl (.agg #[.string ⟨#[98, 108, 111, 99, 107]⟩, .string ⟨#[49]⟩]) (by kernel_rfl) ?_
    refine op_of.stepS 22 rfl rfl (.agg #[.string ⟨#[97, 110, 115, 119, 101, 114]⟩, .string ⟨#[]⟩]) (by kernel_rfl) ?_
    refine op_of.stepS 23 rfl rfl (.agg #[.string ⟨#[109, 101]⟩, .string ⟨#[]⟩]) (by kernel_rfl) ?_
    refine op_of.stepS 24 rfl rfl (.agg #[.string ⟨#[104, 111, 109, 101]⟩, .string ⟨#[]⟩]) (by kernel_rfl) ?_
    refine op_of.stepS 25 rfl rfl (.agg #[.string ⟨#[99, 108, 97, 115, 115]⟩, .string ⟨#[49]⟩]) (by kernel_rfl) ?_
    refine op_of.stepS 26 rfl rfl (.agg #[.string ⟨#[115, 101, 108, 102]⟩, .string ⟨#[]⟩, .string ⟨#[110, 105, 108]⟩, .string ⟨#[]⟩, .string ⟨#[116, 114, 117, 101]⟩, .string ⟨#[]⟩, .string ⟨#[102, 97, 108, 115, 101]⟩, .string ⟨#[]⟩, .string ⟨#[108, 105, 116]⟩, .string ⟨#[49]⟩, .string ⟨#[116, 101, 109, 112]⟩, .string ⟨#[49, 49]⟩, .string ⟨#[115, 101, 116]⟩, .string ⟨#[49, 49]⟩, .string ⟨#[118, 97, 114]⟩, .string ⟨#[49]⟩, .string ⟨#[112, 117, 116]⟩, .string ⟨#[49]⟩, .string ⟨#[112, 111, 112]⟩, .string ⟨#[]⟩, .string ⟨#[100, 117, 112]⟩, .string ⟨#[]⟩, .string ⟨#[115, 101, 110, 100]⟩, .string ⟨#[49, 49]⟩, .string ⟨#[115, 117, 112, 101, 114]⟩, .string ⟨#[49, 49]⟩, .string ⟨#[106, 117, 109, 112]⟩, .string ⟨#[50]⟩, .string ⟨#[101, 108, 115, 101]⟩, .string ⟨#[50, 50]⟩, .string ⟨#[106, 111, 105, 110]⟩, .string ⟨#[]⟩, .string ⟨#[98, 108, 111, 99, 107]⟩, .string ⟨#[49]⟩, .string ⟨#[97, 110, 115, 119, 101, 114]⟩, .string ⟨#[]⟩, .string ⟨#[109, 101]⟩, .string ⟨#[]⟩, .string ⟨#[104, 111, 109, 101]⟩, .string ⟨#[]⟩, .string ⟨#[99, 108, 97, 115, 115]⟩, .string ⟨#[49]⟩]) (by kernel_rfl) ?_
    generalize hw1 : w.alloc (.cells #[.string ⟨#[]⟩, .string ⟨#[]⟩] 61) = w1
    have hz1 : w1.heap.size = w.heap.size + 1 := by rw [← hw1]; simp
    refine op_of.stepV (W1 := w1.alloc (.cells #[.string ⟨#[]⟩, .string ⟨#[]⟩, .string ⟨#[]⟩, .string ⟨#[]⟩, .string ⟨#[]⟩, .string ⟨#[]⟩, .string ⟨#[]⟩, .string ⟨#[]⟩, .string ⟨#[]⟩, .string ⟨#[]⟩, .string ⟨#[]⟩, .string ⟨#[]⟩, .string ⟨#[]⟩, .string ⟨#[]⟩, .string ⟨#[]⟩, .string ⟨#[]⟩, .string ⟨#[]⟩, .string ⟨#[]⟩, .string ⟨#[]⟩, .string ⟨#[]⟩, .string ⟨#[]⟩, .string ⟨#[]⟩, .string ⟨#[]⟩, .string ⟨#[]⟩, .string ⟨#[]⟩, .string ⟨#[]⟩, .string ⟨#[]⟩, .string ⟨#[]⟩, .string ⟨#[]⟩, .string ⟨#[]⟩, .string ⟨#[]⟩, .string ⟨#[]⟩, .string ⟨#[]⟩, .string ⟨#[]⟩, .string ⟨#[]⟩, .string ⟨#[]⟩, .string ⟨#[]⟩, .string ⟨#[]⟩, .string ⟨#[]⟩, .string ⟨#[]⟩, .string ⟨#[]⟩, .string ⟨#[]⟩] 68)) 4 rfl rfl (.pointer (some ⟨w1.heap.size, 0, none⟩)) (by kernel_rfl) ?_
    have hh : (w1.alloc (.cells #[.string ⟨#[]⟩, .string ⟨#[]⟩, .string ⟨#[]⟩, .string ⟨#[]⟩, .string ⟨#[]⟩, .string ⟨#[]⟩, .string ⟨#[]⟩, .string ⟨#[]⟩, .string ⟨#[]⟩, .string ⟨#[]⟩, .string ⟨#[]⟩, .string ⟨#[]⟩, .string ⟨#[]⟩, .string ⟨#[]⟩, .string ⟨#[]⟩, .string ⟨#[]⟩, .string ⟨#[]⟩, .string ⟨#[]⟩, .string ⟨#[]⟩, .string ⟨#[]⟩, .string ⟨#[]⟩, .string ⟨#[]⟩, .string ⟨#[]⟩, .string ⟨#[]⟩, .string ⟨#[]⟩, .string ⟨#[]⟩, .string ⟨#[]⟩, .string ⟨#[]⟩, .string ⟨#[]⟩, .string ⟨#[]⟩, .string ⟨#[]⟩, .string ⟨#[]⟩, .string ⟨#[]⟩, .string ⟨#[]⟩, .string ⟨#[]⟩, .string ⟨#[]⟩, .string ⟨#[]⟩, .string ⟨#[]⟩, .string ⟨#[]⟩, .string ⟨#[]⟩, .string ⟨#[]⟩, .string ⟨#[]⟩] 68)).heap[w1.heap.size]? = some (.cells #[.string ⟨#[]⟩, .string ⟨#[]⟩, .string ⟨#[]⟩, .string ⟨#[]⟩, .string ⟨#[]⟩, .string ⟨#[]⟩, .string ⟨#[]⟩, .string ⟨#[]⟩, .string ⟨#[]⟩, .string ⟨#[]⟩, .string ⟨#[]⟩, .string ⟨#[]⟩, .string ⟨#[]⟩, .string ⟨#[]⟩, .string ⟨#[]⟩, .string ⟨#[]⟩, .string ⟨#[]⟩, .string ⟨#[]⟩, .string ⟨#[]⟩, .string ⟨#[]⟩, .string ⟨#[]⟩, .string ⟨#[]⟩, .string ⟨#[]⟩, .string ⟨#[]⟩, .string ⟨#[]⟩, .string ⟨#[]⟩, .string ⟨#[]⟩, .string ⟨#[]⟩, .string ⟨#[]⟩, .string ⟨#[]⟩, .string ⟨#[]⟩, .string ⟨#[]⟩, .string ⟨#[]⟩, .string ⟨#[]⟩, .string ⟨#[]⟩, .string ⟨#[]⟩, .string ⟨#[]⟩, .string ⟨#[]⟩, .string ⟨#[]⟩, .string ⟨#[]⟩, .string ⟨#[]⟩, .string ⟨#[]⟩] 68 (0, 0)) := heap_alloc_new _ _
    have hs := run_store_run (P := Tryd.prog) (o := 0) 68 (.agg #[.string ⟨#[115, 101, 108, 102]⟩, .string ⟨#[]⟩, .string ⟨#[110, 105, 108]⟩, .string ⟨#[]⟩, .string ⟨#[116, 114, 117, 101]⟩, .string ⟨#[]⟩, .string ⟨#[102, 97, 108, 115, 101]⟩, .string ⟨#[]⟩, .string ⟨#[108, 105, 116]⟩, .string ⟨#[49]⟩, .string ⟨#[116, 101, 109, 112]⟩, .string ⟨#[49, 49]⟩, .string ⟨#[115, 101, 116]⟩, .string ⟨#[49, 49]⟩, .string ⟨#[118, 97, 114]⟩, .string ⟨#[49]⟩, .string ⟨#[112, 117, 116]⟩, .string ⟨#[49]⟩, .string ⟨#[112, 111, 112]⟩, .string ⟨#[]⟩, .string ⟨#[100, 117, 112]⟩, .string ⟨#[]⟩, .string ⟨#[115, 101, 110, 100]⟩, .string ⟨#[49, 49]⟩, .string ⟨#[115, 117, 112, 101, 114]⟩, .string ⟨#[49, 49]⟩, .string ⟨#[106, 117, 109, 112]⟩, .string ⟨#[50]⟩, .string ⟨#[101, 108, 115, 101]⟩, .string ⟨#[50, 50]⟩, .string ⟨#[106, 111, 105, 110]⟩, .string ⟨#[]⟩, .string ⟨#[98, 108, 111, 99, 107]⟩, .string ⟨#[49]⟩, .string ⟨#[97, 110, 115, 119, 101, 114]⟩, .string ⟨#[]⟩, .string ⟨#[109, 101]⟩, .string ⟨#[]⟩, .string ⟨#[104, 111, 109, 101]⟩, .string ⟨#[]⟩, .string ⟨#[99, 108, 97, 115, 115]⟩, .string ⟨#[49]⟩]) op_of.cells hh (by kernel_rfl) (by kernel_rfl) (Nat.le_of_ble_eq_true (by kernel_rfl)) (List.all_eq_true.1 (show op_of.cells.all (fun q => q.oneCell') = true by kernel_rfl))
    refine store_event rfl rfl rfl (w1 := (w1.alloc (.cells #[.string ⟨#[]⟩, .string ⟨#[]⟩, .string ⟨#[]⟩, .string ⟨#[]⟩, .string ⟨#[]⟩, .string ⟨#[]⟩, .string ⟨#[]⟩, .string ⟨#[]⟩, .string ⟨#[]⟩, .string ⟨#[]⟩, .string ⟨#[]⟩, .string ⟨#[]⟩, .string ⟨#[]⟩, .string ⟨#[]⟩, .string ⟨#[]⟩, .string ⟨#[]⟩, .string ⟨#[]⟩, .string ⟨#[]⟩, .string ⟨#[]⟩, .string ⟨#[]⟩, .string ⟨#[]⟩, .string ⟨#[]⟩, .string ⟨#[]⟩, .string ⟨#[]⟩, .string ⟨#[]⟩, .string ⟨#[]⟩, .string ⟨#[]⟩, .string ⟨#[]⟩, .string ⟨#[]⟩, .string ⟨#[]⟩, .string ⟨#[]⟩, .string ⟨#[]⟩, .string ⟨#[]⟩, .string ⟨#[]⟩, .string ⟨#[]⟩, .string ⟨#[]⟩, .string ⟨#[]⟩, .string ⟨#[]⟩, .string ⟨#[]⟩, .string ⟨#[]⟩, .string ⟨#[]⟩, .string ⟨#[]⟩] 68)).setCells w1.heap.size 0 op_of.cells) ?_ (fun w' hw' => ?_)
    · exact op_of.storeRun rfl (by kernel_rfl) (by kernel_rfl) hs
    · subst hw'
      simp only [Act.put, List.setIfInBounds_toArray, List.set_cons_zero, List.set_cons_succ]
      rename_i K' hK'
      refine hK' _ _ ?_
      go_meet
      case rel =>
        obtain ⟨s1, s2, s3, s4⟩ := setCells_same w1.heap.size op_of.cells 0 (w1.alloc (.cells #[.string ⟨#[]⟩, .string ⟨#[]⟩, .string ⟨#[]⟩, .string ⟨#[]⟩, .string ⟨#[]⟩, .string ⟨#[]⟩, .string ⟨#[]⟩, .string ⟨#[]⟩, .string ⟨#[]⟩, .string ⟨#[]⟩, .string ⟨#[]⟩, .string ⟨#[]⟩, .string ⟨#[]⟩, .string ⟨#[]⟩, .string ⟨#[]⟩, .string ⟨#[]⟩, .string ⟨#[]⟩, .string ⟨#[]⟩, .string ⟨#[]⟩, .string ⟨#[]⟩, .string ⟨#[]⟩, .string ⟨#[]⟩, .string ⟨#[]⟩, .string ⟨#[]⟩, .string ⟨#[]⟩, .string ⟨#[]⟩, .string ⟨#[]⟩, .string ⟨#[]⟩, .string ⟨#[]⟩, .string ⟨#[]⟩, .string ⟨#[]⟩, .string ⟨#[]⟩, .string ⟨#[]⟩, .string ⟨#[]⟩, .string ⟨#[]⟩, .string ⟨#[]⟩, .string ⟨#[]⟩, .string ⟨#[]⟩, .string ⟨#[]⟩, .string ⟨#[]⟩, .string ⟨#[]⟩, .string ⟨#[]⟩] 68))
        obtain ⟨cur', h3, h4, h5⟩ := setCells_row op_of.cells 0 (w1.alloc (.cells #[.string ⟨#[]⟩, .string ⟨#[]⟩, .string ⟨#[]⟩, .string ⟨#[]⟩, .string ⟨#[]⟩, .string ⟨#[]⟩, .string ⟨#[]⟩, .string ⟨#[]⟩, .string ⟨#[]⟩, .string ⟨#[]⟩, .string ⟨#[]⟩, .string ⟨#[]⟩, .string ⟨#[]⟩, .string ⟨#[]⟩, .string ⟨#[]⟩, .string ⟨#[]⟩, .string ⟨#[]⟩, .string ⟨#[]⟩, .string ⟨#[]⟩, .string ⟨#[]⟩, .string ⟨#[]⟩, .string ⟨#[]⟩, .string ⟨#[]⟩, .string ⟨#[]⟩, .string ⟨#[]⟩, .string ⟨#[]⟩, .string ⟨#[]⟩, .string ⟨#[]⟩, .string ⟨#[]⟩, .string ⟨#[]⟩, .string ⟨#[]⟩, .string ⟨#[]⟩, .string ⟨#[]⟩, .string ⟨#[]⟩, .string ⟨#[]⟩, .string ⟨#[]⟩, .string ⟨#[]⟩, .string ⟨#[]⟩, .string ⟨#[]⟩, .string ⟨#[]⟩, .string ⟨#[]⟩, .string ⟨#[]⟩] 68)) _ hh (Nat.le_of_ble_eq_true (by kernel_rfl))
        have hb1 : Below w.heap.size w w1 := by rw [← hw1]; exact below_alloc (Below.refl _ _) _
        refine ⟨by rw [hz1], ⟨cur', by rw [← hz1]; exact h3, h5.trans (by kernel_rfl)⟩, ?_, ?_, ?_⟩
        · rw [setCells_far _ _ _ (by omega), op_of.old (by omega), ← hw1]; exact heap_alloc_new _ _
        · rw [s4]; simp [hz1]
        · exact op_of.belowCells (below_alloc hb1 _) (by omega) _
  case rest =>
    obtain ⟨rfl, ht, hs, hz, hb⟩ := hcut
    have k1 : wc.cell? ⟨w.heap.size, 0, none⟩ = some (.string ⟨#[]⟩) := by rw [cell_of_row wc _ 0 _ _ _ hs]; rfl
    have k2 : wc.cell? ⟨w.heap.size, 1, none⟩ = some (.string ⟨#[]⟩) := by rw [cell_of_row wc _ 1 _ _ _ hs]; rfl
    have z1 : wc.frozen? ⟨w.heap.size, 0, none⟩ = false := blk_frozen hs _
    have z2 : ∀ v, (wc.setCell ⟨w.heap.size, 0, none⟩ v).frozen? ⟨w.heap.size, 1, none⟩ = false := fun v => blk_frozen (blk_set hs 0 v) _
    have fin : ∀ (s1 s2 : ByteArray) (b : Bool) (a : Act) (W : World), W.cell? ⟨w.heap.size, 0, none⟩ = some (.string s1) → W.cell? ⟨w.heap.size, 1, none⟩ = some (.string s2) → a.tmps[2]? = some (.pointer (some ⟨w.heap.size, 0, none⟩)) → a.tmps[3]? = some (.bool b) → a.defers = [] → Below w.heap.size w W → op_of.f c = some (s1, s2, b) → bodyPost Tryd.prog Tryd.f27 (fun e w' => e = .returned (.tuple #[.agg #[.string r1, .string r2], .bool r3]) ∧ Below w.heap.size w w') .ret a W := by
      intro s1 s2 b a W h1 h2 h3 h4 h5 h6 h7
      rw [h7] at h
      obtain ⟨rfl, rfl, rfl⟩ : s1 = r1 ∧ s2 = r2 ∧ b = r3 := by simpa using h
      refine bodyPost_ret (v := .tuple #[.agg #[.string s1, .string s2], .bool b]) ?_ h5 ⟨rfl, h6⟩
      simp [results, Tryd.results27, go_sem, h1, h2, h3, h4]
    by_cases e0 : c = 0
    · subst e0
      have c1 := ht.cell 0 _ rfl
      have c2 := ht.cell 1 _ rfl
      go_wp2
      exact fin _ _ _ _ _ (by rw [blk_cell (blk_set (blk_set hs 0 _) 1 _)]; rfl) (by rw [blk_cell (blk_set (blk_set hs 0 _) 1 _)]; rfl) rfl rfl rfl ((hb.setCell (Nat.le_refl _) _).setCell (Nat.le_refl _) _) rfl
    by_cases e1 : c = 1
    · subst e1
      have c1 := ht.cell 2 _ rfl
      have c2 := ht.cell 3 _ rfl
      go_wp2
      exact fin _ _ _ _ _ (by rw [blk_cell (blk_set (blk_set hs 0 _) 1 _)]; rfl) (by rw [blk_cell (blk_set (blk_set hs 0 _) 1 _)]; rfl) rfl rfl rfl ((hb.setCell (Nat.le_refl _) _).setCell (Nat.le_refl _) _) rfl
    by_cases e2 : c = 2
    · subst e2
      have c1 := ht.cell 4 _ rfl
      have c2 := ht.cell 5 _ rfl
      go_wp2
      exact fin _ _ _ _ _ (by rw [blk_cell (blk_set (blk_set hs 0 _) 1 _)]; rfl) (by rw [blk_cell (blk_set (blk_set hs 0 _) 1 _)]; rfl) rfl rfl rfl ((hb.setCell (Nat.le_refl _) _).setCell (Nat.le_refl _) _) rfl
    by_cases e3 : c = 3
    · subst e3
      have c1 := ht.cell 6 _ rfl
      have c2 := ht.cell 7 _ rfl
      go_wp2
      exact fin _ _ _ _ _ (by rw [blk_cell (blk_set (blk_set hs 0 _) 1 _)]; rfl) (by rw [blk_cell (blk_set (blk_set hs 0 _) 1 _)]; rfl) rfl rfl rfl ((hb.setCell (Nat.le_refl _) _).setCell (Nat.le_refl _) _) rfl
    by_cases e4 : c = 4
    · subst e4
      have c1 := ht.cell 8 _ rfl
      have c2 := ht.cell 9 _ rfl
      go_wp2
      exact fin _ _ _ _ _ (by rw [blk_cell (blk_set (blk_set hs 0 _) 1 _)]; rfl) (by rw [blk_cell (blk_set (blk_set hs 0 _) 1 _)]; rfl) rfl rfl rfl ((hb.setCell (Nat.le_refl _) _).setCell (Nat.le_refl _) _) rfl
    by_cases e5 : c = 5
    · subst e5
      have c1 := ht.cell 10 _ rfl
      have c2 := ht.cell 11 _ rfl
      go_wp2
      exact fin _ _ _ _ _ (by rw [blk_cell (blk_set (blk_set hs 0 _) 1 _)]; rfl) (by rw [blk_cell (blk_set (blk_set hs 0 _) 1 _)]; rfl) rfl rfl rfl ((hb.setCell (Nat.le_refl _) _).setCell (Nat.le_refl _) _) rfl
    by_cases e6 : c = 6
    · subst e6
      have c1 := ht.cell 12 _ rfl
      have c2 := ht.cell 13 _ rfl
      go_wp2
      exact fin _ _ _ _ _ (by rw [blk_cell (blk_set (blk_set hs 0 _) 1 _)]; rfl) (by rw [blk_cell (blk_set (blk_set hs 0 _) 1 _)]; rfl) rfl rfl rfl ((hb.setCell (Nat.le_refl _) _).setCell (Nat.le_refl _) _) rfl
    by_cases e7 : c = 7
    · subst e7
      have c1 := ht.cell 14 _ rfl
      have c2 := ht.cell 15 _ rfl
      go_wp2
      exact fin _ _ _ _ _ (by rw [blk_cell (blk_set (blk_set hs 0 _) 1 _)]; rfl) (by rw [blk_cell (blk_set (blk_set hs 0 _) 1 _)]; rfl) rfl rfl rfl ((hb.setCell (Nat.le_refl _) _).setCell (Nat.le_refl _) _) rfl
    by_cases e8 : c = 8
    · subst e8
      have c1 := ht.cell 16 _ rfl
      have c2 := ht.cell 17 _ rfl
      go_wp2
      exact fin _ _ _ _ _ (by rw [blk_cell (blk_set (blk_set hs 0 _) 1 _)]; rfl) (by rw [blk_cell (blk_set (blk_set hs 0 _) 1 _)]; rfl) rfl rfl rfl ((hb.setCell (Nat.le_refl _) _).setCell (Nat.le_refl _) _) rfl
    by_cases e9 : c = 9
    · subst e9
      have c1 := ht.cell 18 _ rfl
      have c2 := ht.cell 19 _ rfl
      go_wp2
      exact fin _ _ _ _ _ (by rw [blk_cell (blk_set (blk_set hs 0 _) 1 _)]; rfl) (by rw [blk_cell (blk_set (blk_set hs 0 _) 1 _)]; rfl) rfl rfl rfl ((hb.setCell (Nat.le_refl _) _).setCell (Nat.le_refl _) _) rfl
    by_cases e10 : c = 10
    · subst e10
      have c1 := ht.cell 20 _ rfl
      have c2 := ht.cell 21 _ rfl
      go_wp2
      exact fin _ _ _ _ _ (by rw [blk_cell (blk_set (blk_set hs 0 _) 1 _)]; rfl) (by rw [blk_cell (blk_set (blk_set hs 0 _) 1 _)]; rfl) rfl rfl rfl ((hb.setCell (Nat.le_refl _) _).setCell (Nat.le_refl _) _) rfl
    by_cases e11 : c = 11
    · subst e11
      have c1 := ht.cell 22 _ rfl
      have c2 := ht.cell 23 _ rfl
      go_wp2
      exact fin _ _ _ _ _ (by rw [blk_cell (blk_set (blk_set hs 0 _) 1 _)]; rfl) (by rw [blk_cell (blk_set (blk_set hs 0 _) 1 _)]; rfl) rfl rfl rfl ((hb.setCell (Nat.le_refl _) _).setCell (Nat.le_refl _) _) rfl
    by_cases e12 : c = 12
    · subst e12
      have c1 := ht.cell 24 _ rfl
      have c2 := ht.cell 25 _ rfl
      go_wp2
      exact fin _ _ _ _ _ (by rw [blk_cell (blk_set (blk_set hs 0 _) 1 _)]; rfl) (by rw [blk_cell (blk_set (blk_set hs 0 _) 1 _)]; rfl) rfl rfl rfl ((hb.setCell (Nat.le_refl _) _).setCell (Nat.le_refl _) _) rfl
    by_cases e13 : c = 13
    · subst e13
      have c1 := ht.cell 26 _ rfl
      have c2 := ht.cell 27 _ rfl
      go_wp2
      exact fin _ _ _ _ _ (by rw [blk_cell (blk_set (blk_set hs 0 _) 1 _)]; rfl) (by rw [blk_cell (blk_set (blk_set hs 0 _) 1 _)]; rfl) rfl rfl rfl ((hb.setCell (Nat.le_refl _) _).setCell (Nat.le_refl _) _) rfl
    by_cases e14 : c = 14
    · subst e14
      have c1 := ht.cell 28 _ rfl
      have c2 := ht.cell 29 _ rfl
      go_wp2
      exact fin _ _ _ _ _ (by rw [blk_cell (blk_set (blk_set hs 0 _) 1 _)]; rfl) (by rw [blk_cell (blk_set (blk_set hs 0 _) 1 _)]; rfl) rfl rfl rfl ((hb.setCell (Nat.le_refl _) _).setCell (Nat.le_refl _) _) rfl
    by_cases e15 : c = 15
    · subst e15
      have c1 := ht.cell 30 _ rfl
      have c2 := ht.cell 31 _ rfl
      go_wp2
      exact fin _ _ _ _ _ (by rw [blk_cell (blk_set (blk_set hs 0 _) 1 _)]; rfl) (by rw [blk_cell (blk_set (blk_set hs 0 _) 1 _)]; rfl) rfl rfl rfl ((hb.setCell (Nat.le_refl _) _).setCell (Nat.le_refl _) _) rfl
    by_cases e16 : c = 16
    · subst e16
      have c1 := ht.cell 32 _ rfl
      have c2 := ht.cell 33 _ rfl
      go_wp2
      exact fin _ _ _ _ _ (by rw [blk_cell (blk_set (blk_set hs 0 _) 1 _)]; rfl) (by rw [blk_cell (blk_set (blk_set hs 0 _) 1 _)]; rfl) rfl rfl rfl ((hb.setCell (Nat.le_refl _) _).setCell (Nat.le_refl _) _) rfl
    by_cases e17 : c = 17
    · subst e17
      have c1 := ht.cell 34 _ rfl
      have c2 := ht.cell 35 _ rfl
      go_wp2
      exact fin _ _ _ _ _ (by rw [blk_cell (blk_set (blk_set hs 0 _) 1 _)]; rfl) (by rw [blk_cell (blk_set (blk_set hs 0 _) 1 _)]; rfl) rfl rfl rfl ((hb.setCell (Nat.le_refl _) _).setCell (Nat.le_refl _) _) rfl
    by_cases e18 : c = 18
    · subst e18
      have c1 := ht.cell 36 _ rfl
      have c2 := ht.cell 37 _ rfl
      go_wp2
      exact fin _ _ _ _ _ (by rw [blk_cell (blk_set (blk_set hs 0 _) 1 _)]; rfl) (by rw [blk_cell (blk_set (blk_set hs 0 _) 1 _)]; rfl) rfl rfl rfl ((hb.setCell (Nat.le_refl _) _).setCell (Nat.le_refl _) _) rfl
    by_cases e19 : c = 19
    · subst e19
      have c1 := ht.cell 38 _ rfl
      have c2 := ht.cell 39 _ rfl
      go_wp2
      exact fin _ _ _ _ _ (by rw [blk_cell (blk_set (blk_set hs 0 _) 1 _)]; rfl) (by rw [blk_cell (blk_set (blk_set hs 0 _) 1 _)]; rfl) rfl rfl rfl ((hb.setCell (Nat.le_refl _) _).setCell (Nat.le_refl _) _) rfl
    by_cases e20 : c = 20
    · subst e20
      have c1 := ht.cell 40 _ rfl
      have c2 := ht.cell 41 _ rfl
      go_wp2
      exact fin _ _ _ _ _ (by rw [blk_cell (blk_set (blk_set hs 0 _) 1 _)]; rfl) (by rw [blk_cell (blk_set (blk_set hs 0 _) 1 _)]; rfl) rfl rfl rfl ((hb.setCell (Nat.le_refl _) _).setCell (Nat.le_refl _) _) rfl
    have hr : 0 ≤ c ∧ c < 256 := by
      by_cases hr : 0 ≤ c ∧ c < 256
      · exact hr
      · rw [op_of.f, if_neg hr] at h
        simp at h
    obtain ⟨r0, r6⟩ := hr
    have hge : 21 ≤ c := by omega
    have hz : op_of.f c = some (⟨#[]⟩, ⟨#[]⟩, false) := by
      simp only [op_of.f, r0, r6, and_self, if_true, e0, e1, e2, e3, e4, e5, e6, e7, e8, e9, e10, e11, e12, e13, e14, e15, e16, e17, e18, e19, e20, if_false]
    go_wp2
    exact fin _ _ _ _ _ (by rw [blk_cell (blk_set (blk_set hs 0 _) 1 _)]; rfl) (by rw [blk_cell (blk_set (blk_set hs 0 _) 1 _)]; rfl) rfl rfl rfl ((hb.setCell (Nat.le_refl _) _).setCell (Nat.le_refl _) _) hz

/-! ### op_Form: function 13 -/
def op_Form.f (a0 : Int) : Option (ByteArray × Bool) := (op_of.f a0).bind fun bt101 => (some (bt101.2.1, bt101.2.2))
set_option maxHeartbeats 8000000 in
set_option maxRecDepth 100000 in
theorem op_Form.calls (a0 : Int) (r1 : ByteArray) (r2 : Bool) (w : World) (h : op_Form.f a0 = some (r1, r2)) :
    Calls Tryd.prog 13 #[.int .u8 a0] w fun e w' => e = .returned (.tuple #[.string r1, .bool r2]) ∧ Below w.heap.size w w' := by
  have hu61 := Tryd.underlying61
  have HB := Aside0.mk (Below.refl w.heap.size w)
  have H : ((op_of.f a0).bind fun bt101 => (some (bt101.2.1, bt101.2.2))) = some (r1, r2) := h
  clear h
  replace H := Option.bind_eq_some_iff.mp H
  obtain ⟨⟨t101, t102, t103⟩, A20, H⟩ := H
  replace H : (some (t102, t103)) = some (r1, r2) := H
  have A2 := Aside0.mk A20
  clear A20
  simp only [Option.some.injEq, Prod.mk.injEq] at H
  obtain ⟨rfl, rfl⟩ := H
  go_enter Tryd.func13, Tryd.ntmps13
  go_wp2_with (first | ((with_reducible refine gate_callee (f := 27) rfl ?_); refine goesL_ (some 8) rfl rfl Tryd.func27 (by kernel_rfl) rfl #[.int .u8 a0] rfl (by (try simp only [List.map_toArray, List.map_cons, List.map_nil]); first | done | rfl | (simp only [List.length_drop, List.length_take]; rfl)) ?_; (with_reducible refine (op_of.calls a0 t101 t102 t103 _ A2.out).mono ?_); rintro e w3 ⟨rfl, hb⟩; refine ⟨_, rfl, ?_⟩; have n0_ := Aside0.mk (below_step (by repeat (first | (with_reducible first | exact HB.out | apply below_alloc | apply pw_below_drewN | apply below_drew1) | exact HB.out)) hb); clear HB; have HB := n0_; clear n0_; (try clear hb); (try clear hb2); (try clear hk); (try clear hi)) | ((with_reducible refine gate_dst (N := 4) rfl ?_); refine box_event ?hg (N := 4) ?hd (cs := #[.string (⟨#[]⟩ : ByteArray), .string (⟨#[]⟩ : ByteArray)]) (t := 61) ?hr ?_; (case hd => rfl); (case hg => rfl); (case hr => first | (go_simp; done) | (go_simp; rfl)); intro gb104 hg w4 hbox hb; have n0_ := Aside0.mk (below_step (by repeat (first | (with_reducible first | exact HB.out | apply below_alloc | apply pw_below_drewN | apply below_drew1) | exact HB.out)) hb); have n1_ := Aside0.mk (hbox); have n2_ := Aside0.mk ((by rw [hg]; exact (below_size (by repeat (first | (with_reducible first | exact HB.out | apply below_alloc | apply pw_below_drewN | apply below_drew1) | exact HB.out))) : w.heap.size ≤ gb104)); have n3_ := Aside0.mk ((by rw [hg]; exact (below_size (by repeat (first | (with_reducible first | exact HB.out | apply below_alloc | apply pw_below_drewN | apply below_drew1) | exact HB.out))) : w.heap.size ≤ gb104)); clear HB; have HB := n0_; have BK104 := n1_; have GW104 := n2_; have GE104 := n3_; clear n0_ n1_ n2_ n3_; clear hb hbox hg; have hcz5_0 : w4.cell? ⟨gb104, 0, none⟩ = some (.string (⟨#[]⟩ : ByteArray)) := (blk_cell BK104.out 0).trans rfl; have hcz5_1 : w4.cell? ⟨gb104, 1, none⟩ = some (.string (⟨#[]⟩ : ByteArray)) := (blk_cell BK104.out 1).trans rfl; have hfz5_0 := blk_frozen BK104.out 0; have hfz5_1 := blk_frozen BK104.out 1))
  go_ret2
  exact ⟨by first | rfl | (simp [errW_none, errW_some] <;> rfl) | (simp [*, errW_none, errW_some] <;> rfl), by repeat (first | (with_reducible first | exact HB.out | apply below_alloc | apply pw_below_drewN | apply below_drew1 | refine below_set ?_ GE104.out) | exact HB.out)⟩

/-! ### op_width: function 25 -/
def op_width.f (a0 : ByteArray) (a1 : Int) : Option (Int) := if a1 ≥ (a0.size : Int) then (some 0) else (if 0 ≤ a1 then (if a1 < (a0.size : Int) then (some (((bt a0 a1) - 48) % 256)) else (none)) else (none))
set_option maxHeartbeats 8000000 in
set_option maxRecDepth 100000 in
theorem op_width.calls (a0 : ByteArray) (a1 : Int) (r : Int) (w : World) (h : op_width.f a0 a1 = some r) :
    Calls Tryd.prog 25 #[.string a0, .int .i64 a1] w fun e w' => e = .returned (.int .i64 r) ∧ Drawn0 w w' := by
  have H : (if a1 ≥ (a0.size : Int) then (some 0) else (if 0 ≤ a1 then (if a1 < (a0.size : Int) then (some (((bt a0 a1) - 48) % 256)) else (none)) else (none))) = some r := h
  clear h
  by_cases c3 : a1 ≥ (a0.size : Int)
  · rw [if_pos c3] at H
    have c3b0 : decide ((a0.size : Int) ≤ a1) = true := decide_eq_true c3
    clear c3
    obtain rfl := Option.some.inj H
    go_enter Tryd.func25, Tryd.ntmps25
    go_wp2
    go_ret
    exact ⟨by first | rfl | (simp; done) | (simp [*]; done), by repeat (first | exact Drawn0.refl _ | apply Drawn0.step)⟩
  · rw [if_neg c3] at H
    have c3b0 : decide ((a0.size : Int) ≤ a1) = false := decide_eq_false c3
    clear c3
    by_cases c4 : 0 ≤ a1
    · rw [if_pos c4] at H
      have c4b0 : decide (0 ≤ a1) = true := decide_eq_true c4
      clear c4
      by_cases c5 : a1 < (a0.size : Int)
      · rw [if_pos c5] at H
        have c5b0 : decide (a1 < (a0.size : Int)) = true := decide_eq_true c5
        clear c5
        obtain rfl := Option.some.inj H
        have p6 : 0 ≤ (a1 : Int) := of_decide_eq_true (by first | (with_reducible assumption) | assumption)
        have q6 : a1 < (a0.size : Int) := of_decide_eq_true (by first | (with_reducible assumption) | assumption)
        have hx6 := bt_at a0 a1
        replace p6 := eq_true p6
        replace q6 := eq_true q6
        go_enter Tryd.func25, Tryd.ntmps25
        go_wp2
        go_ret
        exact ⟨by first | rfl | (simp; done) | (simp [*]; done), by repeat (first | exact Drawn0.refl _ | apply Drawn0.step)⟩
      · rw [if_neg c5] at H
        exact absurd H (by simp)
    · rw [if_neg c4] at H
      exact absurd H (by simp)

/-! ### op_put: function 29 -/
mutual
def op_put.j0 : Nat → List Int → Int → Int → Bool → Option (List Int × Bool)
  | 0, _, _, _, _ => none
  | k + 1, x0, x1, x2, x18 => if x18 = true then (some (([] : List Int), false)) else (op_put.l0 k x0 x1 (wrap64 (x2 - 1)))
def op_put.l0 : Nat → List Int → Int → Int → Option (List Int × Bool)
  | 0, _, _, _ => none
  | k + 1, x0, x1, x8 => if x8 ≥ 0 then (if 0 ≤ (IntKind.u64.wrap (8 * (IntKind.u64.wrap (x8)))) then (if x0.length < 140737488355328 then (op_put.l0 k (x0 ++ [(shr .i64 x1 (IntKind.u64.wrap (8 * (IntKind.u64.wrap (x8))))) % 256]) x1 (wrap64 (x8 - 1))) else (none)) else (none)) else (some (x0, true))
end
def op_put.f (k : Nat) (l0 : List Int) (a1 : Int) (a2 : Int) : Option (List Int × Bool) := if a1 < 0 then (op_put.j0 k l0 a1 a2 true) else (if 0 ≤ (IntKind.u64.wrap (8 * (IntKind.u64.wrap (a2)))) then (op_put.j0 k l0 a1 a2 ((shr .i64 a1 (IntKind.u64.wrap (8 * (IntKind.u64.wrap (a2))))) != 0)) else (none))
theorem op_put.mono_l : ∀ k, (∀ y0 y1 y2 y3, LeO (op_put.j0 k y0 y1 y2 y3) (op_put.j0 (k + 1) y0 y1 y2 y3)) ∧ (∀ y0 y1 y2, LeO (op_put.l0 k y0 y1 y2) (op_put.l0 (k + 1) y0 y1 y2))
  | 0 => ⟨fun _ _ _ _ r h => by simp [op_put.j0] at h, fun _ _ _ r h => by simp [op_put.l0] at h⟩
  | k + 1 => by
    obtain ⟨ih0, ih1⟩ := op_put.mono_l k
    refine ⟨?_, ?_⟩
    · intro y0 y1 y2 y3
      unfold op_put.j0
      repeat' first
      | (with_reducible exact ih0 _ _ _ _)
      | (with_reducible exact ih1 _ _ _)
      | (with_reducible exact LeO.refl _)
      | (with_reducible exact LeO.none _)
      | (with_reducible refine LeO.ite ?_ ?_)
      | (with_reducible refine LeO.bind ?_ (fun _ => ?_))
      | exact ih0 _ _ _ _
      | exact ih1 _ _ _
      | exact LeO.none _
      | refine LeO.ite ?_ ?_
      | refine LeO.bind ?_ (fun _ => ?_)
    · intro y0 y1 y2
      unfold op_put.l0
      repeat' first
      | (with_reducible exact ih0 _ _ _ _)
      | (with_reducible exact ih1 _ _ _)
      | (with_reducible exact LeO.refl _)
      | (with_reducible exact LeO.none _)
      | (with_reducible refine LeO.ite ?_ ?_)
      | (with_reducible refine LeO.bind ?_ (fun _ => ?_))
      | exact ih0 _ _ _ _
      | exact ih1 _ _ _
      | exact LeO.none _
      | refine LeO.ite ?_ ?_
      | refine LeO.bind ?_ (fun _ => ?_)
theorem op_put.mono : ∀ a0 a1 a2 k, LeO (op_put.f k a0 a1 a2) (op_put.f (k + 1) a0 a1 a2) := by
  intro a0 a1 a2 k
  obtain ⟨ih0, ih1⟩ := op_put.mono_l k
  unfold op_put.f
  repeat' first
      | (with_reducible exact ih0 _ _ _ _)
      | (with_reducible exact ih1 _ _ _)
      | (with_reducible exact LeO.refl _)
      | (with_reducible exact LeO.none _)
      | (with_reducible refine LeO.ite ?_ ?_)
      | (with_reducible refine LeO.bind ?_ (fun _ => ?_))
      | exact ih0 _ _ _ _
      | exact ih1 _ _ _
      | exact LeO.none _
      | refine LeO.ite ?_ ?_
      | refine LeO.bind ?_ (fun _ => ?_)
set_option maxHeartbeats 8000000 in
set_option maxRecDepth 100000 in
theorem op_put.calls (k : Nat) (P0_ : Nat → Prop) (u9000_ : Value) (l0 : List Int) (a1 : Int) (a2 : Int) (r1 : List Int) (r2 : Bool) (w0 w : World) (hB : Below w0.heap.size w0 w) (ho0 : Kd.R (Kd.int .u8) 5 w w0.heap.size P0_ u9000_ l0) (h : op_put.f k l0 a1 a2 = some (r1, r2)) :
    Calls Tryd.prog 29 #[u9000_, .int .i64 a1, .int .i64 a2] w fun e w' => ∃ v0_ : Value, e = .returned (.tuple #[v0_, .bool r2]) ∧ Kd.R (Kd.int .u8) 5 w' w0.heap.size (fun k_ => (P0_ k_ ∨ w.heap.size ≤ k_)) v0_ r1 ∧ Below w0.heap.size w0 w' ∧ Kept w w' (fun k_ => P0_ k_) := by
  have HO0 := Aside0.mk (show Kd.R (Kd.int .u8) 5 w w0.heap.size (fun k_ => (P0_ k_ ∨ w.heap.size ≤ k_)) u9000_ l0 from Kd.R_mono ho0 (fun k_ hk => (.inl hk)))
  have HK := Aside0.mk (Kept.refl w (fun k_ => P0_ k_))
  have HW0 := Aside0.mk hB.size
  have HB := Aside0.mk hB
  clear hB
  have H : (if a1 < 0 then (op_put.j0 k l0 a1 a2 true) else (if 0 ≤ (IntKind.u64.wrap (8 * (IntKind.u64.wrap (a2)))) then (op_put.j0 k l0 a1 a2 ((shr .i64 a1 (IntKind.u64.wrap (8 * (IntKind.u64.wrap (a2))))) != 0)) else (none))) = some (r1, r2) := h
  clear h
  have HC4 := Aside0.mk H
  clear H
  go_enter Tryd.func29, Tryd.ntmps29
  try simp only [List.append_eq, List.cons_append, List.nil_append]
  go_upto_region 1 with (fail)
  go_cut [18] (fun v18 wc => ∃ (kq : Nat) (x18_3 : Bool), v18 = .bool x18_3 ∧ Aside0 (op_put.j0 kq l0 a1 a2 x18_3 = some (r1, r2)) ∧ Aside0 (kq ≤ k) ∧ Aside0 (Kd.R (Kd.int .u8) 5 wc w0.heap.size (fun k_ => (P0_ k_ ∨ w.heap.size ≤ k_)) u9000_ l0) ∧ Aside0 (Kept w wc (fun k_ => P0_ k_)) ∧ Aside0 (Below w0.heap.size w0 wc))
  case first =>
    have H := HC4.out
    clear HC4
    by_cases c5 : a1 < 0
    · rw [if_pos c5] at H
      have c5b0 : decide (a1 < 0) = true := decide_eq_true c5
      clear c5
      (first | rw [c5b0] | (simp only [i64_w, i32_w]; rw [c5b0]) | skip)
      have H' := Aside0.mk H
      clear H
      go_wp2
      go_meet
      case rel => exact ⟨_, (true), (by first | rfl | (simp; done) | (simp [*]; done)), H', ⟨by first | omega | exact Nat.le_refl _⟩, ⟨by (with_reducible repeat (first | apply Kd.R_alloc | apply Kd.R_drewN | apply Kd.R_drew)); exact HO0.out⟩, ⟨by repeat (first | (with_reducible first | exact HK.out | apply Kept.alloc | apply Kept.drewN | apply Kept.drew) | exact HK.out)⟩, ⟨by repeat (first | (with_reducible first | exact HB.out | apply below_alloc | apply pw_below_drewN | apply below_drew1) | exact HB.out)⟩⟩
    · rw [if_neg c5] at H
      have c5b0 : decide (a1 < 0) = false := decide_eq_false c5
      clear c5
      (first | rw [c5b0] | (simp only [i64_w, i32_w]; rw [c5b0]) | skip)
      obtain ⟨ji6, hji6⟩ : ∃ j_ : Int, (IntKind.u64.wrap (8 * (IntKind.u64.wrap (a2)))) = j_ := ⟨_, rfl⟩
      replace H : (if 0 ≤ (ji6) then (op_put.j0 k l0 a1 a2 ((shr .i64 a1 (ji6)) != 0)) else (none)) = some (r1, r2) := by first | (rw [hji6] at H; exact H) | (simp only [hji6] at H ⊢; exact H)
      by_cases c7 : 0 ≤ (ji6)
      · rw [if_pos c7] at H
        have c7b0 := eq_true c7
        have c7b1 : decide (0 ≤ (ji6)) = true := decide_eq_true c7
        clear c7
        obtain ⟨ji8, hji8⟩ : ∃ j_ : Int, (shr .i64 a1 (ji6)) = j_ := ⟨_, rfl⟩
        replace H : (op_put.j0 k l0 a1 a2 ((ji8) != 0)) = some (r1, r2) := by first | (rw [hji8] at H; exact H) | (simp only [hji8] at H ⊢; exact H)
        have hji8_ : (a1 / 2 ^ min (ji6).toNat 64) = ji8 := hji8
        have hji8z : (ji6) ≤ 64 → (a1 / 2 ^ (ji6).toNat) = ji8 := shr_small hji8
        have H' := Aside0.mk H
        clear H
        go_wp2
        go_meet
        case rel => exact ⟨_, (((ji8) != 0)), (by first | rfl | (simp; done) | (simp only [← hji8] <;> (first | rfl | simp)) | (simp [*]; done)), H', ⟨by first | omega | exact Nat.le_refl _⟩, ⟨by (with_reducible repeat (first | apply Kd.R_alloc | apply Kd.R_drewN | apply Kd.R_drew)); exact HO0.out⟩, ⟨by repeat (first | (with_reducible first | exact HK.out | apply Kept.alloc | apply Kept.drewN | apply Kept.drew) | exact HK.out)⟩, ⟨by repeat (first | (with_reducible first | exact HB.out | apply below_alloc | apply pw_below_drewN | apply below_drew1) | exact HB.out)⟩⟩
      · rw [if_neg c7] at H
        exact absurd H (by simp)
  case rest =>
    clear HC4
    try clear c2
    try clear p2
    try clear c5
    try clear c5b0
    try clear c7
    try clear c7b0
    try clear c7b1
    obtain ⟨kq, x18_3, rfl, HA, HJ3, HO_0, HK, HB⟩ := hcut
    cases kq with
    | zero => exact absurd HA.out (by simp [op_put.j0])
    | succ kj3 =>
      have H := HA.out
      clear HA
      simp only [op_put.j0] at H
      by_cases c9 : x18_3 = true
      · subst c9
        have H1 : (some (([] : List Int), false)) = some (r1, r2) := by rw [if_pos rfl] at H; exact H
        clear H
        have H := H1
        clear H1
        simp only [Option.some.injEq, Prod.mk.injEq] at H
        obtain ⟨rfl, rfl⟩ := H
        go_wp2
        go_ret2
        exact ⟨_, by first | rfl | (simp [errW_none, errW_some] <;> rfl) | (simp [*, errW_none, errW_some] <;> rfl), by first | exact Kd.R_nil _ _ _ _ _ | exact Kd.N_nil _ _ _ _ _ | exact Kd.V_nil _ _ _ _ _ | exact Kd.Q_nil _ _ _ _ _ | exact Kd.S_nil _ _ _ _ _, by repeat (first | (with_reducible first | exact HB.out | apply below_alloc | apply pw_below_drewN | apply below_drew1) | exact HB.out), by repeat (first | (with_reducible first | exact HK.out | apply Kept.alloc | apply Kept.drewN | apply Kept.drew) | exact HK.out)⟩
      · replace c9 := Bool.eq_false_iff.mpr c9
        subst c9
        have H1 : (op_put.l0 kj3 l0 a1 (wrap64 (a2 - 1))) = some (r1, r2) := by rw [if_neg (show ¬ (false = true) by decide)] at H; exact H
        clear H
        have H := H1
        clear H1
        have H' := Aside0.mk H
        clear H
        go_wp2
        go_loopg [0, 8] kj3 (fun kq v0 v8 w' => ∃ (x0_2 : List Int) (x8_2 : Int), v8 = .int .i64 x8_2 ∧ Aside0 (op_put.l0 kq x0_2 a1 x8_2 = some (r1, r2)) ∧ Aside0 (kq ≤ kj3) ∧ Aside0 (Kd.R (Kd.int .u8) 5 w' w0.heap.size (fun k_ => (P0_ k_ ∨ w.heap.size ≤ k_)) v0 x0_2) ∧ Aside0 (Kept w w' (fun k_ => P0_ k_)) ∧ Aside0 (Below w0.heap.size w0 w'))
        case atStart => exact ⟨(l0), (wrap64 (a2 - 1)), (by first | rfl | (simp; done) | (simp [*]; done)), H', ⟨Nat.le_refl _⟩, ⟨by (with_reducible repeat (first | apply Kd.R_alloc | apply Kd.R_drewN | apply Kd.R_drew)); exact HO_0.out⟩, ⟨by repeat (first | (with_reducible first | exact HK.out | apply Kept.alloc | apply Kept.drewN | apply Kept.drew) | exact HK.out)⟩, ⟨by repeat (first | (with_reducible first | exact HB.out | apply below_alloc | apply pw_below_drewN | apply below_drew1) | exact HB.out)⟩⟩
        case round =>
          clear H'
          try clear c2
          try clear p2
          try clear c5
          try clear c5b0
          try clear p6
          try clear c7
          try clear c7b0
          try clear c7b1
          try clear c9
          try clear p2
          obtain ⟨x0_2, x8_2, rfl, HA, HK2, HO_0, HK, HB⟩ := hrel
          cases gk with
          | zero => exact absurd HA.out (by simp [op_put.l0])
          | succ k2 =>
            have H := HA.out
            clear HA
            simp only [op_put.l0] at H
            by_cases c10 : x8_2 ≥ 0
            · rw [if_pos c10] at H
              have c10b0 : decide (0 ≤ x8_2) = true := decide_eq_true c10
              clear c10
              obtain ⟨ji11, hji11⟩ : ∃ j_ : Int, (IntKind.u64.wrap (8 * (IntKind.u64.wrap (x8_2)))) = j_ := ⟨_, rfl⟩
              replace H : (if 0 ≤ (ji11) then (if x0_2.length < 140737488355328 then (op_put.l0 k2 (x0_2 ++ [(shr .i64 a1 (ji11)) % 256]) a1 (wrap64 (x8_2 - 1))) else (none)) else (none)) = some (r1, r2) := by first | (rw [hji11] at H; exact H) | (simp only [hji11] at H ⊢; exact H)
              by_cases c12 : 0 ≤ (ji11)
              · rw [if_pos c12] at H
                have c12b0 := eq_true c12
                have c12b1 : decide (0 ≤ (ji11)) = true := decide_eq_true c12
                clear c12
                obtain ⟨ji13, hji13⟩ : ∃ j_ : Int, (shr .i64 a1 (ji11)) = j_ := ⟨_, rfl⟩
                replace H : (if x0_2.length < 140737488355328 then (op_put.l0 k2 (x0_2 ++ [(ji13) % 256]) a1 (wrap64 (x8_2 - 1))) else (none)) = some (r1, r2) := by first | (rw [hji13] at H; exact H) | (simp only [hji13] at H ⊢; exact H)
                have hji13_ : (a1 / 2 ^ min (ji11).toNat 64) = ji13 := hji13
                have hji13z : (ji11) ≤ 64 → (a1 / 2 ^ (ji11).toNat) = ji13 := shr_small hji13
                by_cases c14 : x0_2.length < 140737488355328
                · rw [if_pos c14] at H
                  have LMc14 := Aside0.mk c14
                  clear c14
                  obtain ⟨y105, hy105⟩ : ∃ y_ : List Int, y_ = (x0_2 ++ [(ji13) % 256]) := ⟨_, rfl⟩
                  replace H : (op_put.l0 k2 y105 a1 (wrap64 (x8_2 - 1))) = some (r1, r2) := by first | (rw [hy105]; with_reducible exact H) | (have H2_ := (Option.bind_some _ _).symm.trans H; rw [hy105]; with_reducible exact H2_) | (have H2_ := (Option.bind_some _ _).symm.trans H; with_reducible exact H2_) | with_reducible exact H | (rw [hy105]; exact H) | exact H
                  have Ny105 := Aside0.mk hy105
                  clear hy105
                  have H' := Aside0.mk H
                  clear H
                  go_wp2_with (first | ((with_reducible refine gate_builtin (b := .append) (xs := #[.tmp 25, .tmp 32]) rfl ?_); at_builtin; refine Kd.R_append (Kd.int .u8) (w0 := w0) w0.heap.size rfl (.tmp 25) (.tmp 32) 23 5 (.int .u8 0) 1 rfl Tryd.underlying23 info5 rfl (by decide) (by omega) u0 x0_2 ((ji13) % 256) [.int .u8 ((ji13) % 256)] (fun k_ => (P0_ k_ ∨ w.heap.size ≤ k_)) (fun _ => False) rfl rfl ?aP (fun _ hk => hk.elim) ?aF ?aO ?aB ?aS ?aL ?_; (case aP => exact rfl); (case aB => exact (by repeat (first | (with_reducible first | exact HB.out | apply below_alloc | apply pw_below_drewN | apply below_drew1) | exact HB.out))); (case aF => exact (fun k_ hk => (.inr (Nat.le_trans (by first | exact HK.out.1 | exact (show Kept w _ (fun k_ => P0_ k_) from by repeat (first | (with_reducible first | exact HK.out | apply Kept.alloc | apply Kept.drewN | apply Kept.drew) | exact HK.out)).1) hk)))); (case aO => exact (by (with_reducible repeat (first | apply Kd.R_alloc | apply Kd.R_drewN | apply Kd.R_drew)); exact HO_0.out)); (case aS => exact (below_size (by repeat (first | (with_reducible first | exact HB.out | apply below_alloc | apply pw_below_drewN | apply below_drew1) | exact HB.out)))); (case aL => have := LMc14.out; omega); intro v106 w15 ho hb hg hat; rw [← Ny105.out] at ho; have n0_ := Aside0.mk (hb); have n1_ := Aside0.mk (Kept.of_grown (S := (fun k_ => P0_ k_)) hg (by repeat (first | (with_reducible first | exact HK.out | apply Kept.alloc | apply Kept.drewN | apply Kept.drew) | exact HK.out)) (fun k_ e_ => (HO_0.out.1 k_ e_))); have n2_ := Aside0.mk (ho); clear HB; clear HK; clear HO_0; have HB := n0_; have HK := n1_; have HO107 := n2_; clear n0_ n1_ n2_; clear ho hb hg hat))
                  go_roundg k2
                  case measure => have := HJ3.out; have := HK2.out; omega
                  case rel => exact ⟨(y105), (wrap64 (x8_2 - 1)), (by first | rfl | (simp; done) | (simp [*]; done)), H', ⟨by have := HJ3.out; have := HK2.out; omega⟩, ⟨by (with_reducible repeat (first | apply Kd.R_alloc | apply Kd.R_drewN | apply Kd.R_drew)); exact HO107.out⟩, ⟨by repeat (first | (with_reducible first | exact HK.out | apply Kept.alloc | apply Kept.drewN | apply Kept.drew) | exact HK.out)⟩, ⟨by repeat (first | (with_reducible first | exact HB.out | apply below_alloc | apply pw_below_drewN | apply below_drew1) | exact HB.out)⟩⟩
                · rw [if_neg c14] at H
                  exact absurd H (by simp)
              · rw [if_neg c12] at H
                exact absurd H (by simp)
            · rw [if_neg c10] at H
              have c10b0 : decide (0 ≤ x8_2) = false := decide_eq_false c10
              clear c10
              simp only [Option.some.injEq, Prod.mk.injEq] at H
              obtain ⟨rfl, rfl⟩ := H
              go_wp2
              go_ret2
              exact ⟨_, by first | rfl | (simp [errW_none, errW_some] <;> rfl) | (simp [*, errW_none, errW_some] <;> rfl), by (with_reducible repeat (first | apply Kd.R_alloc | apply Kd.R_drewN | apply Kd.R_drew)); exact HO_0.out, by repeat (first | (with_reducible first | exact HB.out | apply below_alloc | apply pw_below_drewN | apply below_drew1) | exact HB.out), by repeat (first | (with_reducible first | exact HK.out | apply Kept.alloc | apply Kept.drewN | apply Kept.drew) | exact HK.out)⟩

end Go.Proofs.YthcbojpafamlcaaDoor.POpTells
