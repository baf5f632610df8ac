/- slices.IndexFunc over a row of bytes, with a predicate, and the two predicates that lattice's Bottom and Top hand it. -/
import Derived.Test.YtdggcbmghmfmkaaDoorProg
import Derived.Below
import Derived.Deep.Draws
import Derived.Deep.AppendLies
import Derived.Maps.AppendAt
import Derived.OwnWalk
import Derived.Laws.BytesArg
import Derived.Laws.MakeOwn
import Derived.Laws.OwnMore
import Derived.Deep.OwnRows
import Derived.Tactics
import Derived.Lib.ConvBytes
import Derived.Laws.Slices
import Derived.WalkKit
import Derived.KernelRfl
import Derived.RowKit3
import Derived.Deep.LoopGhost
import Derived.Deep.QuietTactic
import Derived.BigQuiet
import Derived.WideLaws
import Derived.Deep.DeepCutAuto
import Derived.Deep.CutBlock
import Derived.Deep.RegionHeld3
import Derived.Laws.Rows
import Derived.Lib.AppendStr
import Derived.ArgAppend
import Derived.Laws.IdiomCopy
import Derived.OrdersHeld
import Derived.Laws.BitsLemmas
import Derived.RowKit
import Derived.Test.YtdggcbmghmfmkaaDoorWWords
import Derived.Test.YtdggcbmghmfmkaaDoorWLast
import Derived.Test.YtdggcbmghmfmkaaDoorWTab
import Derived.Test.YtdggcbmghmfmkaaDoorWFour
import Derived.Test.YtdggcbmghmfmkaaDoorWQPut
import Derived.Test.YtdggcbmghmfmkaaDoorWApart
import Derived.Test.YtdggcbmghmfmkaaDoorWArr
import Derived.Test.YtdggcbmghmfmkaaDoorWZeros
import Derived.Test.YtdggcbmghmfmkaaDoorWFoot
import Derived.Test.YtdggcbmghmfmkaaDoorWKept
import Derived.Test.YtdggcbmghmfmkaaDoorWShare
import Derived.Test.YtdggcbmghmfmkaaDoorWN
import Derived.Test.YtdggcbmghmfmkaaDoorWFootNe
import Derived.Test.YtdggcbmghmfmkaaDoorWAt
import Derived.Test.YtdggcbmghmfmkaaDoorWEqStruct
import Derived.Test.YtdggcbmghmfmkaaDoorWRepsOne
import Derived.Test.YtdggcbmghmfmkaaDoorWInv
import Derived.Test.YtdggcbmghmfmkaaDoorWInvWords
import Derived.Test.YtdggcbmghmfmkaaDoorWGuard
import Derived.Test.YtdggcbmghmfmkaaDoorWNEv
import Derived.Test.YtdggcbmghmfmkaaDoorWMore
import Derived.Deep.LoopGhost
import Derived.Deep.Draws
import Derived.Shelf.Lay
import Derived.Shelf.Small.Bits
import Derived.Lib.Walk
import Derived.Shelf.Abstract
namespace Go.Proofs.YtdggcbmghmfmkaaDoor.Idx
open Go.RowKit Go.Proofs.YtdggcbmghmfmkaaDoorW.PrintWords Go.Proofs.YtdggcbmghmfmkaaDoorW.PrintLast Go.Proofs.YtdggcbmghmfmkaaDoorW.PrintMore Go.Shelf
set_option linter.unusedVariables false
def lidx (p : Int → Bool) : List Int → Nat → Int
  | [], _ => -1
  | y :: r, i => if p y then (i : Int) else lidx p r (i + 1)
set_option maxHeartbeats 4000000 in
theorem lat_index (g : Nat) (lb : Array Value) (eg : ∀ args w, (callFunc g args).run Tryd.prog w = .ok (.enter g args) w) (p : Int → Bool) (A : Option Addr) (c : Nat) (zs : List Int) (w : World) (hr : Kd.C (Kd.int .u8) w A zs.length zs)
    (hp : ∀ x ∈ zs, ∀ W, Below w.heap.size w W → Calls Tryd.prog g (#[.int .u8 x] ++ lb) W fun e w' => e = .returned (.bool (p x)) ∧ Below W.heap.size W w') :
    Calls Tryd.prog 26 #[.slice A zs.length c, .func (.func g) #[] lb] w fun e w' => e = .returned (.int .i64 (lidx p zs 0)) ∧ Below w.heap.size w w' := by
  have hn : zs.length ≤ 9223372036854775807 := hr.2.1
  generalize hz : zs.length = n at hr hn ⊢
  go_enter Tryd.func26, Tryd.ntmps26
  go_wp2
  go_loopg [5, 8] n (fun gg _ s8 wr => ∃ kk : Nat, kk ≤ n ∧ n - kk ≤ gg ∧ s8 = .int .i64 kk ∧ Below w.heap.size w wr ∧ Aside (lidx p zs 0 = lidx p (zs.drop kk) kk))
  case atStart => exact ⟨0, Nat.zero_le _, by omega, rfl, Below.refl _ _, rfl⟩
  case round =>
    obtain ⟨kk, hkk, hg, rfl, hb, B⟩ := hrel
    by_cases hlt : kk < n
    · have hltz : (kk : Int) < (n : Int) := by omega
      obtain ⟨ad, rfl, hx⟩ := Kd.at_int hr (kk : Int) (by omega) (by omega)
      have hx1 := (hb.cell (World.block_lt_of_cell? w _ hx)).trans hx
      clear hx
      simp only [Int.toNat_natCast] at hx1
      have hd : zs.drop kk = rd zs (kk : Int) :: zs.drop (kk + 1) := by
        rw [List.drop_eq_getElem_cons (by omega)]
        simp [rd, show kk < zs.length by omega]
      have hm : rd zs (kk : Int) ∈ zs := by
        have : rd zs (kk : Int) ∈ zs.drop kk := by rw [hd]; simp
        exact List.mem_of_mem_drop this
      have hcall := hp _ hm
      clear hp
      generalize rd zs (kk : Int) = y at hx1 hd hcall
      cases hq : p y with
      | true =>
        rw [hq] at hcall
        go_wp2_with (go_at_fn g; refine (hcall _ hb).mono ?_; rintro e w' ⟨rfl, hb2⟩)
        go_ret
        refine ⟨?_, below_step hb hb2⟩
        rw [B.out, hd, lidx, if_pos hq]
        rfl
      | false =>
        rw [hq] at hcall
        go_wp2_with (go_at_fn g; refine (hcall _ hb).mono ?_; rintro e w' ⟨rfl, hb2⟩)
        go_roundg (n - (kk + 1))
        case measure => omega
        case rel =>
          refine ⟨kk + 1, by omega, by omega, by go_num, below_step hb hb2, (show Aside _ from ?_)⟩
          have := B.out
          rw [hd, lidx, if_neg (by simp [hq])] at this
          exact this
    · have hltz : ¬ (kk : Int) < (n : Int) := by omega
      have hk2 : kk = n := by omega
      go_wp2
      go_ret
      refine ⟨?_, hb⟩
      rw [B.out, List.drop_of_length_le (by omega), lidx]
      rfl

shelf_lay Lays.n135 Nm 135 at Tryd as layOnes
theorem ones_call (x : Int) (w : World) (h0 : 0 ≤ x) (h1 : x < 256) : Calls Tryd.prog 28 #[.int .u8 x] w fun e w' => e = .returned (.int .i64 (Lib.onesCount x.toNat)) ∧ w' = w := by
  have h := Any.bits_OnesCount8 layOnes x w h0 (by omega)
  exact h
theorem bottom_fn (n : Nat) (A : Option Addr) (c : Nat) (B : Nat) (w0 : World) (hB : B < w0.heap.size) (hc : w0.cell? ⟨B, 0, none⟩ = some (.slice A n c)) (x : Int) (h0 : 0 ≤ x) (h1 : x < 256) (W : World) (hb : Below w0.heap.size w0 W) :
    Calls Tryd.prog 27 (#[.int .u8 x] ++ #[.pointer (some ⟨B, 0, none⟩)]) W fun e w' => e = .returned (.bool (decide (((Lib.onesCount x.toNat : Nat) : Int) = (n : Int)))) ∧ Below W.heap.size W w' := by
  have hc' : W.cell? ⟨B, 0, none⟩ = some (.slice A n c) := (hb.cell (p := ⟨B, 0, none⟩) hB).trans hc
  have ho := fun W => ones_call x W h0 h1
  show Calls Tryd.prog 27 #[.int .u8 x, .pointer (some ⟨B, 0, none⟩)] W _
  generalize Lib.onesCount x.toNat = r at ho ⊢
  go_enter Tryd.func27, Tryd.ntmps27
  go_upto_region 1 with (fail)
  go_region_with (first | (go_at_call 28; refine (ho _).mono ?_; rintro e w' ⟨rfl, rfl⟩) | fail)
  all_goals go_wp2
  all_goals go_ret
  all_goals refine ⟨?_, by repeat (first | exact Below.refl _ _ | apply below_drew1 | apply pw_below_drewN)⟩
  all_goals first | rfl | (simp [Act.put]; done)
theorem top_fn (x : Int) (h0 : 0 ≤ x) (h1 : x < 256) (W : World) :
    Calls Tryd.prog 29 (#[.int .u8 x] ++ #[]) W fun e w' => e = .returned (.bool (decide (((Lib.onesCount x.toNat : Nat) : Int) = 1))) ∧ Below W.heap.size W w' := by
  have ho := fun W => ones_call x W h0 h1
  show Calls Tryd.prog 29 #[.int .u8 x] W _
  generalize Lib.onesCount x.toNat = r at ho ⊢
  go_enter Tryd.func29, Tryd.ntmps29
  go_wp2_with (go_at_call 28; refine (ho _).mono ?_; rintro e w' ⟨rfl, rfl⟩)
  all_goals go_ret
  all_goals refine ⟨?_, by repeat (first | exact Below.refl _ _ | apply below_drew1 | apply pw_below_drewN)⟩
  all_goals first | rfl | (simp [Act.put]; done)
end Go.Proofs.YtdggcbmghmfmkaaDoor.Idx
