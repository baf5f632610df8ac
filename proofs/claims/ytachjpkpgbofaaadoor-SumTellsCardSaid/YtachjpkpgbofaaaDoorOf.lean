/- What sum.Of comes to: walked by hand inside the wide fence, its loop over slices.Chunk by that closure's contract. Condition: the row of rows reads as lists of bytes. -/
import Derived.RangeFuncNested
import Derived.RangeFuncBound
import Derived.RangeFuncCalls
import Derived.RangeFuncLeaves
import Derived.Shelf.Abstract
import Derived.Shelf.RegionOpen
import Derived.WalkKit
import Derived.OwnWalkIn
import Derived.TacticsInMore
import Derived.LoopNIn
import Derived.LoopIn
import Derived.BigRegionIn
import Derived.Lib.SliceRun
import Derived.Lib.Hide
import Derived.Test.YtachjpkpgbofaaaDoorProg
import Derived.Test.YtachjpkpgbofaaaDoorV1
import Derived.Test.YtachjpkpgbofaaaDoorChunk
namespace Go.Proofs.YtachjpkpgbofaaaDoor.Chunk
open Go Go.RowKit Go.Shelf Go.Proofs.YtachjpkpgbofaaaDoorW.PrintWords
set_option linter.unusedVariables false
set_option linter.unusedSimpArgs false
attribute [local go_sem] Oper.semAt_some

def step (s : Int × Int) (c : Int) : Int × Int := ((s.1 + c) % 4294967296, (s.2 + (s.1 + c)) % 4294967296)
def part (p : List Int) (x : Nat × Nat) : List Int := (p.drop x.1).take x.2
def chunkS (s : Int × Int) (l : List Int) : Int × Int := let t := l.foldl step s; (t.1 % 65521, t.2 % 65521)
def pieceS (s : Int × Int) (p : List Int) : Int × Int := (upto (run_ p.length) (rounds_ p.length)).foldl (fun s x => chunkS s (part p x.1)) s
def ofS (l : List (List Int)) : Int := Go.bits .or .u32 ((l.foldl pieceS (1, 0)).2 * 65536 % 4294967296) (l.foldl pieceS (1, 0)).1
def mark (D : Nat) : Deferred := { target := .collected D, args := #[] }
structure St (B : Nat) (w W : World) (Ds : List Nat) (s : Int × Int) : Prop where
  b1 : Boxed W B 30 (.int .u32 s.1)
  b2 : Boxed W (B + 1) 30 (.int .u32 s.2)
  below : Below B w W
  n1 : 0 ≤ s.1
  n2 : 0 ≤ s.2
  nd : Ds.Nodup
  mks : ∀ D ∈ Ds, B + 2 ≤ D ∧ W.heap[D]? = some (.deferred (some []))
theorem St.alloc {B : Nat} {w W : World} {Ds : List Nat} {s : Int × Int} (h : St B w W Ds s) (o : Obj) : St B w (W.alloc o) Ds s :=
  ⟨h.b1.alloc o, h.b2.alloc o, h.below.alloc (Nat.le_of_lt h.b1.lt) o, h.n1, h.n2, h.nd, fun D hD => ⟨(h.mks D hD).1, ((World.grownBy_alloc W o none).block D (lt_of_block (h.mks D hD).2) (by simp)).trans (h.mks D hD).2⟩⟩
theorem St.drew {B : Nat} {w W : World} {Ds : List Nat} {s : Int × Int} (h : St B w W Ds s) : St B w W.drew Ds s := ⟨h.b1, h.b2, below_drew1 h.below, h.n1, h.n2, h.nd, h.mks⟩
theorem St.set1 {B : Nat} {w W : World} {Ds : List Nat} {s : Int × Int} (h : St B w W Ds s) (a : Int) (ha : 0 ≤ a) : St B w (W.setCell ⟨B, 0, none⟩ (.int .u32 a)) Ds (a, s.2) :=
  ⟨h.b1.set _, h.b2.other (by omega) _, h.below.setCell (p := ⟨B, 0, none⟩) (Nat.le_refl _) _, ha, h.n2, h.nd, fun D hD => ⟨(h.mks D hD).1, (Below.heap_setCell _ _ _ _ (by have := (h.mks D hD).1; simp only []; omega)).trans (h.mks D hD).2⟩⟩
theorem St.set2 {B : Nat} {w W : World} {Ds : List Nat} {s : Int × Int} (h : St B w W Ds s) (a : Int) (ha : 0 ≤ a) : St B w (W.setCell ⟨B + 1, 0, none⟩ (.int .u32 a)) Ds (s.1, a) :=
  ⟨h.b1.other (by omega) _, h.b2.set _, h.below.setCell (p := ⟨B + 1, 0, none⟩) (by simp only []; omega) _, h.n1, ha, h.nd, fun D hD => ⟨(h.mks D hD).1, (Below.heap_setCell _ _ _ _ (by have := (h.mks D hD).1; simp only []; omega)).trans (h.mks D hD).2⟩⟩
theorem St.own {β : Type} (f : β → Int × Int) {B N : Nat} {w : World} {Ds : List Nat} (hB : B + 2 ≤ N) (hD : ∀ D ∈ Ds, D < N) : OwnFrom N (fun s W => St B w W Ds (f s)) := fun s W W' row hs hg hr =>
  have hne : ∀ k, k < N → some k ≠ row := fun k hk e => by have := (hr k e.symm).1; omega
  ⟨hs.b1.kept hg (hne _ (by omega)), hs.b2.kept hg (hne _ (by omega)), hs.below.grown hg (Nat.le_of_lt hs.b1.lt) (fun k e => by have := (hr k e).1; omega), hs.n1, hs.n2, hs.nd, fun D h => ⟨(hs.mks D h).1, (hg.block D (lt_of_block (hs.mks D h).2) (hne D (hD D h))).trans (hs.mks D h).2⟩⟩
theorem St.lt {B : Nat} {w W : World} {Ds : List Nat} {s : Int × Int} (h : St B w W Ds s) : ∀ D ∈ Ds, D < W.heap.size := fun D hD => lt_of_block (h.mks D hD).2
theorem leaves_marks {F : Fence} {n : Nat} {P : Program} {fn : Func} {tmps : Array Value} {R : Ending → World → Prop} (B : Nat) (w : World) : ∀ (Ds : List Nat) (W : World), Ds.Nodup → (∀ D ∈ Ds, B ≤ D ∧ W.heap[D]? = some (.deferred (some []))) → Below B w W →
    (∀ W', Below B w W' → LeavesIn F n P fn tmps R [] .returning W') → LeavesInM F n P fn tmps R (Ds.map mark) .returning W
  | [], W, _, _, hB, h => h W hB
  | D :: Ds, W, hn, hm, hB, h => ⟨by simp, .inl ⟨D, _, rfl, run_takeDeferred (hm D (by simp)).2, leaves_marks B w Ds _ (List.nodup_cons.1 hn).2
      (fun D' h' => ⟨(hm D' (by simp [h'])).1, (World.putObj_heap_other (fun e => (List.nodup_cons.1 hn).1 (by subst e; exact h'))).trans (hm D' (by simp [h'])).2⟩)
      (hB.trans ((Below.refl B W).grown (grownBy_putObj' W D _) (by have := lt_of_block (hm D (by simp)).2; have := (hm D (by simp)).1; omega) (fun k e => by cases e; exact (hm D (by simp)).1))) h⟩⟩
theorem cell_of {w W : World} {A : Option Addr} {p : List Int} (hC : (Kd.int .u8).C w A p.length p) (hb : Below w.heap.size w W) (i j : Nat) (h : i + j < p.length) : W.cell? (((A.getD default).add i).add j) = some (.int .u8 (rd p ((i + j : Nat) : Int))) := by
  obtain ⟨ad, rfl, h1⟩ := Kd.at_int (Kd.C_below hC hb) ((i + j : Nat) : Int) (by omega) (by omega)
  rw [Int.toNat_natCast] at h1
  rw [Option.getD_some, add_add]
  exact h1
theorem part_succ (p : List Int) (i j : Nat) (h : i + j < p.length) : part p (i, j + 1) = part p (i, j) ++ [rd p ((i + j : Nat) : Int)] := by
  unfold part
  simp only []
  rw [List.take_succ_eq_append_getElem (by rw [List.length_drop]; omega)]
  congr 2
  rw [List.getElem_drop]
  unfold rd
  rw [Int.toNat_natCast]
  simp [h]
theorem row_of {w W : World} {A : Option Addr} {l : List (List Int)} (hC : (Kd.slice 5 (Kd.int .u8)).C w A l.length l) (hb : Below w.heap.size w W) (k : Nat) (h : k < l.length) :
    ∃ ad A' c, A = some ad ∧ W.cell? (ad.add k) = some (.slice A' (l[k]'h).length c) ∧ (l[k]'h).length ≤ c ∧ (Kd.int .u8).C w A' (l[k]'h).length (l[k]'h) := by
  obtain ⟨_, _, h3⟩ := hC
  obtain ⟨ad, rfl, hr⟩ := h3 (by omega)
  obtain ⟨cs, hl, ⟨A', c, rfl, hc, hK⟩, hcell⟩ := hr k _ (List.getElem?_eq_getElem h)
  have h1 := hcell 0 _ rfl
  have hsz : (Kd.slice 5 (Kd.int .u8)).sz = 1 := rfl
  have e0 : k * (Kd.slice 5 (Kd.int .u8)).sz + 0 = k := by rw [hsz]; omega
  rw [e0] at h1
  refine ⟨ad, A', c, rfl, ?_, hc, hK⟩
  have hlt : (ad.add k).block < w.heap.size := by
    obtain ⟨o, ho, _⟩ := cells_of_cell h1
    exact lt_of_block ho
  exact (hb.cell hlt).trans h1

set_option maxRecDepth 100000 in
set_option maxHeartbeats 4000000 in
theorem of_in (n : Nat) (hn : 5 ≤ n) (A0 : Option Addr) (c0 : Nat) (l0 : List (List Int)) (w : World) (hr : (Kd.slice 5 (Kd.int .u8)).C w A0 l0.length l0) (hc : l0.length ≤ c0) (hp : ∀ p ∈ l0, p.length ≤ 140737488351232) :
    CallsIn Fence.wide n Tryd.prog 9 #[.slice A0 l0.length c0] w fun e w' => e = .returned (.int .u32 (ofS l0)) ∧ Below w.heap.size w w' := by
  have hlm : l0.length ≤ 9223372036854775807 := Kd.C_max hr
  have hro : Fence.wide.round = none := rfl
  have h1 : 1 ≤ n := by omega
  refine callsIn_of_wp_marks Tryd.func9 rfl trivial ?_ rfl
  simp only [Tryd.ntmps9, List.size_toArray, List.length_cons, List.length_nil, Nat.reduceAdd, Nat.reduceSub, Array.replicate_succ, Array.replicate_zero, List.push_toArray, List.append_toArray, List.nil_append, List.cons_append]
  have HR := Lib.hid hr
  have HP := Lib.hid hp
  clear hr hp
  gi_wp2
  obtain ⟨W1, hW1⟩ : ∃ W1, ((w.alloc (Obj.cells #[Value.int IntKind.u32 1] 30)).alloc (Obj.cells #[Value.int IntKind.u32 0] 30)) = W1 := ⟨_, rfl⟩
  have hS : St w.heap.size w W1 [] (1, 0) := by
    rw [← hW1]
    have b2 := Boxed.new (w.alloc (Obj.cells #[Value.int IntKind.u32 1] 30)) 30 (.int .u32 0)
    rw [World.size_alloc] at b2
    exact ⟨(Boxed.new w 30 (.int .u32 1)).alloc _, b2, below_alloc (below_alloc (Below.refl _ _) _) _, by simp, by simp, List.nodup_nil, fun D h => by simp at h⟩
  rw [hW1]
  clear hW1
  refine wpIn_loop (fun a W => ∃ (k : Nat) (Ds : List Nat) (s : Int × Int) (u5 u6 u7 u8 u9 u13 u14 u15 u16 u17 u18 u19 u20 u21 u22 u23 u24 u25 u26 u27 u28 u29 u30 u31 u32 u33 u34 u35 u36 u37 : Value), k ≤ l0.length ∧ s = (l0.take k).foldl pieceS (1, 0) ∧ St w.heap.size w W Ds s ∧
      a = { tmps := #[.slice A0 l0.length c0, undef, .int .u32 0, .pointer (some ⟨w.heap.size, 0, none⟩), .pointer (some ⟨w.heap.size + 1, 0, none⟩), u5, u6, u7, u8, u9, .slice A0 l0.length c0, .int .i64 l0.length, .int .i64 k, u13, u14, u15, u16, u17, u18, u19, u20, u21, u22, u23, u24, u25, u26, u27, u28, u29, u30, u31, u32, u33, u34, u35, u36, u37, undef, undef, undef, undef], defers := Ds.map mark })
    (fun a _ => l0.length - (intOf (a.tmps.getD 12 undef)).toNat) ?start ?round
  case start =>
    refine ⟨0, [], (1, 0), _, _, _, _, _, _, _, _, _, _, _, _, _, _, _, _, _, _, _, _, _, _, _, _, _, _, _, _, _, _, Nat.zero_le _, rfl, hS, rfl⟩
  case round =>
    rintro a W ⟨k, Ds, s, u5, u6, u7, u8, u9, u13, u14, u15, u16, u17, u18, u19, u20, u21, u22, u23, u24, u25, u26, u27, u28, u29, u30, u31, u32, u33, u34, u35, u36, u37, hk, hs, hS, rfl⟩
    have Hs := Lib.hid hs
    clear hs
    by_cases hlt : k < l0.length
    · obtain ⟨ad, A, c, rfl, hcell, hpc, hC⟩ := row_of HR.out hS.below k hlt
      obtain ⟨p, hpk⟩ : ∃ p, p = l0[k] := ⟨_, rfl⟩
      rw [← hpk] at hcell hpc hC
      have hpl : p.length ≤ 140737488351232 := HP.out p (by rw [hpk]; exact List.getElem_mem _)
      have Hp := Lib.hid hpk
      clear hpk
      have HC := Lib.hid hC
      clear hC
      gi_wp2_with (refine ⟨trivial, ?_⟩; gi_at_call 16; refine (chunk_in Fence.wide (n - 1) trivial rfl _ _ _ _).mono ?_; rintro e w' ⟨rfl, rfl⟩)
      obtain ⟨W2, hW2⟩ : ∃ W2, ((W.alloc (Obj.cells #[Value.slice A p.length c] 22)).alloc (Obj.cells #[Value.int IntKind.i64 5000] 3)) = W2 := ⟨_, rfl⟩
      have hS2 : St w.heap.size w W2 Ds s := by rw [← hW2]; exact (hS.alloc _).alloc _
      have hb1 : Boxed W2 W.heap.size 22 (.slice A p.length c) := by rw [← hW2]; exact (Boxed.new W 22 _).alloc _
      have hb2 : Boxed W2 (W.heap.size + 1) 3 (.int .i64 5000) := by
        rw [← hW2]
        have b2 := Boxed.new (W.alloc (Obj.cells #[Value.slice A p.length c] 22)) 3 (.int .i64 5000)
        rwa [World.size_alloc] at b2
      have hz : W2.heap.size = W.heap.size + 2 := by rw [← hW2]; simp
      have hle : w.heap.size + 2 ≤ W.heap.size := by have := hS.b2.lt; omega
      have hA : 0 < p.length → ∃ ad, A = some ad := fun h => by
        obtain ⟨_, _, h3⟩ := HC.out
        obtain ⟨ad, e, _⟩ := h3 h
        exact ⟨ad, e⟩
      rw [hW2]
      clear hW2
      refine wpIn_rangeFunc_ownG (w0 := W2) (α := Run p.length) hro h1 (gf := 18) (lb := #[.pointer (some ⟨W.heap.size, 0, none⟩), .pointer (some ⟨W.heap.size + 1, 0, none⟩)]) rfl trivial (enters_of Tryd.func18 (by kernel_rfl) rfl)
        (chunk_stops Fence.wide (n - 1) trivial hro (by omega) w.heap.size W.heap.size (W.heap.size + 1) p.length c A hA hpc hpl W2 hb1 hb2) Kp.t (Kp.b (by omega) (by omega) (by omega)) (Below.refl _ _) (fun _ => rfl)
        (fun pre W' => St w.heap.size w W' Ds (pre.foldl (fun s x => chunkS s (part p x.1)) s))
        (fun _ _ _ => False)
        (St.own _ (by omega) hS2.lt)
        (fun _ _ _ _ _ hs _ _ => hs)
        hS2
        (fun x => { tmps := #[Value.slice (some ad) l0.length c0, undef, Value.int IntKind.u32 0,
                Value.pointer (some { block := w.heap.size, off := 0 }),
                Value.pointer (some { block := w.heap.size + 1, off := 0 }), u5, Value.slice A p.length c, Value.slice (some ((A.getD default).add x.1.1)) x.1.2 x.1.2, u8, u9,
                Value.slice (some ad) l0.length c0, Value.int IntKind.i64 ↑l0.length, Value.int IntKind.i64 ↑k,
                Value.bool true, Value.pointer (some (ad.add k)), Value.slice A p.length c, Value.slice A p.length c, .func (.func 18) #[] #[.pointer (some ⟨W.heap.size, 0, none⟩), .pointer (some ⟨W.heap.size + 1, 0, none⟩)],
                Value.slice (some ((A.getD default).add x.1.1)) x.1.2 x.1.2, u19, u20, u21, u22, u23, u24, u25, u26, u27, u28, u29, u30, u31, u32, u33, u34, u35, u36, u37,
                undef, undef, undef, undef], defers := [] }) ?assign ?body ?done ?stop
      case assign =>
        intro l x W K hK
        gi_wp2
        exact hK
      case body =>
        rintro l pre x W4 hS4 _
        obtain ⟨s4, hs4⟩ : ∃ s4, pre.foldl (fun s x => chunkS s (part p x.1)) s = s4 := ⟨_, rfl⟩
        have HS4 : Hid ((pre ++ [x]).foldl (fun s x => chunkS s (part p x.1)) s = chunkS s4 (part p x.1)) := by
          show _ = _
          rw [List.foldl_append, hs4]; rfl
        rw [hs4] at hS4
        clear hs4
        obtain ⟨⟨i0, m⟩, him⟩ := x
        dsimp only at him HS4 ⊢
        gi_wp2
        gi_loopw [21] (fun i wr => ∃ j : Nat, j ≤ m ∧ i = .int .i64 (j : Int) ∧ ∃ s5, Hid (s5 = (part p (i0, j)).foldl step s4) ∧ St w.heap.size w wr Ds s5 ∧ KeepsOthers W4 wr ∧ Kp w.heap.size W.heap.size (W.heap.size + 1) W4 wr) (fun i _ => m - (intOf i).toNat)
        case atStart => exact ⟨0, Nat.zero_le _, rfl, s4, rfl, hS4, KeepsOthers.refl _, Below.refl _ _, rfl, rfl⟩
        case round =>
          obtain ⟨j, hj, rfl, s5, hs5, hS5, hKO, hKp⟩ := hrel
          by_cases hlt2 : j < m
          · have hcell2 := cell_of HC.out hS5.below i0 j (by omega)
            have hc1 := hS5.b1.cell
            have hc2 := hS5.b2.cell
            have hf1 := hS5.b1.frozen
            have hf2 := hS5.b2.frozen
            obtain ⟨cv, hcv⟩ : ∃ cv, rd p ((i0 + j : Nat) : Int) = cv := ⟨_, rfl⟩
            rw [hcv] at hcell2
            have HCV := Lib.hid hcv
            clear hcv
            gi_wp2
            go_roundw
            case rel =>
              refine ⟨j + 1, by omega, by go_num, _, ?_, (hS5.set1 _ (by omega)).set2 _ (by omega), (hKO.trans (KeepsOthers.setCell _ _ _)).trans (KeepsOthers.setCell _ _ _), (hKp.set _ (Nat.le_refl _) (by omega) (by omega)).set _ (by omega) (by omega) (by omega)⟩
              show _ = _
              rw [part_succ p i0 j (by omega), List.foldl_append, ← hs5.out, HCV.out]
              rfl
            case measure => simp [intOf]; omega
          · obtain rfl : j = m := by omega
            have hc1 := hS5.b1.cell
            have hc2 := hS5.b2.cell
            have hf1 := hS5.b1.frozen
            have hf2 := hS5.b2.frozen
            have hn1 := hS5.n1
            have hn2 := hS5.n2
            have hend : chunkS s4 (part p (i0, j)) = (s5.1 % 65521, s5.2 % 65521) := by
              show (((part p (i0, j)).foldl step s4).1 % 65521, ((part p (i0, j)).foldl step s4).2 % 65521) = _
              rw [← hs5.out]
            have hS6 := ((hS5.set1 (s5.1 % 65521) (by omega)).set2 (s5.2 % 65521) (by omega)).drew
            have hSf : St w.heap.size w ((wr.setCell ⟨w.heap.size, 0, none⟩ (.int .u32 (s5.1 % 65521))).setCell ⟨w.heap.size + 1, 0, none⟩ (.int .u32 (s5.2 % 65521))).drew Ds ((pre ++ [(⟨(i0, j), him⟩ : Run p.length)]).foldl (fun s x => chunkS s (part p x.1)) s) := by
              rw [HS4.out, hend]; exact hS6
            have HSf := Lib.hid hSf
            clear hSf hS6 hend
            gi_wp2
            gi_region
            all_goals rw [Int.tmod_eq_emod_of_nonneg hn1, Int.tmod_eq_emod_of_nonneg hn2]
            all_goals
              gi_wp2
              exact ⟨(((hKO.trans (KeepsOthers.setCell _ _ _)).trans (KeepsOthers.setCell _ _ _)).trans (KeepsOthers.drew _)).from _, ((hKp.set _ (Nat.le_refl _) (by omega) (by omega)).set _ (by omega) (by omega) (by omega)).drew, HSf.out⟩
      case done =>
        rintro D ys W5 hD rfl hS5 hK
        have hDN : D ∉ Ds := fun h => by have := hS2.lt D h; omega
        have hS6 : St w.heap.size w W5 (D :: Ds) (pieceS s p) := ⟨hS5.b1, hS5.b2, hS5.below, hS5.n1, hS5.n2, List.nodup_cons.2 ⟨hDN, hS5.nd⟩, fun D' h' => by
          rcases List.mem_cons.1 h' with rfl | h'
          · exact ⟨by omega, hK⟩
          · exact hS5.mks D' h'⟩
        have hs6 : Hid (pieceS s p = (l0.take (k + 1)).foldl pieceS (1, 0)) := by
          show _ = _
          rw [List.take_succ_eq_append_getElem hlt, List.foldl_append, ← Hs.out, ← Hp.out]
          rfl
        clear hK hDN
        gi_wp2
        refine ⟨⟨k + 1, D :: Ds, pieceS s p, _, _, _, _, _, _, _, _, _, _, _, _, _, _, _, _, _, _, _, _, _, _, _, _, _, _, _, _, _, _, hlt, hs6.out, hS6, rfl⟩, ?_⟩
        show l0.length - (k + 1) < l0.length - k
        omega
      case stop =>
        rintro D c pre W _ _ h _
        exact h.elim
    · have hc1 := hS.b1.cell
      have hc2 := hS.b2.cell
      have hn1 := hS.n1
      have hn2 := hS.n2
      gi_wp2
      refine leaves_marks w.heap.size w Ds W hS.nd (fun D hD => ⟨by have := (hS.mks D hD).1; omega, (hS.mks D hD).2⟩) hS.below (fun W' hB => ?_)
      refine ⟨_, results_tmp rfl _ _ _, ?_, hB⟩
      have e1 : l0.take k = l0 := List.take_of_length_le (by omega)
      show Ending.returned (.int .u32 (Go.bits .or .u32 (s.2 * 65536 % 4294967296) s.1)) = _
      rw [Hs.out, e1]
      rfl
theorem of_calls (A0 : Option Addr) (c0 : Nat) (l0 : List (List Int)) (w : World) (hr : (Kd.slice 5 (Kd.int .u8)).C w A0 l0.length l0) (hc : l0.length ≤ c0) (hp : ∀ p ∈ l0, p.length ≤ 140737488351232) :
    Calls Tryd.prog 9 #[.slice A0 l0.length c0] w fun e w' => e = .returned (.int .u32 (ofS l0)) ∧ Below w.heap.size w w' := callsIn_wide.1 (of_in 5 (by omega) A0 c0 l0 w hr hc hp)
#print axioms of_calls
end Go.Proofs.YtachjpkpgbofaaaDoor.Chunk
