/-
  The plain law of SumTells: what the law's Go functions compute, as lists and numbers, answers true at every input. Condition: none beyond the numbers' kinds and the slices' bounds.
-/
import Derived.Test.YtachjpkpgbofaaaDoorPSumTellsx0
import Derived.Test.YtachjpkpgbofaaaDoorPSumTellsx1
import Derived.Test.YtachjpkpgbofaaaDoorPSumTellsx2
import Derived.Test.YtachjpkpgbofaaaDoorPSumTellsx3
import Derived.Lib.Bytes
import Derived.Laws.BitsLemmas
import Derived.DataShut
namespace Go.Proofs.YtachjpkpgbofaaaDoor.Pure
open Go Go.RowKit Go.Proofs.YtachjpkpgbofaaaDoor.PSumTells Go.Proofs.YtachjpkpgbofaaaDoorW.PrintWords Go.Proofs.YtachjpkpgbofaaaDoorW.PrintLast Go.Proofs.YtachjpkpgbofaaaDoorW.PrintMore
set_option linter.unusedVariables false
set_option linter.unusedSimpArgs false
-- plain words on Go's bit operations, lists of bytes, and texts (this repo's own)
theorem fin_u8 {P : Int → Prop} (h : ∀ y : Fin 256, P ((y.val : Nat) : Int)) (x : Int) (h0 : 0 ≤ x) (h1 : x < 256) : P x := by
  obtain ⟨a, rfl⟩ := Int.eq_ofNat_of_zero_le h0
  exact h ⟨a, by omega⟩
theorem u8_and64_zero (x : Int) (h0 : 0 ≤ x) (h1 : x < 256) : (Go.bits .and .u8 x 64 = 0) ↔ x % 128 < 64 := fin_u8 (P := fun x => (Go.bits .and .u8 x 64 = 0) ↔ x % 128 < 64) (by decide +kernel) x h0 h1
theorem u8_and128_zero (x : Int) (h0 : 0 ≤ x) (h1 : x < 256) : (Go.bits .and .u8 x 128 = 0) ↔ x < 128 := fin_u8 (P := fun x => (Go.bits .and .u8 x 128 = 0) ↔ x < 128) (by decide +kernel) x h0 h1
theorem u8_and127 (x : Int) (h0 : 0 ≤ x) (h1 : x < 256) : Go.bits .and .u8 x 127 = x % 128 := fin_u8 (P := fun x => Go.bits .and .u8 x 127 = x % 128) (by decide +kernel) x h0 h1
theorem u8_or128 (x : Int) (h0 : 0 ≤ x) (h1 : x < 128) : Go.bits .or .u8 x 128 = x + 128 := fin_u8 (P := fun x => x < 128 → Go.bits .or .u8 x 128 = x + 128) (by decide +kernel) x h0 (by omega) h1
theorem i64_and127 (x : Int) : Go.bits .and .i64 x 127 = x % 128 := by
  show IntKind.i64.wrap (((BitVec.ofInt 64 x &&& BitVec.ofInt 64 127).toNat : Nat) : Int) = x % 128
  rw [BitVec.toNat_and, BitVec.toNat_ofInt, BitVec.toNat_ofInt, show ((127 : Int) % ((2 ^ 64 : Nat) : Int)).toNat = 2 ^ 7 - 1 from by decide, Nat.and_two_pow_sub_one_eq_mod, Go.IntKind.wrap_i64]
  omega
theorem i64_or_disj (a b : Int) (s : Nat) (hs : s ≤ 63) (ha0 : 0 ≤ a) (ha : a < 2 ^ s) (hb : b % 2 ^ s = 0) : Go.bits .or .i64 a b = wrap64 (a + b) := by
  show IntKind.i64.wrap (((BitVec.ofInt 64 a ||| BitVec.ofInt 64 b).toNat : Nat) : Int) = wrap64 (a + b)
  have hp : (2 : Int) ^ s ≤ 2 ^ 63 := by exact_mod_cast Nat.pow_le_pow_right (by decide) hs
  have h63 : (2 : Int) ^ 63 = 9223372036854775808 := by decide
  have hA : (a % ((2 ^ 64 : Nat) : Int)).toNat = a.toNat := by
    rw [show ((2 ^ 64 : Nat) : Int) = 18446744073709551616 from by decide]; omega
  have hd : (2 : Int) ^ s ∣ ((2 ^ 64 : Nat) : Int) := by
    exact_mod_cast Nat.pow_dvd_pow 2 (by omega : s ≤ 64)
  have hB : (b % ((2 ^ 64 : Nat) : Int)) % 2 ^ s = 0 := by rw [Int.emod_emod_of_dvd _ hd]; exact hb
  have hB0 : 0 ≤ b % ((2 ^ 64 : Nat) : Int) := Int.emod_nonneg _ (by decide)
  obtain ⟨B, hBe⟩ := Int.eq_ofNat_of_zero_le hB0
  have hBm : B % 2 ^ s = 0 := by
    rw [hBe] at hB; exact_mod_cast hB
  have hBq : B = 2 ^ s * (B / 2 ^ s) := by have := Nat.div_add_mod B (2 ^ s); omega
  have hAl : a.toNat < 2 ^ s := by
    have h1 : ((a.toNat : Nat) : Int) = a := Int.toNat_of_nonneg ha0
    have h2 : ((a.toNat : Nat) : Int) < ((2 ^ s : Nat) : Int) := by rw [h1]; exact_mod_cast ha
    exact_mod_cast h2
  rw [BitVec.toNat_or, BitVec.toNat_ofInt, BitVec.toNat_ofInt, hA, hBe, Int.toNat_natCast, Nat.or_comm]
  rw [hBq, ← Nat.two_pow_add_eq_or_of_lt hAl, ← hBq, Go.IntKind.wrap_i64]
  unfold wrap64
  have h1 : ((a.toNat : Nat) : Int) = a := Int.toNat_of_nonneg ha0
  rw [show ((2 ^ 64 : Nat) : Int) = 18446744073709551616 from by decide] at hBe
  omega
theorem wf_u8 {x : Int} (h : (Lit.int .u8 x).wf = true) : 0 ≤ x ∧ x < 256 := by
  have := (Lit.wf_int_iff .u8 x).1 h; simp [IntKind.min, IntKind.max, IntKind.signed, IntKind.bits] at this; omega
theorem wf_i64 {x : Int} (h : (Lit.int .i64 x).wf = true) : -9223372036854775808 ≤ x ∧ x ≤ 9223372036854775807 := by
  have := (Lit.wf_int_iff .i64 x).1 h; simp [IntKind.min, IntKind.max, IntKind.signed, IntKind.bits] at this; omega
theorem strOf_toList (xs : List Int) : (strOfNums xs).toList = xs.map fun n => UInt8.ofNat n.toNat := Go.Lib.strOfNums_toList xs
theorem strOf_inj {a b : List Int} (ha : ∀ x ∈ a, 0 ≤ x ∧ x < 256) (hb : ∀ x ∈ b, 0 ≤ x ∧ x < 256) : (strOfNums a).toList = (strOfNums b).toList ↔ a = b := by
  rw [strOf_toList, strOf_toList]
  constructor
  · intro h
    induction a generalizing b with
    | nil => cases b with
      | nil => rfl
      | cons y ys => simp at h
    | cons x xs ih => cases b with
      | nil => simp at h
      | cons y ys =>
        simp only [List.map_cons, List.cons.injEq] at h
        obtain ⟨h1, h2⟩ := h
        have hx := ha x (by simp)
        have hy := hb y (by simp)
        have e : x = y := by
          have h3 := congrArg UInt8.toNat h1
          simp only [UInt8.toNat_ofNat'] at h3
          omega
        rw [e, ih (fun z hz => ha z (by simp [hz])) (fun z hz => hb z (by simp [hz])) h2]
  · intro h; rw [h]

-- the sum of bytes: what sum.Of comes to, byte by byte (this repo's own)
open Go.Proofs.YtachjpkpgbofaaaDoor.Chunk
def ad (s : Int × Int) (c : Int) : Int × Int := ((s.1 + c) % 65521, (s.2 + s.1 + c) % 65521)
def By (l : List Int) : Prop := ∀ x ∈ l, 0 ≤ x ∧ x < 256
def Red (s : Int × Int) : Prop := 0 ≤ s.1 ∧ s.1 < 65521 ∧ 0 ≤ s.2 ∧ s.2 < 65521
theorem ad_red (s : Int × Int) (c : Int) : Red (ad s c) := by unfold Red ad; simp only []; omega
theorem ads_red : ∀ (l : List Int) (s : Int × Int), Red s → Red (l.foldl ad s)
  | [], s, h => h
  | c :: l, s, _ => ads_red l (ad s c) (ad_red s c)
def tri : Nat → Nat
  | 0 => 0
  | k + 1 => tri k + (k + 1)
theorem tri_le : ∀ k, 2 * tri k = k * (k + 1)
  | 0 => rfl
  | k + 1 => by have h := tri_le k; unfold tri; rw [Nat.mul_add, h, ← Nat.add_mul]; exact Nat.mul_comm _ _
theorem tri_5000 (k : Nat) (h : k ≤ 5000) : tri k ≤ 12502500 := by
  have h1 := tri_le k
  have h2 : k * (k + 1) ≤ 5000 * 5001 := Nat.mul_le_mul h (by omega)
  omega
theorem steps_ad : ∀ (l : List Int) (k : Nat) (t r : Int × Int), By l → k + l.length ≤ 5000 → 0 ≤ t.1 → t.1 ≤ 65520 + 255 * (k : Int) → 0 ≤ t.2 → t.2 ≤ 65520 + 65520 * (k : Int) + 255 * (tri k : Int) → t.1 % 65521 = r.1 → t.2 % 65521 = r.2 →
    (l.foldl Chunk.step t).1 % 65521 = (l.foldl ad r).1 ∧ (l.foldl Chunk.step t).2 % 65521 = (l.foldl ad r).2 := by
  intro l
  induction l with
  | nil => intro k t r _ _ _ _ _ _ h1 h2; exact ⟨h1, h2⟩
  | cons c l ih =>
    intro k t r hb hk a0 a1 b0 b1 h1 h2
    obtain ⟨c0, c1⟩ := hb c (by simp)
    have hl : k + 1 + l.length ≤ 5000 := by simp only [List.length_cons] at hk; omega
    have ht := tri_5000 (k + 1) (by omega)
    have htk : tri (k + 1) = tri k + (k + 1) := rfl
    have e : Chunk.step t c = (t.1 + c, t.2 + (t.1 + c)) := by
      unfold Chunk.step
      rw [Int.emod_eq_of_lt (by omega) (by omega), Int.emod_eq_of_lt (by omega) (by omega)]
    rw [List.foldl_cons, List.foldl_cons, e]
    refine ih (k + 1) _ _ (fun x hx => hb x (by simp [hx])) hl ?_ ?_ ?_ ?_ ?_ ?_
    · simp only []; omega
    · simp only []; omega
    · simp only []; omega
    · simp only []; omega
    · show (t.1 + c) % 65521 = (r.1 + c) % 65521
      omega
    · show (t.2 + (t.1 + c)) % 65521 = (r.2 + r.1 + c) % 65521
      omega
theorem chunk_ad (s : Int × Int) (hs : Red s) (l : List Int) (hb : By l) (hl : l.length ≤ 5000) : chunkS s l = l.foldl ad s := by
  obtain ⟨s1, s2, s3, s4⟩ := hs
  have h := steps_ad l 0 s s hb (by omega) s1 (by omega) s3 (by simp [tri]; omega) (Int.emod_eq_of_lt s1 s2) (Int.emod_eq_of_lt s3 s4)
  unfold chunkS
  simp only [h.1, h.2]
theorem piece_ad (p : List Int) (hb : By p) (s : Int × Int) (hs : Red s) : ∀ k, (upto (run_ p.length) k).foldl (fun s x => chunkS s (Chunk.part p x.1)) s = (p.take (min (5000 * k) p.length)).foldl ad s := by
  intro k
  induction k with
  | zero => simp [upto]
  | succ k ih =>
    have e : p.take (min (5000 * (k + 1)) p.length) = p.take (min (5000 * k) p.length) ++ Chunk.part p (run_ p.length k).1 := by
      unfold Chunk.part run_
      simp only []
      rw [show min (5000 * (k + 1)) p.length = min (5000 * k) p.length + min 5000 (p.length - 5000 * k) by omega, List.take_add]
    have hp : By (Chunk.part p (run_ p.length k).1) := fun x hx => hb x (List.mem_of_mem_drop (List.mem_of_mem_take hx))
    have hl : (Chunk.part p (run_ p.length k).1).length ≤ 5000 := by
      unfold Chunk.part run_
      simp only [List.length_take, List.length_drop]
      omega
    rw [upto_succ, List.foldl_append, ih, e, List.foldl_append]
    exact chunk_ad _ (ads_red _ _ hs) _ hp hl
theorem pieceS_ad (p : List Int) (hb : By p) (s : Int × Int) (hs : Red s) : pieceS s p = p.foldl ad s := by
  unfold pieceS
  rw [piece_ad p hb s hs, List.take_of_length_le]
  unfold rounds_
  omega
theorem pieces_ad : ∀ (l : List (List Int)) (s : Int × Int), (∀ p ∈ l, By p) → Red s → l.foldl pieceS s = l.flatten.foldl ad s
  | [], s, _, _ => rfl
  | p :: l, s, hb, hs => by
    rw [List.foldl_cons, pieceS_ad p (hb p (by simp)) s hs, List.flatten_cons, List.foldl_append]
    exact pieces_ad l _ (fun q hq => hb q (by simp [hq])) (ads_red _ _ hs)
theorem red0 : Red (1, 0) := by unfold Red; simp
theorem u32_or (x y : Int) (x0 : 0 ≤ x) (x1 : x < 65536) (y0 : 0 ≤ y) (y1 : y < 65536) : Go.bits .or .u32 (x * 65536 % 4294967296) y = x * 65536 + y := by
  obtain ⟨a, rfl⟩ := Int.eq_ofNat_of_zero_le x0
  obtain ⟨b, rfl⟩ := Int.eq_ofNat_of_zero_le y0
  show IntKind.u32.wrap (((BitVec.ofInt 32 ((a : Int) * 65536 % 4294967296) ||| BitVec.ofInt 32 (b : Int)).toNat : Nat) : Int) = _
  have hb : b < 2 ^ 16 := by omega
  have e1 : ((a : Int) * 65536 % 4294967296 % ((2 ^ 32 : Nat) : Int)).toNat = 2 ^ 16 * a := by
    rw [show ((2 ^ 32 : Nat) : Int) = 4294967296 from by decide]; omega
  have e2 : ((b : Int) % ((2 ^ 32 : Nat) : Int)).toNat = b := by
    rw [show ((2 ^ 32 : Nat) : Int) = 4294967296 from by decide]; omega
  rw [BitVec.toNat_or, BitVec.toNat_ofInt, BitVec.toNat_ofInt, e1, e2, ← Nat.two_pow_add_eq_or_of_lt hb]
  simp only [IntKind.wrap, IntKind.bits, IntKind.signed]
  simp only [Bool.false_and, Bool.false_eq_true, if_false]
  omega
def fin_ (t : Int × Int) : Int := t.2 * 65536 + t.1
theorem ofS_ad (l : List (List Int)) (hb : ∀ p ∈ l, By p) : ofS l = fin_ (l.flatten.foldl ad (1, 0)) := by
  have h := ads_red l.flatten (1, 0) red0
  unfold Red at h
  unfold ofS
  rw [pieces_ad l (1, 0) hb red0]
  exact u32_or _ _ h.2.2.1 (by omega) h.1 (by omega)
theorem fin_inj {s t : Int × Int} (hs : Red s) (ht : Red t) : fin_ s = fin_ t ↔ s = t := by
  obtain ⟨a, b⟩ := s
  obtain ⟨c, d⟩ := t
  unfold Red at hs ht
  unfold fin_
  simp only [Prod.mk.injEq] at *
  constructor <;> intro h <;> omega
theorem of_f (l : List (List Int)) (hb : ∀ p ∈ l, By p) (hl : ∀ p ∈ l, p.length ≤ 140737488351232) : sum_Of.f l = some (fin_ (l.flatten.foldl ad (1, 0))) := by
  rw [sum_Of.f, if_pos (List.all_eq_true.2 fun p hp => decide_eq_true (hl p hp)), ofS_ad l hb]
theorem wrap_in {x : Int} (h1 : -9223372036854775808 ≤ x) (h2 : x ≤ 9223372036854775807) : wrap64 x = x := by unfold wrap64; omega
theorem wrap_nat (x : Int) (n : Nat) (h : x = (n : Int)) (hn : n ≤ 1000000000000) : wrap64 x = (n : Int) := by
  subst h
  exact wrap_in (by omega) (by omega)
theorem lift_ {α : Type} {f : Nat → Option α} {k k' : Nat} {r : α} (hm : ∀ j, LeO (f j) (f (j + 1))) (h : f k = some r) (hk : k ≤ k') : f k' = some r := by
  obtain ⟨d, rfl⟩ : ∃ d, k' = k + d := ⟨k' - k, by omega⟩
  clear hk
  induction d with
  | zero => exact h
  | succ d ih => exact hm (k + d) r ih

def Sm (l : List Int) : Int := fin_ (l.foldl ad (1, 0))
def tail4 (s : Int) : List Int := [(s / 16777216) % 256, (s / 65536) % 256, (s / 256) % 256, s % 256]
theorem Sm_rng (l : List Int) : 0 ≤ Sm l ∧ Sm l < 4294967296 := by
  have h := ads_red l (1, 0) red0
  unfold Red at h
  unfold Sm fin_
  omega
theorem tail4_by (s : Int) : By (tail4 s) := by
  intro x hx
  simp only [tail4, List.mem_cons, List.not_mem_nil, or_false] at hx
  omega
theorem By_append {a b : List Int} (ha : By a) (hb : By b) : By (a ++ b) := by
  intro x hx
  rcases List.mem_append.1 hx with h | h
  · exact ha x h
  · exact hb x h
theorem By_take {a : List Int} (ha : By a) (n : Nat) : By (a.take n) := fun x hx => ha x (List.mem_of_mem_take hx)
theorem rdn (l : List Int) (i : Nat) (h : i < l.length) : rd l (i : Int) = l[i] := by simp [rd, h]
theorem of_one (l : List Int) (hb : By l) (hn : l.length ≤ 100000) : sum_Of.f [l] = some (Sm l) := by
  rw [of_f [l] (fun p hp => by simp at hp; subst hp; exact hb) (fun p hp => by simp at hp; subst hp; omega)]
  simp [Sm]
theorem of_two (a b : List Int) (ha : By a) (hb : By b) (hn : a.length ≤ 100000) (hm : b.length ≤ 100000) : sum_Of.f [a, b] = some (Sm (a ++ b)) := by
  rw [of_f [a, b] (fun p hp => by simp at hp; rcases hp with rfl | rfl; exact ha; exact hb) (fun p hp => by simp at hp; rcases hp with rfl | rfl <;> omega)]
  simp [Sm]
theorem clone5 (l : List Int) (hn : l.length ≤ 100000) : slices_Clone_byte_byte.f l = some l := by
  rw [slices_Clone_byte_byte.f, Option.bind_some, if_pos (show ([] : List Int).length + l.length < 140737488355328 from (by simp only [List.length_nil]; omega)), List.nil_append]
theorem seal_f (l : List Int) (hb : By l) (hn : l.length ≤ 100000) : sum_Seal.f l = some (l ++ tail4 (Sm l)) := by
  rw [sum_Seal.f, of_one l hb hn, Option.bind_some, clone5 l hn, Option.bind_some, Option.bind_some, if_pos (by simp only [List.length_cons, List.length_nil]; omega)]
  rfl
theorem equal_l0 (a b : List Int) (he : a.length = b.length) (hn : a.length ≤ 100000) : ∀ (m i k : Nat), i + m = a.length → m < k → slices_Equal_byte_byte.l0 k a b (a.length : Int) (i : Int) = some (decide (a.drop i = b.drop i)) := by
  intro m
  induction m with
  | zero =>
    intro i k h1 h2
    obtain ⟨k, rfl⟩ : ∃ q, k = q + 1 := ⟨k - 1, by omega⟩
    rw [slices_Equal_byte_byte.l0, if_neg (by omega), List.drop_of_length_le (by omega), List.drop_of_length_le (by omega)]
    rfl
  | succ m ih =>
    intro i k h1 h2
    obtain ⟨k, rfl⟩ : ∃ q, k = q + 1 := ⟨k - 1, by omega⟩
    have hi : i < a.length := by omega
    have hj : i < b.length := by omega
    have w4 : wrap64 ((i : Int) + 1) = ((i + 1 : Nat) : Int) := wrap_nat _ _ (by omega) (by omega)
    rw [slices_Equal_byte_byte.l0, if_pos (by omega), if_pos (by omega), if_pos (by omega), if_pos (by omega), rdn a i hi, rdn b i hj, w4, List.drop_eq_getElem_cons hi, List.drop_eq_getElem_cons hj]
    by_cases h : a[i] = b[i]
    · rw [if_pos h, ih (i + 1) k (by omega) (by omega)]
      simp only [List.cons.injEq, h, true_and]
    · rw [if_neg h]
      simp only [List.cons.injEq, h, false_and, decide_false]
theorem equal_f (a b : List Int) (hn : a.length ≤ 100000) (k : Nat) (hk : a.length < k) : slices_Equal_byte_byte.f k a b = some (decide (a = b)) := by
  rw [slices_Equal_byte_byte.f]
  by_cases h : a.length = b.length
  · rw [if_pos (by omega)]
    have h2 := equal_l0 a b h hn a.length 0 k (by omega) hk
    simpa using h2
  · rw [if_neg (by omega)]
    have : a ≠ b := fun e => h (by rw [e])
    simp [this]
theorem open_f (k : Nat) (l : List Int) (hb : By l) (hn : l.length ≤ 90000) (hk : l.length + 10 < k) : sum_Open.f k l = some (if l.length < 4 then ([], some 2) else if l.take (l.length - 4) ++ tail4 (Sm (l.take (l.length - 4))) = l then (l.take (l.length - 4), none) else ([], some 5)) := by
  have w : wrap64 ((l.length : Int) - 4) = (l.length : Int) - 4 := wrap_in (by omega) (by omega)
  rw [sum_Open.f, w]
  by_cases h : l.length < 4
  · rw [if_pos (by omega), if_pos h]
  · have e : ((l.length : Int) - 4).toNat = l.length - 4 := by omega
    have hl : (l.take (l.length - 4)).length = l.length - 4 := by rw [List.length_take]; omega
    rw [if_neg (by omega), if_neg h, if_pos (by omega), if_pos (by omega), e, clone5 _ (by omega), Option.bind_some, seal_f _ (By_take hb _) (by omega), Option.bind_some, equal_f _ _ (by simp [tail4]; omega) k (by simp [tail4]; omega), Option.bind_some]
    simp only [decide_eq_true_eq]
    split <;> rfl

theorem ref_l0 (l : List Int) (hb : By l) (hn : l.length ≤ 100000) : ∀ (m i k : Nat) (s : Int × Int), i + m = l.length → m < k → Red s → colloquyref05_Of.l0 k l s.1 s.2 (i : Int) = some (fin_ ((l.drop i).foldl ad s)) := by
  intro m
  induction m with
  | zero =>
    intro i k s h1 h2 hs
    obtain ⟨k, rfl⟩ : ∃ q, k = q + 1 := ⟨k - 1, by omega⟩
    obtain ⟨h3, h4, h5, h6⟩ := hs
    have w1 : wrap64 (s.2 * 65536) = s.2 * 65536 := wrap_in (by omega) (by omega)
    have w2 : wrap64 (s.2 * 65536 + s.1) = s.2 * 65536 + s.1 := wrap_in (by omega) (by omega)
    rw [colloquyref05_Of.l0, if_neg (by omega), w1, w2, List.drop_of_length_le (by omega)]
    simp only [List.foldl_nil, fin_]
    congr 1
    omega
  | succ m ih =>
    intro i k s h1 h2 hs
    obtain ⟨k, rfl⟩ : ∃ q, k = q + 1 := ⟨k - 1, by omega⟩
    obtain ⟨h3, h4, h5, h6⟩ := hs
    have hi : i < l.length := by omega
    have f1 : (i : Int) < (l.length : Int) := by omega
    have f2 : (0 : Int) ≤ (i : Int) := by omega
    have q1 : (i + 1) + m = l.length := by omega
    have q2 : m < k := by omega
    have w4 : wrap64 ((i : Int) + 1) = ((i + 1 : Nat) : Int) := wrap_nat _ _ (by omega) (by omega)
    obtain ⟨c0, c1⟩ := hb _ (List.getElem_mem hi)
    have w1 : wrap64 (l[i]) = l[i] := wrap_in (by omega) (by omega)
    have w2 : wrap64 (s.1 + l[i]) = s.1 + l[i] := wrap_in (by omega) (by omega)
    have e1 : Int.tmod (s.1 + l[i]) 65521 = (s.1 + l[i]) % 65521 := Int.tmod_eq_emod_of_nonneg (by omega)
    have w3 : wrap64 (s.2 + (s.1 + l[i]) % 65521) = s.2 + (s.1 + l[i]) % 65521 := wrap_in (by omega) (by omega)
    have e2 : Int.tmod (s.2 + (s.1 + l[i]) % 65521) 65521 = (s.2 + s.1 + l[i]) % 65521 := by rw [Int.tmod_eq_emod_of_nonneg (by omega)]; omega
    have nx : colloquyref05_Of.l0 k l ((s.1 + l[i]) % 65521) ((s.2 + s.1 + l[i]) % 65521) ((i + 1 : Nat) : Int) = some (fin_ ((l.drop (i + 1)).foldl ad (ad s l[i]))) := by
      have q3 := ad_red s l[i]
      have q4 := ih (i + 1) k (ad s l[i]) q1 q2 q3
      exact q4
    rw [colloquyref05_Of.l0, if_pos f1, if_pos f2, rdn l i hi, w1, w2, e1, w3, e2, w4, List.drop_eq_getElem_cons hi, List.foldl_cons]
    exact nx
theorem ref_f (l : List Int) (hb : By l) (hn : l.length ≤ 100000) (k : Nat) (hk : l.length < k) : colloquyref05_Of.f k l = some (Sm l) := by
  have h := ref_l0 l hb hn l.length 0 k (1, 0) (by omega) hk red0
  rw [List.drop_zero] at h
  exact h
theorem rseal_f (k : Nat) (l : List Int) (hb : By l) (hn : l.length ≤ 90000) (hk : l.length < k) : colloquyref05_Seal.f k l = some (l ++ tail4 (Sm l)) := by
  have hs := Sm_rng l
  have e1 : Int.tdiv (Sm l) 16777216 = Sm l / 16777216 := Int.tdiv_eq_ediv_of_nonneg hs.1
  have e2 : Int.tdiv (Sm l) 65536 = Sm l / 65536 := Int.tdiv_eq_ediv_of_nonneg hs.1
  have e3 : Int.tdiv (Sm l) 256 = Sm l / 256 := Int.tdiv_eq_ediv_of_nonneg hs.1
  have e4 : Int.tmod (Sm l) 256 = Sm l % 256 := Int.tmod_eq_emod_of_nonneg hs.1
  rw [colloquyref05_Seal.f, ref_f l hb (by omega) k hk, Option.bind_some, if_pos (show ([] : List Int).length + l.length < 140737488355328 from (by simp only [List.length_nil]; omega)), Option.bind_some, Option.bind_some, List.nil_append, if_pos (by simp only [List.length_cons, List.length_nil]; omega), e1, e2, e3, e4]
  have f1 : Sm l / 16777216 % 4294967296 % 256 = Sm l / 16777216 % 256 := by omega
  have f2 : Sm l / 65536 % 4294967296 % 256 = Sm l / 65536 % 256 := by omega
  have f3 : Sm l / 256 % 4294967296 % 256 = Sm l / 256 % 256 := by omega
  have f4 : Sm l % 256 % 256 = Sm l % 256 := by omega
  rw [f1, f2, f3, f4]
  rfl
theorem ropen_f (k : Nat) (l : List Int) (hb : By l) (hn : l.length ≤ 90000) (hk : l.length < k) : colloquyref05_Open.f k l = some (if l.length < 4 then ([], 2) else if l.take (l.length - 4) ++ tail4 (Sm (l.take (l.length - 4))) = l then (l.take (l.length - 4), 0) else ([], 5)) := by
  have w : wrap64 ((l.length : Int) - 4) = (l.length : Int) - 4 := wrap_in (by omega) (by omega)
  rw [colloquyref05_Open.f, w]
  by_cases h : l.length < 4
  · rw [if_pos (by omega), if_pos h]
  · have e : ((l.length : Int) - 4).toNat = l.length - 4 := by omega
    have hl : (l.take (l.length - 4)).length = l.length - 4 := by rw [List.length_take]; omega
    rw [if_neg (by omega), if_neg h, if_pos (by omega), if_pos (by omega), e, rseal_f k _ (By_take hb _) (by omega) (by omega), Option.bind_some]
    have i := strOf_inj (a := l.take (l.length - 4) ++ tail4 (Sm (l.take (l.length - 4)))) (b := l) (By_append (By_take hb _) (tail4_by _)) hb
    by_cases g : l.take (l.length - 4) ++ tail4 (Sm (l.take (l.length - 4))) = l
    · rw [if_pos (i.2 g), if_pos g]
    · rw [if_neg (fun x => g (i.1 x)), if_neg g]
theorem SumTells : colloquylaw05_SumTells.Pure := by
  intro a b h1 h2 hw h3 h4 hv
  have ha : By a := fun x hx => wf_u8 (hw x hx)
  have hb : By b := fun x hx => wf_u8 (hv x hx)
  refine ⟨2000, ?_⟩
  have w : wrap64 ((a.length : Int) + (b.length : Int)) = (a.length : Int) + (b.length : Int) := wrap_in (by unfold maxLen at *; omega) (by unfold maxLen at *; omega)
  have hS : colloquylaw05_sure.f = some true := rfl
  rw [colloquylaw05_SumTells.f, w]
  by_cases g : (a.length : Int) + (b.length : Int) > 600
  · rw [if_pos g, hS]; rfl
  have hab : By (a ++ b) := By_append ha hb
  have hl : (a ++ b).length = a.length + b.length := List.length_append
  rw [if_neg g, Option.bind_some, if_pos (show ([] : List Int).length + a.length < 140737488355328 from (by simp only [List.length_nil]; omega)), Option.bind_some, List.nil_append, if_pos (by omega), Option.bind_some, open_f 2000 b hb (by omega) (by omega), Option.bind_some, ropen_f 2000 b hb (by omega) (by omega), Option.bind_some, of_one _ hab (by omega), Option.bind_some, ref_f _ hab (by omega) 2000 (by omega), Option.bind_some, if_pos rfl, of_two a b ha hb (by omega) (by omega), Option.bind_some, Option.bind_some, if_pos rfl, seal_f a ha (by omega), Option.bind_some, rseal_f 2000 a ha (by omega) (by omega), Option.bind_some, if_pos rfl]
  by_cases q : b.length < 4
  · rw [if_pos q, if_pos q, if_pos rfl]
    rfl
  · rw [if_neg q, if_neg q]
    by_cases e : b.take (b.length - 4) ++ tail4 (Sm (b.take (b.length - 4))) = b
    · rw [if_pos e, if_pos e, if_pos rfl]
      rfl
    · rw [if_neg e, if_neg e, if_pos rfl]
      rfl

end Go.Proofs.YtachjpkpgbofaaaDoor.Pure
