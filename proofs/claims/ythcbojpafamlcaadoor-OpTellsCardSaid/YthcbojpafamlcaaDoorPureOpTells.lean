/-
  The plain law of OpTells: what the law's Go functions compute, as lists and numbers, answers true at every input. Condition: none beyond the numbers' kinds and the slices' bounds.
-/
import Derived.Test.YthcbojpafamlcaaDoorPOpTellsx0
import Derived.Test.YthcbojpafamlcaaDoorPOpTellsx1
import Derived.Test.YthcbojpafamlcaaDoorPOpTellsx2
import Derived.Test.YthcbojpafamlcaaDoorPOpTellsx3
import Derived.Test.YthcbojpafamlcaaDoorPOpTellsx4
import Derived.Test.YthcbojpafamlcaaDoorPOpTellsx5
import Derived.Test.YthcbojpafamlcaaDoorPOpTellsx6
import Derived.Test.YthcbojpafamlcaaDoorPOpTellsx7
import Derived.Test.YthcbojpafamlcaaDoorPOpTellsx8
import Derived.Test.YthcbojpafamlcaaDoorPOpTellsx9
import Derived.Lib.Bytes
import Derived.Laws.BitsLemmas
import Derived.DataShut
namespace Go.Proofs.YthcbojpafamlcaaDoor.Pure
open Go Go.RowKit Go.Proofs.YthcbojpafamlcaaDoor.POpTells Go.Proofs.YthcbojpafamlcaaDoorW.PrintWords Go.Proofs.YthcbojpafamlcaaDoorW.PrintLast Go.Proofs.YthcbojpafamlcaaDoorW.PrintMore
set_option linter.unusedVariables false
set_option linter.unusedSimpArgs false
-- plain words on Go's bit operations, lists of bytes, and texts (this repo's own)
theorem fin_u8 {P : Int → Prop} (h : ∀ y : Fin 256, P ((y.val : Nat) : Int)) (x : Int) (h0 : 0 ≤ x) (h1 : x < 256) : P x := by
  obtain ⟨a, rfl⟩ := Int.eq_ofNat_of_zero_le h0
  exact h ⟨a, by omega⟩
theorem u8_and64_zero (x : Int) (h0 : 0 ≤ x) (h1 : x < 256) : (Go.bits .and .u8 x 64 = 0) ↔ x % 128 < 64 := fin_u8 (P := fun x => (Go.bits .and .u8 x 64 = 0) ↔ x % 128 < 64) (by decide +kernel) x h0 h1
theorem u8_and128_zero (x : Int) (h0 : 0 ≤ x) (h1 : x < 256) : (Go.bits .and .u8 x 128 = 0) ↔ x < 128 := fin_u8 (P := fun x => (Go.bits .and .u8 x 128 = 0) ↔ x < 128) (by decide +kernel) x h0 h1
theorem u8_and127 (x : Int) (h0 : 0 ≤ x) (h1 : x < 256) : Go.bits .and .u8 x 127 = x % 128 := fin_u8 (P := fun x => Go.bits .and .u8 x 127 = x % 128) (by decide +kernel) x h0 h1
theorem u8_or128 (x : Int) (h0 : 0 ≤ x) (h1 : x < 128) : Go.bits .or .u8 x 128 = x + 128 := fin_u8 (P := fun x => x < 128 → Go.bits .or .u8 x 128 = x + 128) (by decide +kernel) x h0 (by omega) h1
theorem i64_and127 (x : Int) : Go.bits .and .i64 x 127 = x % 128 := by
  show IntKind.i64.wrap (((BitVec.ofInt 64 x &&& BitVec.ofInt 64 127).toNat : Nat) : Int) = x % 128
  rw [BitVec.toNat_and, BitVec.toNat_ofInt, BitVec.toNat_ofInt, show ((127 : Int) % ((2 ^ 64 : Nat) : Int)).toNat = 2 ^ 7 - 1 from by decide, Nat.and_two_pow_sub_one_eq_mod, Go.IntKind.wrap_i64]
  omega
theorem i64_or_disj (a b : Int) (s : Nat) (hs : s ≤ 63) (ha0 : 0 ≤ a) (ha : a < 2 ^ s) (hb : b % 2 ^ s = 0) : Go.bits .or .i64 a b = wrap64 (a + b) := by
  show IntKind.i64.wrap (((BitVec.ofInt 64 a ||| BitVec.ofInt 64 b).toNat : Nat) : Int) = wrap64 (a + b)
  have hp : (2 : Int) ^ s ≤ 2 ^ 63 := by exact_mod_cast Nat.pow_le_pow_right (by decide) hs
  have h63 : (2 : Int) ^ 63 = 9223372036854775808 := by decide
  have hA : (a % ((2 ^ 64 : Nat) : Int)).toNat = a.toNat := by
    rw [show ((2 ^ 64 : Nat) : Int) = 18446744073709551616 from by decide]; omega
  have hd : (2 : Int) ^ s ∣ ((2 ^ 64 : Nat) : Int) := by
    exact_mod_cast Nat.pow_dvd_pow 2 (by omega : s ≤ 64)
  have hB : (b % ((2 ^ 64 : Nat) : Int)) % 2 ^ s = 0 := by rw [Int.emod_emod_of_dvd _ hd]; exact hb
  have hB0 : 0 ≤ b % ((2 ^ 64 : Nat) : Int) := Int.emod_nonneg _ (by decide)
  obtain ⟨B, hBe⟩ := Int.eq_ofNat_of_zero_le hB0
  have hBm : B % 2 ^ s = 0 := by
    rw [hBe] at hB; exact_mod_cast hB
  have hBq : B = 2 ^ s * (B / 2 ^ s) := by have := Nat.div_add_mod B (2 ^ s); omega
  have hAl : a.toNat < 2 ^ s := by
    have h1 : ((a.toNat : Nat) : Int) = a := Int.toNat_of_nonneg ha0
    have h2 : ((a.toNat : Nat) : Int) < ((2 ^ s : Nat) : Int) := by rw [h1]; exact_mod_cast ha
    exact_mod_cast h2
  rw [BitVec.toNat_or, BitVec.toNat_ofInt, BitVec.toNat_ofInt, hA, hBe, Int.toNat_natCast, Nat.or_comm]
  rw [hBq, ← Nat.two_pow_add_eq_or_of_lt hAl, ← hBq, Go.IntKind.wrap_i64]
  unfold wrap64
  have h1 : ((a.toNat : Nat) : Int) = a := Int.toNat_of_nonneg ha0
  rw [show ((2 ^ 64 : Nat) : Int) = 18446744073709551616 from by decide] at hBe
  omega
theorem wf_u8 {x : Int} (h : (Lit.int .u8 x).wf = true) : 0 ≤ x ∧ x < 256 := by
  have := (Lit.wf_int_iff .u8 x).1 h; simp [IntKind.min, IntKind.max, IntKind.signed, IntKind.bits] at this; omega
theorem wf_i64 {x : Int} (h : (Lit.int .i64 x).wf = true) : -9223372036854775808 ≤ x ∧ x ≤ 9223372036854775807 := by
  have := (Lit.wf_int_iff .i64 x).1 h; simp [IntKind.min, IntKind.max, IntKind.signed, IntKind.bits] at this; omega
theorem strOf_toList (xs : List Int) : (strOfNums xs).toList = xs.map fun n => UInt8.ofNat n.toNat := Go.Lib.strOfNums_toList xs
theorem strOf_inj {a b : List Int} (ha : ∀ x ∈ a, 0 ≤ x ∧ x < 256) (hb : ∀ x ∈ b, 0 ≤ x ∧ x < 256) : (strOfNums a).toList = (strOfNums b).toList ↔ a = b := by
  rw [strOf_toList, strOf_toList]
  constructor
  · intro h
    induction a generalizing b with
    | nil => cases b with
      | nil => rfl
      | cons y ys => simp at h
    | cons x xs ih => cases b with
      | nil => simp at h
      | cons y ys =>
        simp only [List.map_cons, List.cons.injEq] at h
        obtain ⟨h1, h2⟩ := h
        have hx := ha x (by simp)
        have hy := hb y (by simp)
        have e : x = y := by
          have h3 := congrArg UInt8.toNat h1
          simp only [UInt8.toNat_ofNat'] at h3
          omega
        rw [e, ih (fun z hz => ha z (by simp [hz])) (fun z hz => hb z (by simp [hz])) h2]
  · intro h; rw [h]

-- instructions and their bytes, as lists (this repo's own)
def wd (c : Int) : Option (Nat × Nat) :=
  if c = 4 ∨ c = 7 ∨ c = 8 ∨ c = 16 ∨ c = 20 then some (1, 0) else if c = 5 ∨ c = 6 ∨ c = 11 ∨ c = 12 then some (1, 1) else if c = 13 then some (2, 0) else if c = 14 then some (2, 2) else if 0 ≤ c ∧ c < 21 then some (0, 0) else none
def be : Nat → Int → List Int
  | 0, _ => []
  | w + 1, n => (n / 256 ^ w % 256) :: be w n
def num (l : List Int) : Int := l.foldl (fun n c => n * 256 + c) 0
theorem be_length (w : Nat) (n : Int) : (be w n).length = w := by
  induction w with
  | zero => rfl
  | succ w ih => simp [be, ih]
theorem be_bytes (w : Nat) (n : Int) : ∀ x ∈ be w n, 0 ≤ x ∧ x < 256 := by
  induction w with
  | zero => intro x hx; simp [be] at hx
  | succ w ih =>
    intro x hx
    rcases List.mem_cons.1 hx with e | e
    · omega
    · exact ih x e
theorem wd_le {c : Int} {w : Nat × Nat} (h : wd c = some w) : w.1 ≤ 2 ∧ w.2 ≤ 2 := by
  unfold wd at h
  repeat' (split at h)
  all_goals first | (cases h; exact ⟨by decide, by decide⟩) | simp at h
theorem wd_range {c : Int} {w : Nat × Nat} (h : wd c = some w) : 0 ≤ c ∧ c < 21 := by
  unfold wd at h
  repeat' (split at h)
  all_goals first | omega | simp at h
theorem num_be (w : Nat) (hw : w ≤ 2) (n : Int) (h0 : 0 ≤ n) (h1 : n < 256 ^ w) : num (be w n) = n := by
  match w, hw with
  | 0, _ => simp [be, num] at h1 ⊢; omega
  | 1, _ => simp [be, num] at h1 ⊢; omega
  | 2, _ => simp [be, num] at h1 ⊢; omega
theorem be_num (w : Nat) (hw : w ≤ 2) (l : List Int) (hl : l.length = w) (hb : ∀ x ∈ l, 0 ≤ x ∧ x < 256) : be w (num l) = l ∧ 0 ≤ num l ∧ num l < 256 ^ w := by
  match w, hw, l, hl with
  | 0, _, [], _ => simp [be, num]
  | 1, _, [x], _ =>
    have := hb x (by simp)
    simp [be, num]; omega
  | 2, _, [x, y], _ =>
    have h1 := hb x (by simp)
    have h2 := hb y (by simp)
    simp [be, num]; omega
/-- an instruction: its number and what stands behind it -/
structure O where
  c : Int
  a : Int
  b : Int
deriving DecidableEq
def fit (w : Nat) (n : Int) : Prop := 0 ≤ n ∧ n < 256 ^ w
instance (w : Nat) (n : Int) : Decidable (fit w n) := by unfold fit; infer_instance
def enc1 (o : O) : Option (List Int) := match wd o.c with
  | none => none
  | some w => if fit w.1 o.a ∧ fit w.2 o.b then some (o.c :: be w.1 o.a ++ be w.2 o.b) else none
def encs : List O → Option (List Int)
  | [] => some []
  | o :: r => (enc1 o).bind fun x => (encs r).map (x ++ ·)
def sz (o : O) : Nat := match wd o.c with
  | none => 0
  | some w => 1 + w.1 + w.2
def dec (b : List Int) : Option (List O) := match b with
  | [] => some []
  | c :: r => match wd c with
    | none => none
    | some w => if w.1 + w.2 ≤ r.length then (dec (r.drop (w.1 + w.2))).map (⟨c, num (r.take w.1), num ((r.drop w.1).take w.2)⟩ :: ·) else none
termination_by b.length
decreasing_by simp [List.length_drop]; omega
def pos (i : Nat) : List O → List Int
  | [] => []
  | o :: r => (i : Int) :: pos (i + sz o) r
def tot : List O → Nat
  | [] => 0
  | o :: r => sz o + tot r
theorem pos_length (l : List O) : ∀ i, (pos i l).length = l.length := by
  induction l with
  | nil => intro i; rfl
  | cons o r ih => intro i; simp [pos, ih]
theorem enc1_len {o : O} {x : List Int} (h : enc1 o = some x) : x.length = sz o ∧ 1 ≤ sz o ∧ sz o ≤ 5 := by
  unfold enc1 at h
  unfold sz
  split at h
  · simp at h
  · rename_i w hw
    have := wd_le hw
    split at h
    · simp only [Option.some.injEq] at h
      subst h
      simp [be_length]; omega
    · simp at h
theorem enc1_bytes {o : O} {x : List Int} (h : enc1 o = some x) : ∀ y ∈ x, 0 ≤ y ∧ y < 256 := by
  unfold enc1 at h
  split at h
  · simp at h
  · rename_i w hw
    have h2 := wd_range hw
    split at h
    · simp only [Option.some.injEq] at h
      subst h
      intro y hy
      simp only [List.cons_append, List.mem_cons, List.mem_append] at hy
      rcases hy with rfl | hy | hy
      · omega
      · exact be_bytes _ _ _ hy
      · exact be_bytes _ _ _ hy
    · simp at h
theorem encs_len : ∀ (l : List O) (x : List Int), encs l = some x → x.length = tot l ∧ l.length ≤ x.length ∧ x.length ≤ 5 * l.length
  | [], x, h => by simp [encs] at h; subst h; simp [tot]
  | o :: r, x, h => by
    simp only [encs, Option.bind_eq_some_iff, Option.map_eq_some_iff] at h
    obtain ⟨y, h1, z, h2, rfl⟩ := h
    have h3 := enc1_len h1
    have h4 := encs_len r z h2
    simp [tot]; omega
theorem encs_bytes : ∀ (l : List O) (x : List Int), encs l = some x → ∀ y ∈ x, 0 ≤ y ∧ y < 256
  | [], x, h => by simp [encs] at h; subst h; simp
  | o :: r, x, h => by
    simp only [encs, Option.bind_eq_some_iff, Option.map_eq_some_iff] at h
    obtain ⟨y, h1, z, h2, rfl⟩ := h
    intro q hq
    rcases List.mem_append.1 hq with e | e
    · exact enc1_bytes h1 q e
    · exact encs_bytes r z h2 q e
theorem dec_enc1 {o : O} {x : List Int} (h : enc1 o = some x) (y : List Int) : dec (x ++ y) = (dec y).map (o :: ·) := by
  unfold enc1 at h
  split at h
  · simp at h
  · rename_i w hw
    have h2 := wd_le hw
    split at h
    · rename_i hf
      simp only [Option.some.injEq] at h
      subst h
      obtain ⟨⟨a0, a1⟩, b0, b1⟩ := hf
      rw [List.cons_append, List.cons_append, dec]
      simp only [hw]
      have e1 : (be w.1 o.a ++ be w.2 o.b ++ y).take w.1 = be w.1 o.a := by
        rw [List.append_assoc, List.take_append_of_le_length (by rw [be_length]; omega), List.take_of_length_le (by rw [be_length]; omega)]
      have e2 : (be w.1 o.a ++ be w.2 o.b ++ y).drop w.1 = be w.2 o.b ++ y := by
        rw [List.append_assoc, List.drop_append_of_le_length (by rw [be_length]; omega), List.drop_of_length_le (by rw [be_length]; omega), List.nil_append]
      have e3 : (be w.1 o.a ++ be w.2 o.b ++ y).drop (w.1 + w.2) = y := by
        rw [← List.drop_drop, e2, List.drop_append_of_le_length (by rw [be_length]; omega), List.drop_of_length_le (by rw [be_length]; omega), List.nil_append]
      have e4 : (be w.2 o.b ++ y).take w.2 = be w.2 o.b := by
        rw [List.take_append_of_le_length (by rw [be_length]; omega), List.take_of_length_le (by rw [be_length]; omega)]
      rw [if_pos (by simp only [List.length_append, be_length]; omega), e1, e2, e3, e4, num_be _ h2.1 _ a0 a1, num_be _ h2.2 _ b0 b1]
    · simp at h
theorem dec_encs : ∀ (l : List O) (x y : List Int), encs l = some x → dec (x ++ y) = (dec y).map (l ++ ·)
  | [], x, y, h => by
    simp [encs] at h
    subst h
    rw [List.nil_append]
    cases dec y <;> rfl
  | o :: r, x, y, h => by
    simp only [encs, Option.bind_eq_some_iff, Option.map_eq_some_iff] at h
    obtain ⟨u, h1, z, h2, rfl⟩ := h
    rw [List.append_assoc, dec_enc1 h1, dec_encs r z y h2]
    cases dec y <;> rfl
theorem dec_nil : dec [] = some [] := by rw [dec]
theorem dec_enc {l : List O} {x : List Int} (h : encs l = some x) : dec x = some l := by
  have := dec_encs l x [] h
  rw [List.append_nil, dec_nil] at this
  simpa using this
theorem enc_dec : ∀ (n : Nat) (b : List Int) (l : List O), b.length ≤ n → (∀ x ∈ b, 0 ≤ x ∧ x < 256) → dec b = some l → encs l = some b := by
  intro n
  induction n with
  | zero =>
    intro b l hn hb h
    have : b = [] := List.length_eq_zero_iff.1 (by omega)
    subst this
    rw [dec_nil] at h
    simp only [Option.some.injEq] at h
    subst h; rfl
  | succ n ih =>
    intro b l hn hb h
    cases b with
    | nil =>
      rw [dec_nil] at h
      simp only [Option.some.injEq] at h
      subst h; rfl
    | cons c r =>
      rw [dec] at h
      split at h
      · simp at h
      · rename_i w hw
        split at h
        · rename_i hl
          rw [Option.map_eq_some_iff] at h
          obtain ⟨q, h1, rfl⟩ := h
          have h2 := wd_le hw
          have h3 := ih (r.drop (w.1 + w.2)) q (by simp [List.length_drop] at hn ⊢; omega) (fun x hx => hb x (List.mem_cons_of_mem _ (List.mem_of_mem_drop hx))) h1
          have h4 := be_num w.1 h2.1 (r.take w.1) (by simp; omega) (fun x hx => hb x (List.mem_cons_of_mem _ (List.mem_of_mem_take hx)))
          have h5 := be_num w.2 h2.2 ((r.drop w.1).take w.2) (by simp; omega) (fun x hx => hb x (List.mem_cons_of_mem _ (List.mem_of_mem_drop (List.mem_of_mem_take hx))))
          simp only [encs, enc1, hw]
          rw [if_pos ⟨h4.2, h5.2⟩, h4.1, h5.1]
          simp only [Option.bind_some, h3, Option.map_some]
          congr 1
          rw [List.cons_append, List.cons_append, List.append_assoc, ← List.drop_drop, List.take_append_drop, List.take_append_drop]
        · simp at h
theorem encs_take : ∀ (l : List O) (x : List Int), encs l = some x → ∀ m, encs (l.take m) = some (x.take (tot (l.take m)))
  | [], x, h, m => by simp [encs] at h; subst h; simp [encs]
  | o :: r, x, h, m => by
    simp only [encs, Option.bind_eq_some_iff, Option.map_eq_some_iff] at h
    obtain ⟨u, h1, z, h2, rfl⟩ := h
    have h3 := enc1_len h1
    cases m with
    | zero => simp [encs, tot]
    | succ m =>
      simp only [List.take_succ_cons, encs, tot, h1, Option.bind_some, encs_take r z h2 m, Option.map_some]
      rw [List.take_append, List.take_of_length_le (l := u) (by omega), show sz o + tot (r.take m) - u.length = tot (r.take m) by omega]
theorem dec_at {l : List O} {x : List Int} (h : encs l = some x) (m : Nat) : dec (x.take (tot (l.take m))) = some (l.take m) := dec_enc (encs_take l x h m)
theorem dec_cut {l : List O} {x : List Int} (h : encs l = some x) (c : Nat) (hc : c ≤ x.length) (q : List O) (hq : dec (x.take c) = some q) : ∃ m, m ≤ l.length ∧ c = tot (l.take m) := by
  have h1 := enc_dec _ (x.take c) q (Nat.le_refl _) (fun y hy => encs_bytes l x h y (List.mem_of_mem_take hy)) hq
  have h2 := dec_encs q (x.take c) (x.drop c) h1
  rw [List.take_append_drop, dec_enc h] at h2
  obtain ⟨r, _, h3⟩ := Option.map_eq_some_iff.1 h2.symm
  refine ⟨q.length, ?_, ?_⟩
  · rw [← h3]; simp
  · have h4 := (encs_len q _ h1).1
    rw [← h3, List.take_left, ← h4, List.length_take]
    omega
theorem tot_take_le : ∀ (l : List O) (m : Nat), tot (l.take m) ≤ tot l
  | [], m => by simp
  | o :: r, 0 => by simp [tot]
  | o :: r, m + 1 => by
    have := tot_take_le r m
    simp [tot]; omega
theorem mem_pos : ∀ (l : List O) (i : Nat) (y : Int), y ∈ pos i l ↔ ∃ m, m < l.length ∧ y = ((i + tot (l.take m) : Nat) : Int)
  | [], i, y => by simp [pos]
  | o :: r, i, y => by
    rw [pos, List.mem_cons, mem_pos r]
    constructor
    · rintro (rfl | ⟨m, h1, rfl⟩)
      · exact ⟨0, by simp, by simp [tot]⟩
      · exact ⟨m + 1, by simp; omega, by simp [tot, Nat.add_assoc]⟩
    · rintro ⟨m, h1, rfl⟩
      cases m with
      | zero => left; simp [tot]
      | succ m => exact Or.inr ⟨m, by simp at h1; omega, by simp [tot, Nat.add_assoc]⟩
def cnt (c : Int) : List Int → Nat
  | [] => 0
  | y :: r => (if y < c then 1 else 0) + cnt c r
theorem cnt_ge (c : Int) : ∀ (l : List Int), (∀ y ∈ l, c ≤ y) → cnt c l = 0
  | [], _ => rfl
  | y :: r, h => by
    have := h y (by simp)
    rw [cnt, if_neg (by omega), cnt_ge c r (fun z hz => h z (List.mem_cons_of_mem _ hz))]
theorem cnt_pos : ∀ (l : List O) (i m : Nat), (∀ o ∈ l, 1 ≤ sz o) → m ≤ l.length → cnt ((i + tot (l.take m) : Nat) : Int) (pos i l) = m
  | [], i, m, _, h => by simp at h; subst h; rfl
  | o :: r, i, 0, hs, _ => by
    refine cnt_ge _ _ (fun y hy => ?_)
    obtain ⟨q, _, rfl⟩ := (mem_pos (o :: r) i y).1 hy
    simp [tot]; omega
  | o :: r, i, m + 1, hs, h => by
    have h1 := hs o (by simp)
    have h2 := cnt_pos r (i + sz o) m (fun x hx => hs x (List.mem_cons_of_mem _ hx)) (by simp at h; omega)
    have e : i + tot ((o :: r).take (m + 1)) = i + sz o + tot (r.take m) := by simp [tot, Nat.add_assoc]
    rw [e, pos, cnt, if_pos (by omega), h2]; omega
theorem encs_sz : ∀ (l : List O) (x : List Int), encs l = some x → ∀ o ∈ l, 1 ≤ sz o
  | [], x, h => by simp
  | o :: r, x, h => by
    simp only [encs, Option.bind_eq_some_iff, Option.map_eq_some_iff] at h
    obtain ⟨u, h1, z, h2, rfl⟩ := h
    intro q hq
    rcases List.mem_cons.1 hq with rfl | hq
    · exact (enc1_len h1).2.1
    · exact encs_sz r z h2 q hq

-- what package op computes (this repo's own)
theorem of_high (a : Int) (h : 21 ≤ a) (h2 : a < 256) : op_of.f a = some (⟨#[]⟩, ⟨#[]⟩, false) := by
  rw [op_of.f, if_pos ⟨by omega, h2⟩]
  repeat (rw [if_neg (by omega)])
theorem form_high (a : Int) (h : 21 ≤ a) (h2 : a < 256) : op_Form.f a = some (⟨#[]⟩, false) := by
  rw [op_Form.f, of_high a h h2]; rfl
theorem name_high (a : Int) (h : 21 ≤ a) (h2 : a < 256) : op_Name.f a = some ⟨#[]⟩ := by
  rw [op_Name.f, of_high a h h2]; rfl
theorem size_high (a : Int) (h : 21 ≤ a) (h2 : a < 256) : op_Size.f a = some 0 := by
  rw [op_Size.f, form_high a h h2]; rfl
theorem sure_f : ∀ n, colloquylaw07_sure.f (n + 30) = some true
  | 0 => by decide +kernel
  | n + 1 => colloquylaw07_sure.mono (n + 30) _ (sure_f n)

-- what package op computes, told by the lists above
def o51 (x : S51) : O := ⟨x.f0, x.f1, x.f2⟩
def s51 (o : O) : S51 := ⟨o.c, o.a, o.b⟩
theorem o_s (o : O) : o51 (s51 o) = o := rfl
theorem s_o (x : S51) : s51 (o51 x) = x := rfl
theorem wrap_in {x : Int} (h1 : -9223372036854775808 ≤ x) (h2 : x ≤ 9223372036854775807) : wrap64 x = x := by unfold wrap64; omega
def tabOk (c : Int) : Bool := match op_Form.f c with
  | none => false
  | some (s, p) => p == (wd c).isSome && (match wd c with
    | none => op_Size.f c == some 0
    | some w => op_width.f s 0 == some (w.1 : Int) && op_width.f s 1 == some (w.2 : Int) && op_Size.f c == some ((1 + w.1 + w.2 : Nat) : Int))
theorem tab_all : ∀ y : Fin 256, tabOk ((y.val : Nat) : Int) = true := by decide +kernel
theorem tab_of (c : Int) (h0 : 0 ≤ c) (h1 : c < 256) : tabOk c = true := by
  have := tab_all ⟨c.toNat, by omega⟩
  rwa [show (((⟨c.toNat, by omega⟩ : Fin 256).val : Nat) : Int) = c by simp; omega] at this
theorem form_none (c : Int) (h0 : 0 ≤ c) (h1 : c < 256) (h : wd c = none) : (∃ s, op_Form.f c = some (s, false)) ∧ op_Size.f c = some 0 := by
  have h2 := tab_of c h0 h1
  unfold tabOk at h2
  split at h2
  · simp at h2
  · rename_i s p hs
    rw [h] at h2
    simp at h2
    obtain ⟨rfl, h3⟩ := h2
    exact ⟨⟨s, hs⟩, h3⟩
theorem form_some (c : Int) (h0 : 0 ≤ c) (h1 : c < 256) (w : Nat × Nat) (h : wd c = some w) : ∃ s, op_Form.f c = some (s, true) ∧ op_width.f s 0 = some (w.1 : Int) ∧ op_width.f s 1 = some (w.2 : Int) ∧ op_Size.f c = some ((1 + w.1 + w.2 : Nat) : Int) := by
  have h2 := tab_of c h0 h1
  unfold tabOk at h2
  split at h2
  · simp at h2
  · rename_i s p hs
    rw [h] at h2
    simp only [Option.isSome_some, Bool.and_eq_true, beq_iff_eq] at h2
    obtain ⟨rfl, ⟨h3, h4⟩, h5⟩ := h2
    exact ⟨s, hs, h3, h4, h5⟩
theorem shr_i64 (y : Int) (d : Nat) (hd : d ≤ 63) : shr .i64 y (d : Int) = y / 2 ^ d := by
  have h : IntKind.i64.bits = 64 := rfl
  simp only [shr, h, Int.toNat_natCast, Nat.min_eq_left (show d ≤ 64 by omega)]
theorem put_l0_end (k : Nat) (l : List Int) (n : Int) : op_put.l0 (k + 1) l n (-1) = some (l, true) := by simp [op_put.l0]
theorem put_l0_0 (k : Nat) (l : List Int) (n : Int) (hl : l.length < 140737488355328) : op_put.l0 (k + 2) l n 0 = some (l ++ [n % 256], true) := by
  have e0 : IntKind.u64.wrap (8 * IntKind.u64.wrap 0) = 0 := by decide +kernel
  have e1 : shr .i64 n 0 = n := by have := shr_i64 n 0 (by omega); simpa using this
  have w1 : wrap64 (0 - 1) = -1 := by decide +kernel
  rw [op_put.l0, if_pos (by omega), e0, if_pos (by omega), if_pos hl, w1, e1, put_l0_end]
theorem put_l0_1 (k : Nat) (l : List Int) (n : Int) (hl : l.length + 1 < 140737488355328) : op_put.l0 (k + 3) l n 1 = some (l ++ [n / 256 % 256, n % 256], true) := by
  have f0 : IntKind.u64.wrap (8 * IntKind.u64.wrap 1) = 8 := by decide +kernel
  have f1 : shr .i64 n 8 = n / 256 := by have := shr_i64 n 8 (by omega); simpa using this
  have w2 : wrap64 (1 - 1) = 0 := by decide +kernel
  rw [op_put.l0, if_pos (by omega), f0, if_pos (by omega), if_pos (by omega), w2, f1, put_l0_0 k _ n (by simp; omega)]
  simp
theorem put_0 (k : Nat) (l : List Int) (n : Int) : op_put.f (k + 5) l n 0 = some (if fit 0 n then (l ++ be 0 n, true) else ([], false)) := by
  have e0 : IntKind.u64.wrap (8 * IntKind.u64.wrap 0) = 0 := by decide +kernel
  have e1 : shr .i64 n 0 = n := by have := shr_i64 n 0 (by omega); simpa using this
  have w1 : wrap64 (0 - 1) = -1 := by decide +kernel
  by_cases h : n < 0
  · have : ¬ fit 0 n := by unfold fit; omega
    rw [op_put.f, if_pos h, if_neg this]
    simp [op_put.j0]
  · rw [op_put.f, if_neg h, e0, if_pos (by omega), e1]
    by_cases h2 : n = 0
    · subst h2
      have h3 : fit 0 0 := by unfold fit; simp
      rw [if_pos h3]
      simp only [op_put.j0, bne_self_eq_false, Bool.false_eq_true, if_false, w1, put_l0_end, be, List.append_nil]
    · have : ¬ fit 0 n := by unfold fit; simp; omega
      rw [if_neg this]
      simp [op_put.j0, h2]
theorem put_1 (k : Nat) (l : List Int) (n : Int) (hl : l.length + 3 < 140737488355328) : op_put.f (k + 5) l n 1 = some (if fit 1 n then (l ++ be 1 n, true) else ([], false)) := by
  have f0 : IntKind.u64.wrap (8 * IntKind.u64.wrap 1) = 8 := by decide +kernel
  have f1 : shr .i64 n 8 = n / 256 := by have := shr_i64 n 8 (by omega); simpa using this
  have w2 : wrap64 (1 - 1) = 0 := by decide +kernel
  by_cases h : n < 0
  · have : ¬ fit 1 n := by unfold fit; omega
    rw [op_put.f, if_pos h, if_neg this]
    simp [op_put.j0]
  · rw [op_put.f, if_neg h, f0, if_pos (by omega), f1]
    by_cases h2 : n / 256 = 0
    · have h3 : fit 1 n := by unfold fit; omega
      rw [if_pos h3]
      simp only [op_put.j0, h2, bne_self_eq_false, Bool.false_eq_true, if_false, w2, put_l0_0 _ l n (show l.length < 140737488355328 by omega), be]
      simp
    · have : ¬ fit 1 n := by unfold fit; omega
      rw [if_neg this]
      simp [op_put.j0, h2]
theorem put_2 (k : Nat) (l : List Int) (n : Int) (hl : l.length + 3 < 140737488355328) : op_put.f (k + 5) l n 2 = some (if fit 2 n then (l ++ be 2 n, true) else ([], false)) := by
  have g0 : IntKind.u64.wrap (8 * IntKind.u64.wrap 2) = 16 := by decide +kernel
  have g1 : shr .i64 n 16 = n / 65536 := by have := shr_i64 n 16 (by omega); simpa using this
  have w3 : wrap64 (2 - 1) = 1 := by decide +kernel
  by_cases h : n < 0
  · have : ¬ fit 2 n := by unfold fit; omega
    rw [op_put.f, if_pos h, if_neg this]
    simp [op_put.j0]
  · rw [op_put.f, if_neg h, g0, if_pos (by omega), g1]
    by_cases h2 : n / 65536 = 0
    · have h3 : fit 2 n := by unfold fit; omega
      rw [if_pos h3]
      simp only [op_put.j0, h2, bne_self_eq_false, Bool.false_eq_true, if_false, w3, put_l0_1 _ l n (show l.length + 1 < 140737488355328 by omega), be]
      simp
    · have : ¬ fit 2 n := by unfold fit; omega
      rw [if_neg this]
      simp [op_put.j0, h2]
theorem put_f (k : Nat) (l : List Int) (n : Int) (w : Nat) (hw : w ≤ 2) (hl : l.length + 3 < 140737488355328) : op_put.f (k + 5) l n (w : Int) = some (if fit w n then (l ++ be w n, true) else ([], false)) := by
  match w, hw with
  | 0, _ => exact put_0 k l n
  | 1, _ => exact put_1 k l n hl
  | 2, _ => exact put_2 k l n hl
theorem one_f (k : Nat) (l : List Int) (o : O) (h0 : 0 ≤ o.c) (h1 : o.c < 256) (hl : l.length + 6 < 140737488355328) :
    op_one.f (k + 5) l o.c o.a o.b = some (match enc1 o with | none => ([], false) | some x => (l ++ x, true)) := by
  have hl1 : l.length < 140737488355328 := by omega
  cases hw : wd o.c with
  | none =>
    obtain ⟨⟨s, hs⟩, _⟩ := form_none _ h0 h1 hw
    simp [op_one.f, hs, enc1, hw]
  | some w =>
    obtain ⟨s, hs, e0, e1, _⟩ := form_some _ h0 h1 w hw
    have h2 := wd_le hw
    have p1 := put_f k (l ++ [o.c]) o.a w.1 h2.1 (by simp; omega)
    simp only [op_one.f, hs, Option.bind_some, if_true, if_pos hl1, e0, e1, p1, enc1, hw]
    by_cases f1 : fit w.1 o.a
    · have p2 := put_f k (l ++ [o.c] ++ be w.1 o.a) o.b w.2 h2.2 (by simp [be_length]; omega)
      simp only [if_pos f1, if_true, Option.bind_some, p2]
      by_cases f2 : fit w.2 o.b
      · simp [f1, f2]
      · simp [f1, f2]
    · simp [f1]
def encR (x : Option (List Int)) : List Int × Option Int := match x with
  | none => ([], some 8)
  | some y => if y.length > 512 then ([], some 4) else (y, none)
theorem drop_rd (l : List S51) (i : Nat) (h : i < l.length) : l.drop i = rd_T51 l (i : Int) :: l.drop (i + 1) := by
  rw [List.drop_eq_getElem_cons h]
  simp [rd_T51, h]
theorem encode_l0 (l : List S51) (hc : ∀ x ∈ l, 0 ≤ x.f0 ∧ x.f0 < 256) (hl : l.length ≤ 100000) : ∀ (m i : Nat) (acc : List Int), i + m = l.length → acc.length ≤ 5 * i →
    op_Encode.l0 (m + 6) acc l (l.length : Int) (i : Int) = some (encR ((encs ((l.drop i).map o51)).map (acc ++ ·))) := by
  intro m
  induction m with
  | zero =>
    intro i acc hi ha
    have e : l.drop i = [] := List.drop_of_length_le (by omega)
    have h1 : ¬ (i : Int) < (l.length : Int) := by omega
    simp only [op_Encode.l0, if_neg h1, e, List.map_nil, encs, Option.map_some, List.append_nil, encR]
    by_cases h2 : acc.length > 512
    · rw [if_pos (by omega), if_pos h2]
    · rw [if_neg (by omega), if_neg h2]
  | succ m ih =>
    intro i acc hi ha
    have h1 : (i : Int) < (l.length : Int) := by omega
    have h2 : (0 : Int) ≤ (i : Int) := by omega
    have hw : wrap64 ((i : Int) + 1) = ((i + 1 : Nat) : Int) := by rw [wrap_in (by omega) (by omega)]; omega
    have hd := drop_rd l i (by omega)
    have hm : rd_T51 l (i : Int) ∈ l := by
      have : rd_T51 l (i : Int) ∈ l.drop i := by rw [hd]; simp
      exact List.mem_of_mem_drop this
    obtain ⟨c0, c1⟩ := hc _ hm
    have ho := one_f (m + 1) acc (o51 (rd_T51 l (i : Int))) c0 c1 (by omega)
    have h3 := fun x hx => ih (i + 1) (acc ++ x) (by omega) hx
    rw [show m + 1 + 5 = m + 6 by omega] at ho
    rw [show m + 1 + 6 = m + 6 + 1 by omega]
    revert ho h3
    generalize m + 6 = K
    intro ho h3
    simp only [o51] at ho
    rw [op_Encode.l0, if_pos h1, if_pos h2, if_pos h1, ho]
    rw [hd, List.map_cons, encs]
    simp only [o51, Option.bind_some]
    cases he : enc1 ⟨(rd_T51 l (i : Int)).f0, (rd_T51 l (i : Int)).f1, (rd_T51 l (i : Int)).f2⟩ with
    | none => simp [encR]
    | some x =>
      have hx := enc1_len he
      simp only [if_true, hw, h3 x (by simp; omega), Option.bind_some]
      rw [Option.map_map]
      congr 3
      funext z
      simp [List.append_assoc]
theorem encode_f (l : List S51) (hc : ∀ x ∈ l, 0 ≤ x.f0 ∧ x.f0 < 256) (hl : l.length ≤ 100000) : op_Encode.f (l.length + 6) l = some (encR (encs (l.map o51))) := by
  have := encode_l0 l hc hl l.length 0 [] (by omega) (by simp)
  simp only [op_Encode.f]
  rw [show (0 : Int) = ((0 : Nat) : Int) from rfl, this]
  simp
theorem bits_comm (a b : Int) : Go.bits .or .i64 a b = Go.bits .or .i64 b a := by
  show IntKind.i64.wrap (((BitVec.ofInt 64 a ||| BitVec.ofInt 64 b).toNat : Nat) : Int) = IntKind.i64.wrap (((BitVec.ofInt 64 b ||| BitVec.ofInt 64 a).toNat : Nat) : Int)
  rw [BitVec.or_comm]
theorem or_bytes (a x : Int) (a0 : 0 ≤ a) (a1 : a < 256) (x0 : 0 ≤ x) (x1 : x < 256) : Go.bits .or .i64 (wrap64 (a * 256)) (wrap64 x) = a * 256 + x := by
  rw [wrap_in (x := a * 256) (by omega) (by omega), wrap_in (x := x) (by omega) (by omega), bits_comm, i64_or_disj x (a * 256) 8 (by omega) x0 (by omega) (by omega), wrap_in (by omega) (by omega)]
  omega
theorem number_f (k : Nat) (l : List Int) (hl : l.length ≤ 2) (hb : ∀ x ∈ l, 0 ≤ x ∧ x < 256) : op_number.f (k + 3) l = some (num l) := by
  match l, hl with
  | [], _ => simp [op_number.f, op_number.l0, num]
  | [x], _ =>
    have h1 := hb x (by simp)
    have h2 := or_bytes 0 x (by decide) (by decide) h1.1 h1.2
    simp only [Int.zero_mul, Int.zero_add] at h2
    have w1 : wrap64 1 = 1 := by decide +kernel
    simp [op_number.f, op_number.l0, num, rd, w1, h2]
  | [x, y], _ =>
    have h1 := hb x (by simp)
    have h3 := hb y (by simp)
    have h2 := or_bytes 0 x (by decide) (by decide) h1.1 h1.2
    simp only [Int.zero_mul, Int.zero_add] at h2
    have h4 := or_bytes x y h1.1 h1.2 h3.1 h3.2
    have w1 : wrap64 1 = 1 := by decide +kernel
    have w2 : wrap64 2 = 2 := by decide +kernel
    simp [op_number.f, op_number.l0, num, rd, w1, w2, h2, h4]
theorem drop_rdi (l : List Int) (i : Nat) (h : i < l.length) : l.drop i = rd l (i : Int) :: l.drop (i + 1) := by
  rw [List.drop_eq_getElem_cons h]
  simp [rd, h]
def decR (acc : List S51) (at_ : List Int) (i : Nat) (x : Option (List O)) : List S51 × List Int × Option Int := match x with
  | none => ([], [], some 8)
  | some l => (acc ++ l.map s51, at_ ++ pos i l, none)
theorem wrap_nat (x : Int) (n : Nat) (h : x = (n : Int)) (hn : n ≤ 100000) : wrap64 x = (n : Int) := by
  subst h
  exact wrap_in (by omega) (by omega)
theorem decode_round (K : Nat) (x : List Int) (hx : x.length ≤ 512) (hb : ∀ y ∈ x, 0 ≤ y ∧ y < 256) (i : Nat) (hi : i < x.length) (acc : List S51) (at_ : List Int) (ha : acc.length ≤ i) (ht : at_.length ≤ i) :
    op_Decode.l0 (K + 5) x acc at_ (i : Int) = match wd (rd x (i : Int)) with
      | none => some ([], [], some 8)
      | some w => if w.1 + w.2 ≤ x.length - (i + 1) then op_Decode.l0 (K + 3) x (acc ++ [⟨rd x (i : Int), num ((x.drop (i + 1)).take w.1), num (((x.drop (i + 1)).drop w.1).take w.2)⟩]) (at_ ++ [(i : Int)]) ((i + 1 + w.1 + w.2 : Nat) : Int) else some ([], [], some 8) := by
  have h1 : (i : Int) < (x.length : Int) := by omega
  have h2 : (0 : Int) ≤ (i : Int) := by omega
  have hm : rd x (i : Int) ∈ x := by
    have : rd x (i : Int) ∈ x.drop i := by rw [drop_rdi x i hi]; simp
    exact List.mem_of_mem_drop this
  obtain ⟨c0, c1⟩ := hb _ hm
  rw [show K + 5 = K + 4 + 1 by omega, op_Decode.l0, if_pos h1, if_pos h2]
  cases hw : wd (rd x (i : Int)) with
  | none =>
    obtain ⟨_, e2⟩ := form_none _ c0 c1 hw
    rw [e2]
    simp [op_Decode.j1]
  | some w =>
    obtain ⟨s, e1, e2, e3, e4⟩ := form_some _ c0 c1 w hw
    have hw2 := wd_le hw
    rw [e4]
    simp only [Option.bind_some]
    have hn : ¬ (((1 + w.1 + w.2 : Nat) : Int) = 0) := by omega
    have r1 : -9223372036854775808 ≤ (x.length : Int) - (i : Int) := by omega
    have r2 : (x.length : Int) - (i : Int) ≤ 9223372036854775807 := by omega
    rw [if_neg hn, wrap_in r1 r2, show K + 4 = K + 3 + 1 by omega, op_Decode.j1]
    by_cases hl : w.1 + w.2 ≤ x.length - (i + 1)
    · have q0 : ¬ (decide (((1 + w.1 + w.2 : Nat) : Int) > (x.length : Int) - (i : Int)) = true) := by simp; omega
      have d1 : (x.take (i + 1 + w.1)).drop (i + 1) = (x.drop (i + 1)).take w.1 := by rw [List.drop_take]; congr 1; omega
      have d2 : (x.take (i + 1 + w.1 + w.2)).drop (i + 1 + w.1) = ((x.drop (i + 1)).drop w.1).take w.2 := by rw [List.drop_take, List.drop_drop]; congr 1; omega
      have n1 := number_f K ((x.drop (i + 1)).take w.1) (by simp; omega) (fun y hy => hb y (List.mem_of_mem_drop (List.mem_of_mem_take hy)))
      have n2 := number_f K (((x.drop (i + 1)).drop w.1).take w.2) (by simp; omega) (fun y hy => hb y (List.mem_of_mem_drop (List.mem_of_mem_drop (List.mem_of_mem_take hy))))
      have i1 : (0 : Int) ≤ ((i + 1 : Nat) : Int) := by omega
      have i2 : ((i + 1 : Nat) : Int) ≤ ((i + 1 + w.1 : Nat) : Int) := by omega
      have i3 : ((i + 1 + w.1 : Nat) : Int) ≤ (x.length : Int) := by omega
      have i4 : (0 : Int) ≤ ((i + 1 + w.1 : Nat) : Int) := by omega
      have i5 : ((i + 1 + w.1 : Nat) : Int) ≤ ((i + 1 + w.1 + w.2 : Nat) : Int) := by omega
      have i6 : ((i + 1 + w.1 + w.2 : Nat) : Int) ≤ (x.length : Int) := by omega
      have i7 : acc.length + 1 < 5864062014805 := by omega
      have i8 : at_.length + 1 < 17592186044416 := by omega
      have q2 : wrap64 ((i : Int) + 1) = ((i + 1 : Nat) : Int) := wrap_nat _ _ (by omega) (by omega)
      have q3 : wrap64 (((i + 1 : Nat) : Int) + (w.1 : Int)) = ((i + 1 + w.1 : Nat) : Int) := by
        clear q2
        exact wrap_nat _ _ (by omega) (by omega)
      have q4 : wrap64 ((i : Int) + ((1 + w.1 + w.2 : Nat) : Int)) = ((i + 1 + w.1 + w.2 : Nat) : Int) := by
        clear q2 q3
        exact wrap_nat _ _ (by omega) (by omega)
      rw [if_neg q0, if_pos h2, if_pos h1, e1]
      rw [Option.bind_some]
      dsimp only
      rw [e2, Option.bind_some, q2, if_pos i1, q3, if_pos i2, if_pos i3, Int.toNat_natCast, Int.toNat_natCast, d1, n1, Option.bind_some, if_pos i4, q4, if_pos i5, if_pos i6, Int.toNat_natCast, d2, n2, Option.bind_some, Option.bind_some]
      rw [if_pos (show acc.length + [(⟨rd x (i : Int), num ((x.drop (i + 1)).take w.1), num (((x.drop (i + 1)).drop w.1).take w.2)⟩ : S51)].length < 5864062014805 from i7), Option.bind_some, if_pos (show at_.length + [(i : Int)].length < 17592186044416 from i8)]
      simp only [if_pos hl]
    · have q0 : decide (((1 + w.1 + w.2 : Nat) : Int) > (x.length : Int) - (i : Int)) = true := by simp; omega
      rw [if_pos q0]
      simp only [if_neg hl]
theorem decode_l0 (x : List Int) (hx : x.length ≤ 512) (hb : ∀ y ∈ x, 0 ≤ y ∧ y < 256) : ∀ (m i : Nat) (acc : List S51) (at_ : List Int), x.length ≤ i + m → i ≤ x.length → acc.length ≤ i → at_.length ≤ i →
    op_Decode.l0 (2 * m + 5) x acc at_ (i : Int) = some (decR acc at_ i (dec (x.drop i))) := by
  intro m
  induction m with
  | zero =>
    intro i acc at_ hm hi ha ht
    have e : x.drop i = [] := List.drop_of_length_le (by omega)
    have h1 : ¬ (i : Int) < (x.length : Int) := by omega
    rw [show 2 * 0 + 5 = 4 + 1 by omega, op_Decode.l0, if_neg h1, e, dec_nil]
    simp [decR, pos]
  | succ m ih =>
    intro i acc at_ hm hi ha ht
    by_cases hlt : i < x.length
    · rw [show 2 * (m + 1) + 5 = (2 * m + 2) + 5 by omega, decode_round _ x hx hb i hlt acc at_ ha ht, drop_rdi x i hlt, dec]
      cases hw : wd (rd x (i : Int)) with
      | none => simp [decR]
      | some w =>
        simp only [List.length_drop]
        by_cases hl : w.1 + w.2 ≤ x.length - (i + 1)
        · rw [if_pos hl, if_pos hl, show 2 * m + 2 + 3 = 2 * m + 5 by omega, ih _ _ _ (by omega) (by omega) (by simp; omega) (by simp; omega), show (x.drop (i + 1)).drop (w.1 + w.2) = x.drop (i + 1 + w.1 + w.2) by rw [List.drop_drop]; congr 1; omega]
          cases dec (x.drop (i + 1 + w.1 + w.2)) with
          | none => rfl
          | some l => simp [decR, pos, sz, hw, s51]; congr 1; omega
        · rw [if_neg hl, if_neg hl]
          simp [decR]
    · have e : x.drop i = [] := List.drop_of_length_le (by omega)
      have h1 : ¬ (i : Int) < (x.length : Int) := by omega
      rw [show 2 * (m + 1) + 5 = 2 * (m + 1) + 4 + 1 by omega, op_Decode.l0, if_neg h1, e, dec_nil]
      simp [decR, pos]
theorem decode_f (x : List Int) (hb : ∀ y ∈ x, 0 ≤ y ∧ y < 256) : op_Decode.f (2 * 512 + 5) x = some (if x.length > 512 then ([], [], some 4) else decR [] [] 0 (dec x)) := by
  rw [op_Decode.f]
  by_cases h : x.length > 512
  · rw [if_pos (by omega), if_pos h]
  · rw [if_neg (by omega), if_neg h, show (0 : Int) = ((0 : Nat) : Int) from rfl, decode_l0 x (by omega) hb 512 0 [] [] (by omega) (by omega) (by simp) (by simp)]
    simp
theorem sure_g (k : Nat) (hk : 30 ≤ k) : colloquylaw07_sure.f k = some true := by
  obtain ⟨n, rfl⟩ : ∃ n, k = n + 30 := ⟨k - 30, by omega⟩
  exact sure_f n

-- what the law's own loops over instructions compute
theorem lift_ {α : Type} {f : Nat → Option α} {k k' : Nat} {r : α} (hm : ∀ j, LeO (f j) (f (j + 1))) (h : f k = some r) (hk : k ≤ k') : f k' = some r := by
  obtain ⟨d, rfl⟩ : ∃ d, k' = k + d := ⟨k' - k, by omega⟩
  clear hk
  induction d with
  | zero => exact h
  | succ d ih => exact hm (k + d) r ih
def o47 (x : S47) : O := ⟨x.f0, x.f1, x.f2⟩
def g47 (x : S47) : S51 := ⟨x.f0, x.f1, x.f2⟩
theorem o51_g47 (x : S47) : o51 (g47 x) = o47 x := rfl
theorem drop_rd47 (l : List S47) (i : Nat) (h : i < l.length) : l.drop i = rd_T47 l (i : Int) :: l.drop (i + 1) := by
  rw [List.drop_eq_getElem_cons h]
  simp [rd_T47, h]
theorem give_l0 (l : List S47) (hl : l.length ≤ 100000) : ∀ (m i : Nat) (acc : List S51), i + m = l.length → acc.length = i → colloquylaw07_giveOps.l0 (m + 1) l acc (i : Int) = some (acc ++ (l.drop i).map g47) := by
  intro m
  induction m with
  | zero =>
    intro i acc hi ha
    have e : l.drop i = [] := List.drop_of_length_le (by omega)
    have h1 : ¬ (i : Int) < (l.length : Int) := by omega
    rw [colloquylaw07_giveOps.l0, if_neg h1, e]
    simp
  | succ m ih =>
    intro i acc hi ha
    have h1 : (i : Int) < (l.length : Int) := by omega
    have h2 : (0 : Int) ≤ (i : Int) := by omega
    have h3 : acc.length < 5864062014805 := by omega
    rw [colloquylaw07_giveOps.l0, if_pos h1, if_pos h2, if_pos h3, wrap_nat ((i : Int) + 1) (i + 1) (by omega) (by omega), ih (i + 1) _ (by omega) (by simp; omega), drop_rd47 l i (by omega)]
    simp [g47]
theorem give_f (l : List S47) (hl : l.length ≤ 100000) : colloquylaw07_giveOps.f (l.length + 1) l = some (l.map g47) := by
  have := give_l0 l hl l.length 0 [] (by omega) rfl
  rw [colloquylaw07_giveOps.f, show (0 : Int) = ((0 : Nat) : Int) from rfl, this]
  simp
theorem are_l0 (l : List S47) (hl : l.length ≤ 100000) : ∀ (m i : Nat), i + m = l.length → colloquylaw07_areOps.l0 (m + 1) (l.map g47) l (i : Int) = some true := by
  intro m
  induction m with
  | zero =>
    intro i hi
    have h1 : ¬ (i : Int) < (l.length : Int) := by omega
    rw [colloquylaw07_areOps.l0, if_neg h1]
  | succ m ih =>
    intro i hi
    have h1 : (i : Int) < (l.length : Int) := by omega
    have h2 : (0 : Int) ≤ (i : Int) := by omega
    have h3 : (i : Int) < (((l.map g47).length : Nat) : Int) := by simp; omega
    have e : rd_T51 (l.map g47) (i : Int) = g47 (rd_T47 l (i : Int)) := by
      have h4 : i < l.length := by omega
      simp [rd_T51, rd_T47, h4]
    rw [colloquylaw07_areOps.l0, if_pos h1, if_pos h2, if_pos h3, wrap_nat ((i : Int) + 1) (i + 1) (by omega) (by omega), ih (i + 1) (by omega), e]
    simp [g47]
theorem are_f (l : List S47) (hl : l.length ≤ 100000) : colloquylaw07_areOps.f (l.length + 1) (l.map g47) l = some true := by
  rw [colloquylaw07_areOps.f, if_pos (by simp), show (0 : Int) = ((0 : Nat) : Int) from rfl, are_l0 l hl l.length 0 (by omega)]
theorem map_o (l : List S47) : (l.map g47).map o51 = l.map o47 := by simp [Function.comp_def, o51_g47]
theorem map_s (l : List S47) : (l.map o47).map s51 = l.map g47 := by simp [Function.comp_def, s51, o47, g47]
theorem wf47 {l : List S47} (h : ∀ y_ ∈ l, ((Lit.int .u8 y_.f0).wf = true) ∧ ((Lit.int .i64 y_.f1).wf = true) ∧ ((Lit.int .i64 y_.f2).wf = true)) : ∀ x ∈ l.map g47, 0 ≤ x.f0 ∧ x.f0 < 256 := by
  intro x hx
  obtain ⟨y, hy, rfl⟩ := List.mem_map.1 hx
  exact wf_u8 (h y hy).1
theorem give_g (k : Nat) (l : List S47) (hl : l.length ≤ 1000) (hk : 1100 ≤ k) : colloquylaw07_giveOps.f k l = some (l.map g47) := lift_ (fun j => colloquylaw07_giveOps.mono l j) (give_f l (by omega)) (by omega)
theorem are_g (k : Nat) (l : List S47) (hl : l.length ≤ 1000) (hk : 1100 ≤ k) : colloquylaw07_areOps.f k (l.map g47) l = some true := lift_ (fun j => colloquylaw07_areOps.mono (l.map g47) l j) (are_f l (by omega)) (by omega)
theorem encode_g (k : Nat) (l : List S51) (hc : ∀ x ∈ l, 0 ≤ x.f0 ∧ x.f0 < 256) (hl : l.length ≤ 1000) (hk : 1100 ≤ k) : op_Encode.f k l = some (encR (encs (l.map o51))) := lift_ (fun j => op_Encode.mono l j) (encode_f l hc (by omega)) (by omega)
theorem decode_g (k : Nat) (x : List Int) (hb : ∀ y ∈ x, 0 ≤ y ∧ y < 256) (hk : 1100 ≤ k) : op_Decode.f k x = some (if x.length > 512 then ([], [], some 4) else decR [] [] 0 (dec x)) := lift_ (fun j => op_Decode.mono x j) (decode_f x hb) (by omega)
theorem rd_pos : ∀ (l : List O) (j i : Nat), i < l.length → rd (pos j l) (i : Int) = ((j + tot (l.take i) : Nat) : Int)
  | [], j, i, h => by simp at h
  | o :: r, j, 0, h => by simp [pos, rd, tot]
  | o :: r, j, i + 1, h => by
    have h1 := rd_pos r (j + sz o) i (by simp at h; omega)
    have e : j + tot ((o :: r).take (i + 1)) = j + sz o + tot (r.take i) := by simp [tot, Nat.add_assoc]
    rw [e, ← h1]
    simp [rd, pos]
theorem encs_codes : ∀ (l : List O) (x : List Int), encs l = some x → ∀ o ∈ l, 0 ≤ o.c ∧ o.c < 21 ∧ op_Size.f o.c = some ((sz o : Nat) : Int)
  | [], x, h => by simp
  | o :: r, x, h => by
    simp only [encs, Option.bind_eq_some_iff, Option.map_eq_some_iff] at h
    obtain ⟨u, h1, z, h2, rfl⟩ := h
    intro q hq
    rcases List.mem_cons.1 hq with rfl | hq
    · unfold enc1 at h1
      split at h1
      · simp at h1
      · rename_i w hw
        have h3 := wd_range hw
        obtain ⟨s, _, _, _, e4⟩ := form_some q.c h3.1 (by omega) w hw
        refine ⟨h3.1, h3.2, ?_⟩
        rw [e4, sz, hw]
    · exact encs_codes r z h2 q hq
theorem tot_take_succ : ∀ (l : List O) (i : Nat) (h : i < l.length), tot (l.take (i + 1)) = tot (l.take i) + sz (l[i]'h)
  | [], i, h => by simp at h
  | o :: r, 0, h => by simp [tot]
  | o :: r, i + 1, h => by
    have := tot_take_succ r i (by simp at h; omega)
    simp [tot, this, Nat.add_assoc]
theorem rd47_map (l : List S47) (i : Nat) (h : i < (l.map o47).length) : o47 (rd_T47 l (i : Int)) = (l.map o47)[i]'h := by
  have h2 : i < l.length := by simpa using h
  simp [rd_T47, h2]

def refOk (c : Int) : Bool := match colloquyref07_Form.f c, op_Form.f c with
  | some (s, p), some (s2, p2) => p == (wd c).isSome && p2 == p && s.toList == s2.toList && colloquyref07_wide.f s == some (match wd c with | some w => ((w.1 : Int), (w.2 : Int)) | none => (0, 0)) &&
      (op_Name.f c).map (·.toList) == (colloquyref07_Name.f c).map (·.toList) && (op_Name.f c).isSome && op_Size.f c == colloquyref07_Size.f c && colloquyref07_Size.f c == some (match wd c with | some w => ((1 + w.1 + w.2 : Nat) : Int) | none => 0)
  | _, _ => false
theorem ref_all : ∀ y : Fin 256, refOk ((y.val : Nat) : Int) = true := by decide +kernel
theorem ref_of (c : Int) (h0 : 0 ≤ c) (h1 : c < 256) : ∃ s s2 n1 n2, colloquyref07_Form.f c = some (s, (wd c).isSome) ∧ op_Form.f c = some (s2, (wd c).isSome) ∧ s.toList = s2.toList ∧
    colloquyref07_wide.f s = some (match wd c with | some w => ((w.1 : Int), (w.2 : Int)) | none => (0, 0)) ∧ op_Name.f c = some n1 ∧ colloquyref07_Name.f c = some n2 ∧ n1.toList = n2.toList ∧ op_Size.f c = colloquyref07_Size.f c ∧
    colloquyref07_Size.f c = some (match wd c with | some w => ((1 + w.1 + w.2 : Nat) : Int) | none => 0) := by
  have h := ref_all ⟨c.toNat, by omega⟩
  rw [show (((⟨c.toNat, by omega⟩ : Fin 256).val : Nat) : Int) = c by simp; omega] at h
  unfold refOk at h
  split at h
  · rename_i s p s2 p2 e1 e2
    simp only [Bool.and_eq_true, beq_iff_eq] at h
    obtain ⟨⟨⟨⟨⟨⟨⟨rfl, rfl⟩, h3⟩, h4⟩, h5⟩, h6⟩, h7⟩, h8⟩ := h
    obtain ⟨n1, hn1⟩ := Option.isSome_iff_exists.1 h6
    rw [hn1, Option.map_some] at h5
    obtain ⟨n2, hn2, hn3⟩ := Option.map_eq_some_iff.1 h5.symm
    exact ⟨s, s2, n1, n2, e1, e2, h3, h4, hn1, hn2, hn3.symm, h7, h8⟩
  · simp at h
theorem refput_f (l : List Int) (n : Int) (w : Nat) (hw : w ≤ 2) (hl : l.length + 3 < 140737488355328) : ∃ z, colloquyref07_put.f l n (w : Int) = some (z, decide (fit w n)) ∧ z.length ≤ l.length + 2 ∧ (fit w n → z = l ++ be w n) := by
  match w, hw with
  | 0, _ =>
    refine ⟨l, ?_, by omega, fun _ => by simp [be]⟩
    rw [colloquyref07_put.f, if_pos (show ((0 : Nat) : Int) = 0 from rfl)]
    have : (n == 0) = decide (fit 0 n) := by
      rw [Bool.eq_iff_iff]; simp [fit]; omega
    rw [this]
  | 1, _ =>
    refine ⟨l ++ [n % 256], ?_, by simp, fun _ => by simp [be]⟩
    have h1 : ¬ (((1 : Nat) : Int) = 0) := by decide
    have h3 : l.length < 140737488355328 := by omega
    rw [colloquyref07_put.f, if_neg h1, if_pos (show ((1 : Nat) : Int) = 1 from rfl), if_pos h3, Option.bind_some]
    by_cases h : n ≥ 0
    · have : decide (n < 256) = decide (fit 1 n) := decide_eq_decide.2 (by unfold fit; omega)
      rw [if_pos h, this]
    · have : false = decide (fit 1 n) := (decide_eq_false (by unfold fit; omega)).symm
      rw [if_neg h, this]
  | 2, _ =>
    refine ⟨l ++ [wrap64 (Int.tdiv n 256) % 256, Int.tmod n 256 % 256], ?_, by simp, fun hf => ?_⟩
    · have h1 : ¬ (((2 : Nat) : Int) = 0) := by decide
      have h2 : ¬ (((2 : Nat) : Int) = 1) := by decide
      rw [colloquyref07_put.f, if_neg h1, if_neg h2, Option.bind_some, if_pos (show l.length + [wrap64 (Int.tdiv n 256) % 256, Int.tmod n 256 % 256].length < 140737488355328 from (by simp only [List.length_cons, List.length_nil]; omega)), Option.bind_some]
      by_cases h : n ≥ 0
      · have : decide (n < 65536) = decide (fit 2 n) := decide_eq_decide.2 (by unfold fit; omega)
        rw [if_pos h, this]
      · have : false = decide (fit 2 n) := (decide_eq_false (by unfold fit; omega)).symm
        rw [if_neg h, this]
    · unfold fit at hf
      have e1 : Int.tdiv n 256 = n / 256 := Int.tdiv_eq_ediv_of_nonneg hf.1
      have e2 : Int.tmod n 256 = n % 256 := Int.tmod_eq_emod_of_nonneg hf.1
      have e3 : n / 256 % 256 = n / 256 ^ 1 % 256 := by simp
      rw [e1, e2, wrap_in (by omega) (by omega)]
      simp [be]
def refR (x : Option (List Int)) : List Int × Int := match x with
  | none => ([], 8)
  | some y => if y.length > 512 then ([], 4) else (y, 0)
theorem enc1_some (o : O) (w : Nat × Nat) (hw : wd o.c = some w) (f1 : fit w.1 o.a) (f2 : fit w.2 o.b) : enc1 o = some (o.c :: be w.1 o.a ++ be w.2 o.b) := by
  simp only [enc1, hw]
  exact if_pos ⟨f1, f2⟩
theorem enc1_no (o : O) (w : Nat × Nat) (hw : wd o.c = some w) (h : ¬ (fit w.1 o.a ∧ fit w.2 o.b)) : enc1 o = none := by
  simp only [enc1, hw]
  exact if_neg h
theorem refenc_l0 (l : List S47) (hc : ∀ x ∈ l.map g47, 0 ≤ x.f0 ∧ x.f0 < 256) (hl : l.length ≤ 100000) : ∀ (m i : Nat) (acc : List Int), i + m = l.length → acc.length ≤ 5 * i →
    colloquyref07_Encode.l0 (m + 1) l acc (i : Int) = some (refR ((encs ((l.drop i).map o47)).map (acc ++ ·))) := by
  intro m
  induction m with
  | zero =>
    intro i acc hi ha
    have e : l.drop i = [] := List.drop_of_length_le (by omega)
    have h1 : ¬ (i : Int) < (l.length : Int) := by omega
    rw [colloquyref07_Encode.l0, if_neg h1, e]
    simp only [List.map_nil, encs, Option.map_some, List.append_nil, refR]
    by_cases h2 : acc.length > 512
    · rw [if_pos (by omega), if_pos h2]
    · rw [if_neg (by omega), if_neg h2]
  | succ m ih =>
    intro i acc hi ha
    have h1 : (i : Int) < (l.length : Int) := by omega
    have h2 : (0 : Int) ≤ (i : Int) := by omega
    have hd := drop_rd47 l i (by omega)
    have hm : rd_T47 l (i : Int) ∈ l := by
      have : rd_T47 l (i : Int) ∈ l.drop i := by rw [hd]; simp
      exact List.mem_of_mem_drop this
    obtain ⟨c0, c1⟩ := hc _ (List.mem_map_of_mem hm)
    simp only [g47] at c0 c1
    obtain ⟨s, s2, n1, n2, e1, e2, e3, e4, _⟩ := ref_of _ c0 c1
    have h3 : acc.length < 140737488355328 := by omega
    rw [colloquyref07_Encode.l0, if_pos h1, if_pos h2, e1, Option.bind_some]
    simp only [e4, Option.bind_some]
    rw [if_pos h3, hd, List.map_cons, encs]
    have hw' : wrap64 ((i : Int) + 1) = ((i + 1 : Nat) : Int) := wrap_nat _ _ (by omega) (by omega)
    cases hw : wd (rd_T47 l (i : Int)).f0 with
    | none =>
      obtain ⟨z1, p1, q1, _⟩ := refput_f (acc ++ [(rd_T47 l (i : Int)).f0]) (rd_T47 l (i : Int)).f1 0 (by omega) (by clear hw'; simp; omega)
      obtain ⟨z2, p2, _, _⟩ := refput_f z1 (rd_T47 l (i : Int)).f2 0 (by omega) (by clear hw'; simp at q1; omega)
      rw [show ((0 : Nat) : Int) = 0 from rfl] at p1 p2
      simp [p1, p2, enc1, o47, hw, refR]
    | some w =>
      have hw2 := wd_le hw
      obtain ⟨z1, p1, q1, r1⟩ := refput_f (acc ++ [(rd_T47 l (i : Int)).f0]) (rd_T47 l (i : Int)).f1 w.1 hw2.1 (by clear hw'; simp; omega)
      obtain ⟨z2, p2, q2, r2⟩ := refput_f z1 (rd_T47 l (i : Int)).f2 w.2 hw2.2 (by clear hw'; simp at q1; omega)
      simp only [p1, p2, Option.bind_some, Option.isSome_some, if_true, hw]
      by_cases f1 : fit w.1 (rd_T47 l (i : Int)).f1
      · by_cases f2 : fit w.2 (rd_T47 l (i : Int)).f2
        · have e5 : z2 = acc ++ ((rd_T47 l (i : Int)).f0 :: be w.1 (rd_T47 l (i : Int)).f1 ++ be w.2 (rd_T47 l (i : Int)).f2) := by rw [r2 f2, r1 f1]; simp
          have h4 := ih (i + 1) z2 (by omega) (by rw [e5]; clear hw' e5; simp [be_length]; omega)
          rw [if_pos (by simp [f1]), if_pos (by simp [f2]), hw', h4, enc1_some (o47 (rd_T47 l (i : Int))) w hw f1 f2, Option.bind_some, Option.map_map, e5]
          congr 3
          funext z
          simp [List.append_assoc, o47]
        · rw [enc1_no (o47 (rd_T47 l (i : Int))) w hw (fun h => f2 h.2)]
          simp [f1, f2, refR]
      · rw [enc1_no (o47 (rd_T47 l (i : Int))) w hw (fun h => f1 h.1)]
        simp [f1, refR]
theorem refenc_g (k : Nat) (l : List S47) (hc : ∀ x ∈ l.map g47, 0 ≤ x.f0 ∧ x.f0 < 256) (hl : l.length ≤ 1000) (hk : 1100 ≤ k) : colloquyref07_Encode.f k l = some (refR (encs (l.map o47))) := by
  refine lift_ (fun j => colloquyref07_Encode.mono l j) (k := l.length + 1) ?_ (by omega)
  have := refenc_l0 l hc (by omega) l.length 0 [] (by omega) (by simp)
  rw [colloquyref07_Encode.f, show (0 : Int) = ((0 : Nat) : Int) from rfl, this]
  simp
theorem num_snoc (l : List Int) (y : Int) : num (l ++ [y]) = num l * 256 + y := by simp [num]
theorem num_small (l : List Int) (hl : l.length ≤ 2) (hb : ∀ x ∈ l, 0 ≤ x ∧ x < 256) : 0 ≤ num l ∧ num l < 65536 := by
  match l, hl with
  | [], _ => simp [num]
  | [x], _ =>
    have := hb x (by simp)
    simp [num]; omega
  | [x, y], _ =>
    have h1 := hb x (by simp)
    have h2 := hb y (by simp)
    simp [num]; omega
theorem take_rd2 (P : List Int) (i : Nat) (h : i < P.length) : P.take (i + 1) = P.take i ++ [rd P (i : Int)] := by
  rw [List.take_succ_eq_append_getElem h]
  simp [rd, h]
theorem rd_drop (x : List Int) (i j : Nat) : rd x ((i + j : Nat) : Int) = rd (x.drop i) (j : Int) := by simp only [rd, Int.toNat_natCast, List.getD_eq_getElem?_getD, List.getElem?_drop]
theorem shift256 (n y : Int) (n0 : 0 ≤ n) (n1 : n < 65536) (y0 : 0 ≤ y) (y1 : y < 256) : wrap64 (wrap64 (256 * n) + wrap64 y) = n * 256 + y := by
  rw [wrap_in (x := 256 * n) (by omega) (by omega), wrap_in (x := y) (by omega) (by omega), wrap_in (by omega) (by omega)]
  omega
theorem refdec_l1 (x : List Int) (hx : x.length ≤ 900) (hb : ∀ y ∈ x, 0 ≤ y ∧ y < 256) (i : Nat) (acc : List S47) (at_ : List Int) (ha : acc.length ≤ i) (ht : at_.length ≤ i) (c : Int) (w0 w1 : Nat) (h0 : w0 ≤ 2) (h1 : w1 ≤ 2) (hl : i + 1 + w0 + w1 ≤ x.length) (K : Nat) :
    ∀ (m j : Nat), j + m = w0 + w1 →
    colloquyref07_Decode.l1 (m + K + 1) x acc at_ (i : Int) ((1 + w0 + w1 : Nat) : Int) (w0 : Int) ((1 + j : Nat) : Int) c (num ((x.drop (i + 1)).take (min j w0))) (num (((x.drop (i + 1)).drop w0).take (j - w0))) =
      colloquyref07_Decode.l0 K x (acc ++ [⟨c, num ((x.drop (i + 1)).take w0), num (((x.drop (i + 1)).drop w0).take w1)⟩]) (at_ ++ [(i : Int)]) ((i + 1 + w0 + w1 : Nat) : Int) := by
  intro m
  induction m with
  | zero =>
    intro j hj
    have e1 : ¬ (((1 + j : Nat) : Int) < ((1 + w0 + w1 : Nat) : Int)) := by omega
    have i7 : acc.length < 5864062014805 := by omega
    have i8 : at_.length < 17592186044416 := by omega
    rw [Nat.zero_add, colloquyref07_Decode.l1, if_neg e1, if_pos i7, if_pos i8, show min j w0 = w0 by omega, show j - w0 = w1 by omega]
    rw [wrap_nat ((i : Int) + ((1 + w0 + w1 : Nat) : Int)) (i + 1 + w0 + w1) (by omega) (by omega)]
  | succ m ih =>
    intro j hj
    have e1 : ((1 + j : Nat) : Int) < ((1 + w0 + w1 : Nat) : Int) := by omega
    have e2 : (0 : Int) ≤ ((i + 1 + j : Nat) : Int) := by omega
    have e3 : ((i + 1 + j : Nat) : Int) < (x.length : Int) := by omega
    have h2 := ih (j + 1) (by omega)
    have hm : rd (x.drop (i + 1)) (j : Int) ∈ x := by
      have : j < (x.drop (i + 1)).length := by rw [List.length_drop]; omega
      have h3 : rd (x.drop (i + 1)) (j : Int) ∈ x.drop (i + 1) := by
        simp only [rd, Int.toNat_natCast, List.getD_eq_getElem?_getD, List.getElem?_eq_getElem this, Option.getD_some]
        exact List.getElem_mem this
      exact List.mem_of_mem_drop h3
    obtain ⟨y0, y1⟩ := hb _ hm
    have hr := rd_drop x (i + 1) j
    have q1 : wrap64 ((i : Int) + ((1 + j : Nat) : Int)) = ((i + 1 + j : Nat) : Int) := wrap_nat _ _ (by omega) (by omega)
    have q2 : wrap64 (((1 + j : Nat) : Int) + 1) = ((1 + (j + 1) : Nat) : Int) := by
      clear q1
      exact wrap_nat _ _ (by omega) (by omega)
    rw [show m + 1 + K + 1 = m + K + 1 + 1 by clear q1 q2; omega, colloquyref07_Decode.l1, if_pos e1, q1, q2, hr]
    clear q1 q2
    by_cases hj2 : j < w0
    · have e4 : ((1 + j : Nat) : Int) ≤ (w0 : Int) := by omega
      have n1 := num_small ((x.drop (i + 1)).take j) (by simp; omega) (fun z hz => hb z (List.mem_of_mem_drop (List.mem_of_mem_take hz)))
      have e5 : min (j + 1) w0 = j + 1 := by omega
      have e6 : min j w0 = j := by omega
      have e7 : j + 1 - w0 = j - w0 := by omega
      rw [e5, e7, take_rd2 _ j (by rw [List.length_drop]; omega), num_snoc] at h2
      rw [if_pos e4, if_pos e2, if_pos e3, e6, shift256 _ _ n1.1 n1.2 y0 y1]
      exact h2
    · have e4 : ¬ ((1 + j : Nat) : Int) ≤ (w0 : Int) := by omega
      have n1 := num_small (((x.drop (i + 1)).drop w0).take (j - w0)) (by simp; omega) (fun z hz => hb z (List.mem_of_mem_drop (List.mem_of_mem_drop (List.mem_of_mem_take hz))))
      have e5 : min (j + 1) w0 = w0 := by omega
      have e6 : min j w0 = w0 := by omega
      have e7 : j + 1 - w0 = j - w0 + 1 := by omega
      have e8 := rd_drop (x.drop (i + 1)) w0 (j - w0)
      rw [show w0 + (j - w0) = j by omega] at e8
      rw [e5, e7, take_rd2 _ (j - w0) (by rw [List.length_drop, List.length_drop]; omega), num_snoc, ← e8] at h2
      rw [if_neg e4, if_pos e2, if_pos e3, e6, shift256 _ _ n1.1 n1.2 y0 y1]
      exact h2
def s47 (o : O) : S47 := ⟨o.c, o.a, o.b⟩
def refD (acc : List S47) (at_ : List Int) (i : Nat) (x : Option (List O)) : List S47 × List Int × Int := match x with
  | none => ([], [], 8)
  | some l => (acc ++ l.map s47, at_ ++ pos i l, 0)
theorem refdec_round (K : Nat) (x : List Int) (hx : x.length ≤ 512) (hb : ∀ y ∈ x, 0 ≤ y ∧ y < 256) (i : Nat) (hi : i < x.length) (acc : List S47) (at_ : List Int) (ha : acc.length ≤ i) (ht : at_.length ≤ i) :
    ∃ K', K ≤ K' ∧ K' ≤ K + 4 ∧ colloquyref07_Decode.l0 (K + 7) x acc at_ (i : Int) = match wd (rd x (i : Int)) with
      | none => some ([], [], 8)
      | some w => if w.1 + w.2 ≤ x.length - (i + 1) then colloquyref07_Decode.l0 K' x (acc ++ [⟨rd x (i : Int), num ((x.drop (i + 1)).take w.1), num (((x.drop (i + 1)).drop w.1).take w.2)⟩]) (at_ ++ [(i : Int)]) ((i + 1 + w.1 + w.2 : Nat) : Int) else some ([], [], 8) := by
  have h1 : (i : Int) < (x.length : Int) := by omega
  have h2 : (0 : Int) ≤ (i : Int) := by omega
  have hm : rd x (i : Int) ∈ x := by
    have : rd x (i : Int) ∈ x.drop i := by rw [drop_rdi x i hi]; simp
    exact List.mem_of_mem_drop this
  obtain ⟨c0, c1⟩ := hb _ hm
  obtain ⟨s, s2, n1, n2, e1, e2, e3, e4, _, _, _, _, e5⟩ := ref_of _ c0 c1
  cases hw : wd (rd x (i : Int)) with
  | none =>
    refine ⟨K, by omega, by omega, ?_⟩
    rw [hw] at e5
    rw [show K + 7 = K + 5 + 1 + 1 by omega, colloquyref07_Decode.l0, if_pos h1, if_pos h2, e5]
    simp [colloquyref07_Decode.j1]
  | some w =>
    have hw2 := wd_le hw
    rw [hw] at e4 e5
    have hn : ¬ (((1 + w.1 + w.2 : Nat) : Int) = 0) := by omega
    refine ⟨K + 4 - w.1 - w.2, by omega, by omega, ?_⟩
    rw [show K + 7 = K + 5 + 1 + 1 by omega, colloquyref07_Decode.l0, if_pos h1, if_pos h2, e5]
    simp only [Option.bind_some]
    rw [if_neg hn, wrap_nat ((i : Int) + ((1 + w.1 + w.2 : Nat) : Int)) (i + 1 + w.1 + w.2) (by omega) (by omega), colloquyref07_Decode.j1]
    by_cases hl : w.1 + w.2 ≤ x.length - (i + 1)
    · have q0 : ¬ (decide (((i + 1 + w.1 + w.2 : Nat) : Int) > (x.length : Int)) = true) := by simp; omega
      have h5 := refdec_l1 x (by omega) hb i acc at_ ha ht (rd x (i : Int)) w.1 w.2 hw2.1 hw2.2 (by omega) (K + 4 - w.1 - w.2) (w.1 + w.2) 0 (by omega)
      have e8 : w.1 + w.2 + (K + 4 - w.1 - w.2) + 1 = K + 5 := by omega
      rw [if_neg q0, if_pos h2, if_pos h1, e1, Option.bind_some]
      simp only [e4, Option.bind_some, if_pos hl]
      rw [e8] at h5
      simpa [num] using h5
    · have q0 : decide (((i + 1 + w.1 + w.2 : Nat) : Int) > (x.length : Int)) = true := by simp; omega
      rw [if_pos q0]
      simp only [if_neg hl]
theorem refdec_l0 (x : List Int) (hx : x.length ≤ 512) (hb : ∀ y ∈ x, 0 ≤ y ∧ y < 256) : ∀ (m i : Nat) (acc : List S47) (at_ : List Int) (F : Nat), 7 * m + 7 ≤ F → x.length ≤ i + m → i ≤ x.length → acc.length ≤ i → at_.length ≤ i →
    colloquyref07_Decode.l0 F x acc at_ (i : Int) = some (refD acc at_ i (dec (x.drop i))) := by
  intro m
  induction m with
  | zero =>
    intro i acc at_ F hF hm hi ha ht
    have e : x.drop i = [] := List.drop_of_length_le (by omega)
    have h1 : ¬ (i : Int) < (x.length : Int) := by omega
    obtain ⟨F', rfl⟩ : ∃ F', F = F' + 1 := ⟨F - 1, by omega⟩
    rw [colloquyref07_Decode.l0, if_neg h1, e, dec_nil]
    simp [refD, pos]
  | succ m ih =>
    intro i acc at_ F hF hm hi ha ht
    by_cases hlt : i < x.length
    · obtain ⟨K, rfl⟩ : ∃ K, F = K + 7 := ⟨F - 7, by omega⟩
      obtain ⟨K', k1, k2, hr⟩ := refdec_round K x hx hb i hlt acc at_ ha ht
      rw [hr, drop_rdi x i hlt, dec]
      cases hw : wd (rd x (i : Int)) with
      | none => simp [refD]
      | some w =>
        simp only [List.length_drop]
        by_cases hl : w.1 + w.2 ≤ x.length - (i + 1)
        · rw [if_pos hl, if_pos hl, ih (i + 1 + w.1 + w.2) _ _ K' (by omega) (by omega) (by omega) (by simp; omega) (by simp; omega), show (x.drop (i + 1)).drop (w.1 + w.2) = x.drop (i + 1 + w.1 + w.2) by rw [List.drop_drop]; congr 1; omega]
          cases dec (x.drop (i + 1 + w.1 + w.2)) with
          | none => rfl
          | some l => simp [refD, pos, sz, hw, s47]; congr 1; omega
        · rw [if_neg hl, if_neg hl]
          simp [refD]
    · have e : x.drop i = [] := List.drop_of_length_le (by omega)
      have h1 : ¬ (i : Int) < (x.length : Int) := by omega
      obtain ⟨F', rfl⟩ : ∃ F', F = F' + 1 := ⟨F - 1, by omega⟩
      rw [colloquyref07_Decode.l0, if_neg h1, e, dec_nil]
      simp [refD, pos]
theorem refdec_g (k : Nat) (x : List Int) (hb : ∀ y ∈ x, 0 ≤ y ∧ y < 256) (hk : 4000 ≤ k) : colloquyref07_Decode.f k x = some (if x.length > 512 then ([], [], 4) else refD [] [] 0 (dec x)) := by
  rw [colloquyref07_Decode.f]
  by_cases h : x.length > 512
  · rw [if_pos (by omega), if_pos h]
  · rw [if_neg (by omega), if_neg h, show (0 : Int) = ((0 : Nat) : Int) from rfl, refdec_l0 x (by omega) hb 512 0 [] [] k (by omega) (by omega) (by omega) (by simp) (by simp)]
    simp
theorem ints_l0 (P : List Int) (hP : P.length ≤ 1000) : ∀ (m i : Nat), i + m = P.length → colloquylaw07_ints.l0 (m + 1) P P (i : Int) = some true := by
  intro m
  induction m with
  | zero =>
    intro i hi
    have h1 : ¬ (i : Int) < (P.length : Int) := by omega
    rw [colloquylaw07_ints.l0, if_neg h1]
  | succ m ih =>
    intro i hi
    have h1 : (i : Int) < (P.length : Int) := by omega
    have h2 : (0 : Int) ≤ (i : Int) := by omega
    rw [colloquylaw07_ints.l0, if_pos h1, if_pos h2, if_pos h1, if_pos rfl, wrap_nat ((i : Int) + 1) (i + 1) (by omega) (by omega)]
    exact ih (i + 1) (by omega)
theorem ints_g (k : Nat) (P : List Int) (hP : P.length ≤ 1000) (hk : 1100 ≤ k) : colloquylaw07_ints.f k P P = some true := by
  refine lift_ (fun j => colloquylaw07_ints.mono P P j) (k := P.length + 1) ?_ (by omega)
  rw [colloquylaw07_ints.f, if_pos rfl, show (0 : Int) = ((0 : Nat) : Int) from rfl, ints_l0 P hP P.length 0 (by omega)]
theorem s47_g (q : List O) : (q.map s47).map g47 = q.map s51 := by simp [Function.comp_def, s47, s51, g47]
theorem encRR (x : Option (List Int)) : (encR x).1 = (refR x).1 ∧ ((encR x).2).getD 0 = (refR x).2 := by
  cases x with
  | none => exact ⟨rfl, rfl⟩
  | some y =>
    simp only [encR, refR]
    split <;> exact ⟨rfl, rfl⟩
theorem dec_len : ∀ (n : Nat) (b : List Int) (l : List O), b.length ≤ n → dec b = some l → l.length ≤ b.length := by
  intro n
  induction n with
  | zero =>
    intro b l hn h
    have : b = [] := List.length_eq_zero_iff.1 (by omega)
    subst this
    rw [dec_nil] at h
    simp only [Option.some.injEq] at h
    subst h; simp
  | succ n ih =>
    intro b l hn h
    cases b with
    | nil =>
      rw [dec_nil] at h
      simp only [Option.some.injEq] at h
      subst h; simp
    | cons c r =>
      rw [dec] at h
      split at h
      · simp at h
      · split at h
        · rw [Option.map_eq_some_iff] at h
          obtain ⟨q, h1, rfl⟩ := h
          have h2 := ih _ q (by simp [List.length_drop] at hn ⊢; omega) h1
          simp [List.length_drop] at h2 ⊢; omega
        · simp at h
theorem OpTells : colloquylaw07_OpTells.Pure := by
  intro l b c hm hw hm1 hy1 hb hc
  have hb2 : ∀ z ∈ b, 0 ≤ z ∧ z < 256 := fun z hz => wf_u8 (hb z hz)
  have hc2 := wf47 hw
  obtain ⟨c0, c1⟩ := wf_u8 hc
  refine ⟨4001, ?_⟩
  have hs := sure_g 4000 (by omega)
  rw [colloquylaw07_OpTells.f]
  have hS : colloquylaw07_OpTells.j0 (4000 + 1) l b c true = some true := by
    rw [colloquylaw07_OpTells.j0, if_pos rfl, hs]; rfl
  by_cases h1 : l.length > 300
  · rw [if_pos (by omega)]; exact hS
  · rw [if_neg (by omega)]
    by_cases h2 : b.length > 900
    · rw [decide_eq_true (by omega)]; exact hS
    · rw [decide_eq_false (by omega)]
      obtain ⟨s, s2, n1, n2, e1, e2, e3, e4, e5, e6, e7, e8, e9⟩ := ref_of c c0 c1
      have he := encode_g 4000 (l.map g47) hc2 (by simp; omega) (by omega)
      rw [map_o] at he
      have hr := refenc_g 4000 l hc2 (by omega) (by omega)
      have hd := decode_g 4000 b hb2 (by omega)
      have hq := refdec_g 4000 b hb2 (by omega)
      obtain ⟨r1, r2⟩ := encRR (encs (l.map o47))
      rw [e9] at e8
      obtain ⟨D, E, a1, a2, a3, a4, a5⟩ : ∃ D E, op_Decode.f 4000 b = some D ∧ colloquyref07_Decode.f 4000 b = some E ∧ colloquylaw07_areOps.f 4000 D.1 E.1 = some true ∧ colloquylaw07_ints.f 4000 D.2.1 E.2.1 = some true ∧ D.2.2.getD 0 = E.2.2 := by
        refine ⟨_, _, hd, hq, ?_⟩
        by_cases h3 : b.length > 512
        · rw [if_pos h3, if_pos h3]
          exact ⟨are_g 4000 [] (by simp) (by omega), ints_g 4000 [] (by simp) (by omega), rfl⟩
        · rw [if_neg h3, if_neg h3]
          cases hd2 : dec b with
          | none => exact ⟨are_g 4000 [] (by simp) (by omega), ints_g 4000 [] (by simp) (by omega), rfl⟩
          | some q =>
            have h4 := dec_len _ b q (Nat.le_refl _) hd2
            have h5 := are_g 4000 (q.map s47) (by simp; omega) (by omega)
            rw [s47_g] at h5
            exact ⟨by simpa [decR, refD] using h5, by simpa [decR, refD] using ints_g 4000 (pos 0 q) (by rw [pos_length]; omega) (by omega), rfl⟩
      rw [colloquylaw07_OpTells.j0, if_neg (by simp), give_g 4000 l (by omega) (by omega)]
      simp only [Option.bind_some, he, hr, a1, a2, e1, e2, r1, if_true, colloquylaw07_num.f, r2, a3, a4, a5, e3, e5, e6, e7, e8, e9, hs, BEq.rfl]

end Go.Proofs.YthcbojpafamlcaaDoor.Pure
