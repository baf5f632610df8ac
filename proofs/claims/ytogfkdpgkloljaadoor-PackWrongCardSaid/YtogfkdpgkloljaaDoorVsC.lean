/-
  The translation of Go's operations into instructions on values. No condition.
-/
import Derived.Test.YtogfkdpgkloljaaDoorVsA
set_option linter.unusedVariables false
set_option linter.unusedSimpArgs false
namespace Go.Proofs.YtogfkdpgkloljaaDoorVs

def szOf (P : Program) (t : TypeId) : Option Nat := (P.info? t).map (·.size)
def agT (P : Program) (t : TypeId) : Option Bool := match P.underlying t with
  | some (.struct _) | some (.array _ _) => some true
  | some _ => some false
  | none => none
def elT (P : Program) (t : TypeId) : Option TypeId := match P.underlying t with
  | some (.slice e) => some e
  | _ => none
def bytesT (P : Program) (t : TypeId) : Option Nat := (P.info? t).map (·.bytes)
/-- the types of a type's cells -/
def leaves (P : Program) : Nat → TypeId → Option (List TypeId)
  | 0, _ => none
  | n + 1, t => match P.underlying t with
    | some (.struct fs) => (fs.toList.mapM fun f => leaves P n f.type).map List.flatten
    | some (.array k e) => (leaves P n e).map fun l => (List.replicate k l).flatten
    | some _ => some [t]
    | none => none
def leafAt (P : Program) (s : Src) (t : TypeId) : Option At := match P.underlying t with
  | some (.int _) | some .bool | some .string => some (.v .fz)
  | some (.interface _) => some (.v s)
  | some (.slice _) => some (.v s)
  | _ => none
def leafAts (P : Program) (s : Src) (t : TypeId) : Option (List At) := (leaves P 8 t).bind fun l => l.mapM (leafAt P s)

structure Seg where
  sh : Sh
  arg : VArg
def zV (P : Program) (v : Value) (t : TypeId) : Option (At × V) :=
  match v with
  | .int k n => some (.v .fz, .int k n)
  | .bool b => some (.v .fz, .bool b)
  | .string s => some (.v .fz, .str s)
  | .nilIface => some (.v .fz, .nilI)
  | .slice none 0 0 => (elT P t).map fun e => (.nils, .list e [])
  | .pointer none => some (.nilp, .unit)
  | _ => none
def opd (P : Program) (x : Operand) (ty : TypeId) : RM Seg :=
  match x with
  | .tmp t => .sl t fun h => .ok ⟨h, .c (sC t)⟩
  | .const v => match zV P v ty with
    | some (a, x) => .ok ⟨.one a, .lit [x]⟩
    | none => .no
  | _ => .no
def Sh.flat : Sh → Option (Bool × List At)
  | .one a => some (false, [a])
  | .agg as => some (true, as)
  | .tup _ => none
def Sh.atoms : Sh → List At
  | .one a => [a]
  | .agg as => as
  | .tup ps => (ps.map (·.2)).flatten
def mkSh (ag : Bool) (as : List At) : Option Sh := if ag then some (.agg as) else match as with
  | [a] => some (.one a)
  | _ => none

structure Eff where
  vis : List VI
  kill : List Nat := []
  stale : List Nat := []
  setb : List (Nat × Bx) := []
  dst : Sh := .one .dead
def Al.setBs (α : Al) : List (Nat × Bx) → Al
  | [] => α
  | (u, b) :: r => (α.setB u b).setBs r
def Eff.ap (E : Eff) (α : Al) (d : Option Nat) : Al :=
  let β := ((α.map (At.stale E.stale)).map (At.kill E.kill)).setBs E.setb
  match d with
  | some d => β.setS d E.dst
  | none => β

/-! ### moving values about -/
abbrev Pc := VArg × Nat
def numb : Nat → List (List Pc) → List (List (Nat × Nat))
  | _, [] => []
  | k, ps :: r => (ps.zipIdx k).map (fun p => (p.2, p.1.2)) :: numb (k + ps.length) r
def viG (outs : List (Nat × List Pc)) (chk asr : List (Nat × Nat)) : VI :=
  { f := .gather (numb 0 (outs.map (·.2))), rd := (outs.map (·.2)).flatten.map (·.1), chk, asr, wr := outs.map (·.1) }
def allPc (g : VArg) (n : Nat) : List Pc := (List.range n).map fun j => (g, j)
def pcU : Pc := (.lit [.unit], 0)
structure Pcs where
  ps : List Pc
  chk : List (Nat × Nat) := []
  asr : List (Nat × Nat) := []
  kill : List Nat := []
/-- an atom's value: for good (own rows are given away), or for the while of a call -/
def frz1 (g : VArg) (j : Nat) : At → Option Pcs
  | .v .fz => some { ps := [(g, j)] }
  | .nils => some { ps := [(g, j)] }
  | .own t => match g with
    | .c i => some { ps := [(.c (tC t), 0)], chk := [(i, j)], kill := [tkK t] }
    | _ => none
  | _ => none
def lnd1 (g : VArg) (j : Nat) : At → Option Pcs
  | .v _ => some { ps := [(g, j)] }
  | .nils => some { ps := [(g, j)] }
  | .own t => match g with
    | .c i => some { ps := [(.c (tC t), 0)], chk := [(i, j)] }
    | _ => none
  | _ => none
def own1 (g : VArg) (j : Nat) : At → Option Pcs
  | .nils => some { ps := [(g, j)] }
  | .own t => match g with
    | .c i => some { ps := [(.c (tC t), 0)], chk := [(i, j)], kill := [tkK t] }
    | _ => none
  | _ => none
def Pcs.cat (a b : Pcs) : Pcs := ⟨a.ps ++ b.ps, a.chk ++ b.chk, a.asr ++ b.asr, a.kill ++ b.kill⟩
def pcsL (f : Nat → At → Option Pcs) : Nat → List At → Option Pcs
  | _, [] => some { ps := [] }
  | j, a :: r => (f j a).bind fun p => (pcsL f (j + 1) r).map p.cat
/-- literal nil slices become own rows: atoms, values, the rows' values -/
abbrev APc := At × Pc
def apc (as : List At) (g : VArg) : List APc := as.zipIdx.map fun p => (p.1, (g, p.2))
def ownA (base : Nat) (l : List APc) : List At := l.zipIdx.map fun p => if p.1.1 = .nils then .own (base + p.2) else p.1.1
def ownP (l : List APc) : List Pc := l.map fun p => if p.1 = .nils then pcU else p.2
def ownTl (base : Nat) : Nat → List APc → List (Nat × Pc)
  | _, [] => []
  | j, (a, p) :: r => if a = .nils then (base + j, p) :: ownTl base (j + 1) r else ownTl base (j + 1) r
def ownT (base : Nat) (l : List APc) : List (Nat × List Pc) := (ownTl base 0 l).map fun p => (tC p.1, [p.2])
def ownK (base : Nat) (l : List APc) : List Nat := (ownTl base 0 l).map fun p => tkK p.1
def noNils (as : List At) : Bool := as.all fun a => a != .nils
/-- the atoms that stay name nothing that is struck -/
def clean (ks : List Nat) (as : List At) : Bool := as.all fun a => a.kill ks == a

def copMove (P : Program) (d : Nat) (x : Operand) (ty : TypeId) : RM Eff := do
  let s ← opd P x ty
  match s.sh with
  | .one .nils => .ok { vis := [viG [(tC (tokS d 0), [(s.arg, 0)]), (sC d, [pcU])] [] []], kill := [tkK (tokS d 0)], dst := .one (.own (tokS d 0)) }
  | h => do
    RM.need (noNils h.atoms)
    .ok { vis := [viG [(sC d, allPc s.arg h.atoms.length)] [] []], dst := h }
def srcMeet : Src → Src → Option Src
  | .fz, .fz => some .fz
  | .fz, .lent => some .lent
  | .lent, .fz => some .lent
  | .lent, .lent => some .lent
  | .of t, .of u => if t = u then some (.of t) else none
  | _, _ => none
def one1 (s : Seg) : RM Src := match s.sh with
  | .one (.v k) => .ok k
  | _ => .no
def copPick (P : Program) (d : Nat) (c a b : Operand) (ty : TypeId) : RM Eff := do
  let c ← opd P c ty; let a ← opd P a ty; let b ← opd P b ty
  let _ ← one1 c; let s1 ← one1 a; let s2 ← one1 b
  let s ← RM.opt (srcMeet s1 s2)
  .ok { vis := [{ f := .pick, rd := [c.arg, a.arg, b.arg], wr := [sC d] }], dst := .one (.v s) }
def copUn (P : Program) (d : Nat) (op : UnOp) (t : TypeId) (x : Operand) : RM Eff := do
  let x ← opd P x t; let _ ← one1 x
  .ok { vis := [{ f := .un op, rd := [x.arg], wr := [sC d] }], dst := .one (.v .fz) }
def isNilP : Operand → Bool
  | .const (.pointer none) => true
  | _ => false
def isConst : Operand → Bool
  | .const _ => true
  | _ => false
/-- of which kind two values are that are compared, or reckoned with -/
def clsOf (P : Program) (t : TypeId) : Option Nat := match P.underlying t with
  | some (.int _) => some 0
  | some .string => some 1
  | some .bool => some 2
  | some (.interface _) => some 3
  | _ => none
def copBin (P : Program) (d : Nat) (op : BinOp) (t : TypeId) (x y : Operand) (u : TypeId) : RM Eff := do
  let x' ← opd P x t; let y' ← opd P y u
  if isNilP y then
    match P.underlying t, op with
    | some (.pointer _), .eql => match x'.sh, x'.arg with
      | .one (.ptr _ _), .c i => .ok { vis := [viG [(sC d, [(.lit [.bool false], 0)])] [(i, 0)] []], dst := .one (.v .fz) }
      | .one .nilp, .c i => .ok { vis := [viG [(sC d, [(.lit [.bool true], 0)])] [(i, 0)] []], dst := .one (.v .fz) }
      | .one (.opt _), .c i => .ok { vis := [{ f := .notv, rd := [.c i], wr := [sC d] }], dst := .one (.v .fz) }
      | _, _ => .no
    | some (.pointer _), .neq => match x'.sh, x'.arg with
      | .one (.ptr _ _), .c i => .ok { vis := [viG [(sC d, [(.lit [.bool true], 0)])] [(i, 0)] []], dst := .one (.v .fz) }
      | .one .nilp, .c i => .ok { vis := [viG [(sC d, [(.lit [.bool false], 0)])] [(i, 0)] []], dst := .one (.v .fz) }
      | .one (.opt _), .c i => .ok { vis := [{ f := .notv, rd := [.c i], wr := [sC d] }, { f := .notv, rd := [.c (sC d)], wr := [sC d] }], dst := .one (.v .fz) }
      | _, _ => .no
    | _, _ => .no
  else do
    let _ ← one1 x'; let _ ← one1 y'
    let cls ← RM.opt (clsOf P t)
    RM.need (cls != 3 || isConst y)
    .ok { vis := [{ f := .bin op cls, rd := [x'.arg, y'.arg], wr := [sC d] }], dst := .one (.v .fz) }
/-- a row's value, to be read: where it stands, what it leans on, what is to be checked -/
def cont (s : Seg) : Option (VArg × Src × List (Nat × Nat)) :=
  match s.sh, s.arg with
  | .one (.v k), g => some (g, k, [])
  | .one .nils, g => some (g, .fz, [])
  | .one (.own t), .c i => some (.c (tC t), .of t, [(i, 0)])
  | _, _ => none
def copConv (P : Program) (d : Nat) (src dst : TypeId) (x : Operand) : RM Eff := do
  let x ← opd P x src
  match P.underlying src, P.underlying dst with
  | some (.int _), some (.int k) => do
    let _ ← one1 x
    .ok { vis := [{ f := .conv k, rd := [x.arg], wr := [sC d] }], dst := .one (.v .fz) }
  | some .string, some .string => do
    let _ ← one1 x
    .ok { vis := [{ f := .sconv, rd := [x.arg], wr := [sC d] }], dst := .one (.v .fz) }
  | some (.slice e), some .string => do
    let (g, _, chk) ← RM.opt (cont x)
    RM.need (match P.underlying e with | some (.int .u8) => true | _ => false)
    RM.need (szOf P e == some 1)
    .ok { vis := [{ f := .str e, rd := [g], chk, wr := [sC d] }], dst := .one (.v .fz) }
  | some .string, some (.slice e) => do
    let _ ← one1 x
    RM.need (match P.underlying e with | some (.int .u8) => true | _ => false)
    RM.need (szOf P e == some 1)
    .ok { vis := [{ f := .byt e, rd := [x.arg], wr := [tC (tokS d 0)] }, viG [(sC d, [pcU])] [] []], kill := [tkK (tokS d 0)], dst := .one (.own (tokS d 0)) }
  | _, _ => .no
def copExtract (P : Program) (d : Nat) (x : Operand) (i : Nat) : RM Eff := do
  let x ← opd P x 0
  match x.sh with
  | .tup ps => do
    let p ← RM.opt ps[i]?
    let off := ((ps.take i).map (·.2.length)).sum
    let h ← RM.opt (mkSh p.1 p.2)
    .ok { vis := [viG [(sC d, (List.range p.2.length).map fun j => (x.arg, off + j))] [] []], dst := h }
  | _ => .no
def fieldOf (P : Program) (t : TypeId) (f : Nat) : Option (Nat × Nat × Bool) := match P.underlying t with
  | some (.struct fs) => (fs[f]?).bind fun g => (szOf P g.type).bind fun n => (agT P g.type).map fun b => (g.offset, n, b)
  | _ => none
def fieldT (P : Program) (t : TypeId) (f : Nat) : Option TypeId := match P.underlying t with
  | some (.struct fs) => (fs[f]?).map (·.type)
  | _ => none
def copField (P : Program) (d : Nat) (t : TypeId) (x : Operand) (f : Nat) : RM Eff := do
  let x ← opd P x t
  match x.sh with
  | .agg as => do
    let (off, n, ag) ← RM.opt (fieldOf P t f)
    RM.need (decide (off + n ≤ as.length))
    let h ← RM.opt (mkSh ag ((as.drop off).take n))
    .ok { vis := [viG [(sC d, (List.range n).map fun j => (x.arg, off + j))] [] []], dst := h }
  | _ => .no
/-- a type's zero: its atoms and values -/
def zeroOf (P : Program) (t : TypeId) : Option (List At × List V) :=
  (P.info? t).bind fun i => i.zero.bind fun z => (leaves P 8 t).bind fun ls =>
    if z.cells.size = ls.length ∧ i.size = ls.length then ((z.cells.toList.zip ls).mapM fun p => zV P p.1 p.2).map fun l => (l.map (·.1), l.map (·.2)) else none
def memAt : At → Bool
  | .v _ | .own _ | .nils | .ptr _ _ | .opt _ | .nilp => true
  | _ => false
def copAlloc (P : Program) (d : Nat) (t : TypeId) : RM Eff := do
  let (as, vs) ← RM.opt (zeroOf P t)
  let l := apc as (.lit vs)
  let ks := ownK (tokB d 0) l
  RM.need (clean (ks ++ [bxK d]) as)
  .ok { vis := [viG (ownT (tokB d 0) l ++ [(bC d, ownP l), (sC d, [pcU])]) [] []], kill := ks ++ [bxK d], setb := [(d, ⟨false, ownA (tokB d 0) l⟩)], dst := .one (.ptr d 0) }
def copBox (P : Program) (d : Nat) (t : TypeId) (x : Operand) : RM Eff := do
  let x ← opd P x t
  let (_, as) ← RM.opt x.sh.flat
  RM.need (szOf P t == some as.length && as.all memAt)
  let l := apc as x.arg
  let ks := ownK (tokB d 0) l
  RM.need (clean (ks ++ [bxK d]) as)
  .ok { vis := [viG (ownT (tokB d 0) l ++ [(bC d, ownP l), (sC d, [pcU])]) [] []], kill := ks ++ [bxK d], setb := [(d, ⟨false, ownA (tokB d 0) l⟩)], dst := .one (.ptr d 0) }
def copLoad (P : Program) (d : Nat) (t : TypeId) (x : Operand) : RM Eff := do
  let x ← opd P x 0
  let n ← RM.opt (szOf P t)
  let ag ← RM.opt (agT P t)
  match x.sh, x.arg with
  | .one (.ptr u off), .c i => .bx u fun b => do
    let b ← RM.opt b
    RM.need (decide (off + n ≤ b.as.length) && (ag || n == 1))
    let h ← RM.opt (mkSh ag ((b.as.drop off).take n))
    .ok { vis := [viG [(sC d, (List.range n).map fun j => (.c (bC u), off + j))] [(i, 0)] []], dst := h }
  | .one (.elt k j), .c i => do
    let as ← RM.opt (leafAts P .fz t)
    RM.need (as.length == n && (ag || n == 1))
    let h ← RM.opt (mkSh ag as)
    .ok { vis := [{ f := .ldo j n ag, rd := [.c i, .c (tC k)], wr := [sC d] }], dst := h }
  | .one (.iel s j), .c i => do
    let as ← RM.opt (leafAts P s t)
    RM.need (as.length == n && (ag || n == 1))
    let h ← RM.opt (mkSh ag as)
    .ok { vis := [{ f := .ldi j n ag (if s = .fz then [] else as.map (· == .v .fz)), rd := [.c i], wr := [sC d] }], dst := h }
  | _, _ => .no
def stB (u off : Nat) (as : List At) : Nat := if as.contains (.own (tokB u off)) then tokB u (off + 32) else tokB u off
def copStore (P : Program) (t : TypeId) (x y : Operand) : RM Eff := do
  let x ← opd P x 0
  let y ← opd P y t
  let n ← RM.opt (szOf P t)
  let (_, as) ← RM.opt y.sh.flat
  RM.need (as.length == n)
  RM.need (as.all memAt)
  match x.sh, x.arg with
  | .one (.ptr u off), .c i => .bx u fun b => do
    let b ← RM.opt b
    RM.need (decide (off + n ≤ b.as.length) && !b.ro)
    let l := apc as y.arg
    let ks := ownK ((stB u off b.as)) l
    RM.need (clean ks as && clean ks b.as)
    .ok { vis := [viG (ownT ((stB u off b.as)) l ++ [(bC u, allPc (.c (bC u)) off ++ ownP l ++ (List.range (b.as.length - (off + n))).map fun j => (.c (bC u), off + n + j))]) [(i, 0)] []],
          kill := ks, setb := [(u, ⟨false, b.as.take off ++ ownA ((stB u off b.as)) l ++ b.as.drop (off + n)⟩)] }
  | .one (.elt k j), .c i => do
    let q ← RM.opt (pcsL (frz1 y.arg) 0 as)
    RM.need (!q.kill.contains (tkK k))
    .ok { vis := [{ f := .sto j n (q.ps.zipIdx.map fun p => (p.2, p.1.2)), rd := .c i :: .c (tC k) :: q.ps.map (·.1), chk := q.chk, wr := [tC k] }], kill := q.kill, stale := [k] }
  | _, _ => .no
def copFieldAddr (P : Program) (d : Nat) (t : TypeId) (x : Operand) (f : Nat) : RM Eff := do
  let x ← opd P x 0
  let (off, n, _) ← RM.opt (fieldOf P t f)
  RM.need (n != 0)
  match x.sh with
  | .one (.ptr u o) => .ok { vis := [viG [(sC d, [(x.arg, 0)])] [] []], dst := .one (.ptr u (o + off)) }
  | .one (.elt k j) => .ok { vis := [viG [(sC d, [(x.arg, 0)])] [] []], dst := .one (.elt k (j + off)) }
  | .one (.iel s j) => .ok { vis := [viG [(sC d, [(x.arg, 0)])] [] []], dst := .one (.iel s (j + off)) }
  | _ => .no
def constIx : Operand → Option Nat
  | .const (.int .i64 n) => if 0 ≤ n then some n.toNat else none
  | _ => none
def copIndexAddr (P : Program) (d : Nat) (t : TypeId) (x i : Operand) : RM Eff := do
  let xs ← opd P x t
  match P.underlying t with
  | some (.slice e) => do
    let j ← opd P i 0
    let _ ← one1 j
    RM.need (match szOf P e with | some n => n != 0 | none => false)
    match xs.sh, xs.arg with
    | .one (.v s), g => .ok { vis := [{ f := .idx e, rd := [g, j.arg], wr := [sC d] }], dst := .one (.iel s 0) }
    | .one (.own k), .c c => .ok { vis := [{ f := .eix e, rd := [.c (tC k), j.arg], chk := [(c, 0)], wr := [sC d] }], dst := .one (.elt k 0) }
    | _, _ => .no
  | some (.array len e) => do
    let n ← RM.opt (szOf P e)
    let j ← RM.opt (constIx i)
    RM.need (decide (j < len) && n != 0)
    match xs.sh with
    | .one (.ptr u o) => .ok { vis := [viG [(sC d, [(xs.arg, 0)])] [] []], dst := .one (.ptr u (o + j * n)) }
    | .one (.elt k m) => .ok { vis := [viG [(sC d, [(xs.arg, 0)])] [] []], dst := .one (.elt k (m + j * n)) }
    | .one (.iel s m) => .ok { vis := [viG [(sC d, [(xs.arg, 0)])] [] []], dst := .one (.iel s (m + j * n)) }
    | _ => .no
  | _ => .no
def copIndex (P : Program) (d : Nat) (t : TypeId) (x i : Operand) : RM Eff := do
  let x ← opd P x t; let i ← opd P i 0
  let _ ← one1 x; let _ ← one1 i
  match P.underlying t with
  | some .string => .ok { vis := [{ f := .ixs, rd := [x.arg, i.arg], wr := [sC d] }], dst := .one (.v .fz) }
  | _ => .no
def copNilCheck (P : Program) (d : Nat) (x : Operand) : RM Eff := do
  let x ← opd P x 0
  match x.sh, x.arg with
  | .one (.ptr u o), .c i => .ok { vis := [viG [(sC d, [(x.arg, 0)])] [(i, 0)] []], dst := .one (.ptr u o) }
  | .one (.opt u), .c i => .ok { vis := [viG [(sC d, [pcU])] [] [(i, 0)]], dst := .one (.ptr u 0) }
  | _, _ => .no
def optOpd (P : Program) : Option Operand → RM (List VArg)
  | none => .ok []
  | some x => do
    let s ← opd P x 0
    let _ ← one1 s
    .ok [s.arg]
def isOwn : Sh → Bool
  | .one (.own _) => true
  | _ => false
def copSlice (P : Program) (d : Nat) (cut : Bool) (t : TypeId) (x : Operand) (lo hi mx : Option Operand) : RM Eff := do
  RM.need mx.isNone
  let x ← opd P x t
  let l ← optOpd P lo
  let h ← optOpd P hi
  match P.underlying t with
  | some .string => do
    let _ ← one1 x
    .ok { vis := [{ f := .sls lo.isSome hi.isSome, rd := x.arg :: (l ++ h), wr := [sC d] }], dst := .one (.v .fz) }
  | some (.slice e) => do
    RM.need (match szOf P e with | some n => n != 0 | none => false)
    let (g, s, chk) ← RM.opt (cont x)
    match s with
    | .of k => (if cut && isOwn x.sh then RM.ok { vis := [{ f := .slc e lo.isSome hi.isSome, rd := g :: (l ++ h), chk, wr := [tC (tokS d 0)] }, viG [(sC d, [pcU])] [] []], kill := [tkK k, tkK (tokS d 0)], dst := .one (.own (tokS d 0)) } else RM.ok { vis := [{ f := .slc e lo.isSome hi.isSome, rd := g :: (l ++ h), chk, wr := [sC d] }], dst := .one (.v (.of k)) })
    | s => .ok { vis := [{ f := .slc e lo.isSome hi.isSome, rd := g :: (l ++ h), chk, wr := [sC d] }], dst := .one (.v s) }
  | _ => .no
/-- a literal's elements, in their order -/
def litEls (P : Program) (e : TypeId) (n : Nat) : Nat → List (Nat × Operand) → RM (List Pcs)
  | _, [] => .ok []
  | j, (i, x) :: r => do
    RM.need (i == j)
    let s ← opd P x e
    let (_, as) ← RM.opt s.sh.flat
    RM.need (as.length == n)
    let q ← RM.opt (pcsL (frz1 s.arg) 0 as)
    let l ← litEls P e n (j + 1) r
    .ok (q :: l)
def numbE (ag : Bool) (qs : List Pcs) : List (Bool × List (Nat × Nat)) := (numb 0 (qs.map (·.ps))).map fun p => (ag, p)
def copBuildSlice (P : Program) (d : Nat) (t : TypeId) (len : Nat) (parts : Array (Nat × Operand)) : RM Eff := do
  let e ← RM.opt (elT P t)
  let n ← RM.opt (szOf P e)
  let ag ← RM.opt (agT P e)
  RM.need (parts.size == len && decide (len * n ≤ 2 ^ 24) && n != 0 && (ag || n == 1) && decide (len ≤ 1000) && (len == 0 || (zeroOf P e).isSome))
  let qs ← litEls P e n 0 parts.toList
  let ks := (qs.map (·.kill)).flatten
  RM.need (!ks.contains (tkK (tokS d 0)))
  .ok { vis := [{ f := .mk e (numbE ag qs), rd := (qs.map (·.ps)).flatten.map (·.1), chk := (qs.map (·.chk)).flatten, wr := [tC (tokS d 0)] }, viG [(sC d, [pcU])] [] []],
        kill := tkK (tokS d 0) :: ks, dst := .one (.own (tokS d 0)) }
def zElem (ag : Bool) (vs : List V) : Option V := if ag then some (.agg vs) else match vs with
  | [z] => some z
  | _ => none
def copMakeSlice (P : Program) (d : Nat) (t : TypeId) (l c : Operand) : RM Eff := do
  let e ← RM.opt (elT P t)
  let n ← RM.opt (szOf P e)
  let ag ← RM.opt (agT P e)
  let b ← RM.opt (bytesT P e)
  let (as, vs) ← RM.opt (zeroOf P e)
  RM.need (n != 0 && as.length == n && b != 0 && as.all (fun a => a == .v .fz || a == .nils) && (ag || n == 1))
  let l ← opd P l 0; let c ← opd P c 0
  let _ ← one1 l; let _ ← one1 c
  let z ← RM.opt (zElem ag vs)
  .ok { vis := [{ f := .rep e z b, rd := [l.arg, c.arg], wr := [tC (tokS d 0)] }, viG [(sC d, [pcU])] [] []], kill := [tkK (tokS d 0)], dst := .one (.own (tokS d 0)) }
def copIface (P : Program) (d : Nat) (t : TypeId) (x : Operand) : RM Eff := do
  let x ← opd P x t
  RM.need (P.concrete t)
  match x.sh with
  | .one (.v .fz) => .ok { vis := [{ f := .ifc t, rd := [x.arg], wr := [sC d] }], dst := .one (.v .fz) }
  | _ => .no
/-- a struct's value out of its fields' -/
def dfnOf (s : Seg) : List (Nat × Nat) := match s.sh, s.arg with
  | .one _, .c i => [(i, 0)]
  | _, _ => []
def buildL (P : Program) (t : TypeId) : List (Nat × Operand) → List APc → RM (List APc × List (Nat × Nat))
  | [], l => .ok (l, [])
  | (i, x) :: r, l => do
    let (off, n, _) ← RM.opt (fieldOf P t i)
    let ft ← RM.opt (fieldT P t i)
    let s ← opd P x ft
    let (_, as) ← RM.opt s.sh.flat
    RM.need (as.length == n && decide (off + n ≤ l.length) && as.all memAt)
    let (l', ds) ← buildL P t r (l.take off ++ apc as s.arg ++ l.drop (off + n))
    .ok (l', dfnOf s ++ ds)
def placesOf (P : Program) (fs : List Field) : Option (List (Nat × Nat)) := fs.mapM (fun f => (P.info? f.type).map fun i => (f.offset, i.size))
def copBuild (P : Program) (d : Nat) (t : TypeId) (parts : Array (Nat × Operand)) : RM Eff := do
  match P.underlying t with
  | some (.struct fs) => do
    RM.need (placesOf P fs.toList).isSome
    let (as, vs) ← RM.opt (zeroOf P t)
    let (l, ds) ← buildL P t parts.toList (apc as (.lit vs))
    let ks := ownK (tokS d 0) l
    RM.need (clean ks (l.map (·.1)))
    .ok { vis := [{ viG (ownT (tokS d 0) l ++ [(sC d, ownP l)]) [] [] with dfn := ds }], kill := ks, dst := .agg (ownA (tokS d 0) l) }
  | _ => .no

/-! ### calls -/
/-- how a parameter is handed over: for good, lent, or given away; a pointer with its variable -/
inductive PM where
  | fz | lent | own
  deriving DecidableEq, Repr
inductive PSh where
  | one (m : PM)
  | agg (ms : List PM)
  | ptr (ro : Bool) (ms : List PM)
  | nilp
  deriving DecidableEq, Repr
inductive RSh where
  | one (m : PM)
  | agg (ms : List PM)
  | obx (ms : List PM)
  deriving DecidableEq, Repr
structure Sig where
  ps : List PSh
  rs : List RSh
  deriving DecidableEq, Repr
abbrev Sigs := Nat → List (Nat × Sig)
def pass1 (g : VArg) (j : Nat) (m : PM) (a : At) : Option Pcs := match m with
  | .fz => frz1 g j a
  | .lent => lnd1 g j a
  | .own => own1 g j a
def passL (g : VArg) : Nat → List PM → List At → Option Pcs
  | _, [], [] => some { ps := [] }
  | j, m :: ms, a :: as => (pass1 g j m a).bind fun p => (passL g (j + 1) ms as).map p.cat
  | _, _, _ => none
def resAt (base : Nat) : Nat → List PM → List At
  | _, [] => []
  | j, .own :: r => .own (base + j) :: resAt base (j + 1) r
  | j, _ :: r => .v .fz :: resAt base (j + 1) r
/-- a result's (or a variable's) cells among the raw answer: for the place, and for each own row -/
def outPc (q : Nat) : Nat → List PM → List (Option (Nat × Nat))
  | _, [] => []
  | j, .own :: r => none :: outPc q (j + 1) r
  | j, _ :: r => some (q, j) :: outPc q (j + 1) r
def outTok (q base : Nat) : Nat → List PM → List (Nat × List (Option (Nat × Nat)))
  | _, [] => []
  | j, .own :: r => (tC (base + j), [some (q, j)]) :: outTok q base (j + 1) r
  | j, _ :: r => outTok q base (j + 1) r
def ownKeys (base : Nat) : Nat → List PM → List Nat
  | _, [] => []
  | j, .own :: r => tkK (base + j) :: ownKeys base (j + 1) r
  | j, _ :: r => ownKeys base (j + 1) r
/-- what is lent -/
def lnOf : PM → At → List Nat
  | .lent, .own t => [tkK t]
  | .lent, .v (.of t) => [tkK t]
  | _, _ => []
def lnL : List PM → List At → List Nat
  | m :: ms, a :: as => lnOf m a ++ lnL ms as
  | _, _ => []
structure Arg where
  ps : List Pc
  chk : List (Nat × Nat)
  asr : List (Nat × Nat)
  kill : List Nat
  ln : List Nat                      -- keys of what is lent
  back : Option (Nat × List PM)      -- a variable that comes back: its box
def Arg.keys (a : Arg) : List Nat := (match a.back with | some (u, _) => [bxK u] | none => []) ++ a.kill
def passBox (ro : Bool) (ms : List PM) (u : Nat) (chk asr : List (Nat × Nat)) (b : Option Bx) : RM Arg := do
  let b ← RM.opt b
  RM.need (if ro then ms.all (· != .own) else !b.ro)
  let q ← RM.opt (passL (.c (bC u)) 0 ms b.as)
  .ok ⟨q.ps, chk ++ q.chk, asr ++ q.asr, q.kill, (if ro then [bxK u] else []) ++ lnL ms b.as, if ro then none else some (u, ms)⟩
def passArg (p : PSh) (sh : Sh) (g : VArg) : RM Arg :=
  match p, sh, g with
  | .one m, .one a, g => do
    let q ← RM.opt (passL g 0 [m] [a])
    .ok ⟨q.ps, q.chk, q.asr, q.kill, lnL [m] [a], none⟩
  | .agg ms, .agg as, g => do
    let q ← RM.opt (passL g 0 ms as)
    .ok ⟨q.ps, q.chk, q.asr, q.kill, lnL ms as, none⟩
  | .nilp, .one .nilp, .lit [.unit] => .ok ⟨[], [], [], [], [], none⟩
  | .nilp, .one .nilp, .c i => .ok ⟨[], [(i, 0)], [], [], [], none⟩
  | .ptr ro ms, .one (.ptr u 0), .c i => .bx u (passBox ro ms u [(i, 0)] [])
  | .ptr ro ms, .one (.opt u), .c i => .bx u (passBox ro ms u [] [(i, 0)])
  | _, _, _ => .no
def passArgs (P : Program) : List PSh → List (Operand × TypeId) → RM (List Arg)
  | [], [] => .ok []
  | p :: ps, (x, t) :: xs => do
    let s ← opd P x t
    let a ← passArg p s.sh s.arg
    let r ← passArgs P ps xs
    .ok (a :: r)
  | _, _ => .no
structure Res where
  outs : List (Nat × List (Option (Nat × Nat)))   -- places and what comes into them
  sl : List (Option (Nat × Nat))
  part : Bool × List At
  setb : List (Nat × Bx)
  kill : List Nat
def boxN (d q : Nat) : Nat := d + 1000 * (q + 1)
/-- result number q, from cell o of the slot on -/
def res1 (d q o : Nat) : RSh → Res
  | .one m => ⟨outTok q (tokS d o) 0 [m], outPc q 0 [m], (false, resAt (tokS d o) 0 [m]), [], ownKeys (tokS d o) 0 [m]⟩
  | .agg ms => ⟨outTok q (tokS d o) 0 ms, outPc q 0 ms, (true, resAt (tokS d o) 0 ms), [], ownKeys (tokS d o) 0 ms⟩
  | .obx ms => ⟨(bC (boxN d q), outPc q 1 ms) :: outTok q (tokB (boxN d q) 0) 1 ms, [some (q, 0)], (false, [.opt (boxN d q)]), [(boxN d q, ⟨false, resAt (tokB (boxN d q) 0) 1 ms⟩)], bxK (boxN d q) :: ownKeys (tokB (boxN d q) 0) 1 ms⟩
def RSh.width : RSh → Nat
  | .agg ms => ms.length
  | _ => 1
def resL (d : Nat) : Nat → Nat → List RSh → List Res
  | _, _, [] => []
  | q, o, s :: r => res1 d q o s :: resL d (q + 1) (o + s.width) r
def bkM : PM → PM
  | .own => .own
  | _ => .fz
/-- variables that come back: number q of the raw answer -/
def back1 (q u : Nat) (ms : List PM) : Res := ⟨(bC u, outPc q 0 ms) :: outTok q (tokB u 0) 0 ms, [], (false, []), [(u, ⟨false, resAt (tokB u 0) 0 ms⟩)], ownKeys (tokB u 0) 0 ms⟩
def backL : Nat → List Arg → List Res
  | _, [] => []
  | q, a :: r => match a.back with
    | none => backL q r
    | some (u, ms) => back1 q u (ms.map bkM) :: backL (q + 1) r
def nodupB : List Nat → Bool
  | [] => true
  | x :: r => !r.contains x && nodupB r
def copFunc (P : Program) (sg : Sigs) (d : Option Nat) (f : FuncId) (w : Nat) (g : Sig) (args : List (Operand × TypeId)) : RM Eff := do
  let as ← passArgs P g.ps args
  let d' := d.getD 0
  let rs := resL d' 0 0 g.rs
  let bs := backL g.rs.length as
  let gk := (as.map Arg.keys).flatten
  let ks := (as.map (·.kill)).flatten ++ (rs.map (·.kill)).flatten ++ (bs.map (·.kill)).flatten
  let outs := (if d.isSome then [(sC d', (rs.map (·.sl)).flatten)] else []) ++ ((rs ++ bs).map (·.outs)).flatten
  RM.need (nodupB gk && (as.map (·.ln)).flatten.all (fun k => !gk.contains k) && nodupB (outs.map (·.1)))
  RM.need ((bs.map (·.setb)).flatten.all fun p => !ks.contains (bxK p.1))
  let h ← (match rs with
    | [r] => RM.opt (mkSh r.part.1 r.part.2)
    | rs => .ok (Sh.tup (rs.map (·.part))) : RM Sh)
  .ok { vis := [{ f := .call f w (numb 0 (as.map (·.ps))) (outs.map (·.2)), rd := (as.map (·.ps)).flatten.map (·.1), chk := (as.map (·.chk)).flatten, asr := (as.map (·.asr)).flatten, wr := outs.map (·.1) }],
        kill := ks, setb := ((rs ++ bs).map (·.setb)).flatten, dst := h }
def copLen (P : Program) (d : Nat) (x : Operand) (t : TypeId) : RM Eff := do
  let x ← opd P x t
  match P.underlying t with
  | some .string => do
    let _ ← one1 x
    .ok { vis := [{ f := .lens, rd := [x.arg], wr := [sC d] }], dst := .one (.v .fz) }
  | some (.slice _) => do
    let (g, _, chk) ← RM.opt (cont x)
    .ok { vis := [{ f := .len, rd := [g], chk, wr := [sC d] }], dst := .one (.v .fz) }
  | _ => .no
def copMM (P : Program) (d : Nat) (mx : Bool) (xs : List Operand) (ts : List TypeId) : RM Eff :=
  match xs, ts with
  | [x, y], [t, u] => do
    let x ← opd P x t; let y ← opd P y u
    let _ ← one1 x; let _ ← one1 y
    .ok { vis := [{ f := if mx then .mx else .mn, rd := [x.arg, y.arg], wr := [sC d] }], dst := .one (.v .fz) }
  | _, _ => .no
def copAppend (P : Program) (d : Nat) (x y : Operand) (t u : TypeId) : RM Eff := do
  let e ← RM.opt (elT P t)
  let n ← RM.opt (szOf P e)
  let b ← RM.opt (bytesT P e)
  let ag ← RM.opt (agT P e)
  RM.need (n != 0 && b != 0 && (zeroOf P e).isSome && (ag || n == 1))
  let x ← opd P x t
  let y ← opd P y u
  let (g, k, chk) ← (match x.sh, x.arg with
    | .one .nils, g => .ok (g, tokS d 0, [])
    | .one (.own k), .c i => .ok (.c (tC k), k, [(i, 0)])
    | _, _ => .no : RM (VArg × Nat × List (Nat × Nat)))
  match P.underlying u with
  | some (.slice _) => do
    let (g', s, chk') ← RM.opt (cont y)
    RM.need (s != .of k && t == u)
    .ok { vis := [{ f := .app e b (!(s == .fz || isOwn y.sh)), rd := [g, g'], chk := chk ++ chk', wr := [tC k] }, viG [(sC d, [pcU])] [] []], kill := [tkK k], dst := .one (.own k) }
  | some .string => do
    let _ ← one1 y
    RM.need (match P.underlying e with | some (.int .u8) => true | _ => false)
    RM.need (n == 1)
    .ok { vis := [{ f := .aps e b, rd := [g, y.arg], chk, wr := [tC k] }, viG [(sC d, [pcU])] [] []], kill := [tkK k], dst := .one (.own k) }
  | _ => .no
def sigTry (P : Program) (sg : Sigs) (d : Option Nat) (f : FuncId) (args : List (Operand × TypeId)) : List (Nat × Sig) → RM Eff
  | [] => .no
  | (w, g) :: r => (copFunc P sg d f w g args).orElse (sigTry P sg d f args r)
def copCall (P : Program) (sg : Sigs) (d : Option Nat) (c : Call) : RM Eff :=
  match c.callee with
  | .builtin .len => match c.args.toList, c.argTypes.toList, d with
    | [x], [t], some d => copLen P d x t
    | _, _, _ => .no
  | .builtin .append => match c.args.toList, c.argTypes.toList, d with
    | [x, y], [t, u], some d => copAppend P d x y t u
    | _, _, _ => .no
  | .builtin .min => match d with
    | some d => copMM P d false c.args.toList c.argTypes.toList
    | none => .no
  | .builtin .max => match d with
    | some d => copMM P d true c.args.toList c.argTypes.toList
    | none => .no
  | .value (.func f) => if c.args.size = c.argTypes.size then sigTry P sg d f (c.args.toList.zip c.argTypes.toList) (sg f) else .no
  | _ => .no

/-- one operation; h: its hint (a cut that keeps a row own: 1) -/
def cop (P : Program) (sg : Sigs) (h : Nat) (o : Oper) : RM Eff :=
  match o.op, o.dst with
  | .move x, some d => copMove P d x o.type
  | .assign x, some d => copMove P d x o.type
  | .pick c a b, some d => copPick P d c a b o.type
  | .unOp op t x, some d => copUn P d op t x
  | .binOp op t x y u, some d => copBin P d op t x y u
  | .convert s t x, some d => copConv P d s t x
  | .extract x i, some d => copExtract P d x i
  | .field t x f, some d => copField P d t x f
  | .alloc t, some d => copAlloc P d t
  | .box t x, some d => copBox P d t x
  | .load t x, some d => copLoad P d t x
  | .store t x y, none => copStore P t x y
  | .fieldAddr t x f, some d => copFieldAddr P d t x f
  | .indexAddr t x i, some d => copIndexAddr P d t x i
  | .index t x i, some d => copIndex P d t x i
  | .nilCheck x, some d => copNilCheck P d x
  | .slice t x lo hi mx, some d => copSlice P d (h == 1) t x lo hi mx
  | .buildSlice t n ps, some d => copBuildSlice P d t n ps
  | .makeSlice t l c, some d => copMakeSlice P d t l c
  | .makeInterface t x, some d => copIface P d t x
  | .build t ps, some d => copBuild P d t ps
  | .call c, d => copCall P sg d c
  | _, _ => .no
end Go.Proofs.YtogfkdpgkloljaaDoorVs
