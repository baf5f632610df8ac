/-
  Several texts in one: A small language of values (lists, numbers, strings) and a translation of Go's operations into it: the definitions. No condition. | The translation of Go's operations into instructions on values. No condition. | What a value of the small language says of Go's memory, and what keeps it. Conditions: each lemma's own premises. | What keeps the relation between values and memory. Conditions: each lemma's own premises. | Operations that only compute or read come to what their instructions say. Conditions: each lemma's own premises. | Two structs, or arrays, of numbers, strings and truths are compared cell by cell. Conditions: each lemma's own premises.
-/
import Derived.Calls
import Derived.Orders
import Derived.Laws.AppendOwn
import Derived.Laws.MakeOwn
import Derived.Laws.Slices
import Derived.Laws.Cells
import Derived.Laws.Build
import Derived.Laws.BytesArg
import Derived.Laws.Pointers
import Derived.Laws.StructEq
import Derived.ChangeKeysEq
set_option linter.unusedVariables false
set_option linter.unusedSimpArgs false
namespace Go.Proofs.YtlhcgiegganbpaaDoorVs

/-! ### values -/
inductive V where
  | undef | unit
  | int (k : IntKind) (n : Int)
  | bool (b : Bool)
  | str (s : ByteArray)
  | list (e : TypeId) (xs : List V)
  | agg (ys : List V)
  | iface (t : TypeId) (x : V)
  | nilI
  | clo (g : Nat) (ys : List V)
  deriving Inhabited

/-! ### what is known of a slot ahead of the run -/
/-- where a value's rows lie: in what never changes; in what does not change during the call; in an own row. -/
inductive Src where
  | fz | lent | of (t : Nat)
  deriving DecidableEq, Repr
inductive At where
  | dead
  | gone (k : Nat)
  | v (s : Src)
  | nils
  | nilp
  | own (t : Nat)
  | ptr (u off : Nat)
  | opt (u : Nat)
  | elt (t j : Nat)
  | iel (s : Src) (j : Nat)
  deriving DecidableEq, Repr
inductive Sh where
  | one (a : At)
  | agg (as : List At)
  | ogg (as : List At)
  | tup (ps : List (Bool × List At))
  deriving DecidableEq, Repr
structure Bx where
  ro : Bool
  as : List At
  deriving DecidableEq, Repr
structure Al where
  sl : List Sh
  bx : List (Nat × Bx)
  deriving DecidableEq, Repr

def lookB : List (Nat × Bx) → Nat → Option Bx
  | [], _ => none
  | (u, b) :: r, v => if u = v then some b else lookB r v
def Al.slot (α : Al) (s : Nat) : Sh := α.sl.getD s (.one .dead)
def Al.box (α : Al) (u : Nat) : Option Bx := lookB α.bx u
def Sh.map (f : At → At) : Sh → Sh
  | .one a => .one (f a)
  | .agg as => .agg (as.map f)
  | .ogg as => .ogg (as.map f)
  | .tup ps => .tup (ps.map fun p => (p.1, p.2.map f))
def Bx.map (f : At → At) (b : Bx) : Bx := { b with as := b.as.map f }
def Al.map (f : At → At) (α : Al) : Al := ⟨α.sl.map (Sh.map f), α.bx.map fun p => (p.1, p.2.map f)⟩
def Al.setS (α : Al) (s : Nat) (h : Sh) : Al := { α with sl := α.sl.set s h }
def setB : List (Nat × Bx) → Nat → Bx → List (Nat × Bx)
  | [], u, b => [(u, b)]
  | (v, c) :: r, u, b => if v = u then (u, b) :: r else (v, c) :: setB r u b
def Al.setB (α : Al) (u : Nat) (b : Bx) : Al := { α with bx := YtlhcgiegganbpaaDoorVs.setB α.bx u b }

def tkK (t : Nat) : Nat := 2 * t
def bxK (u : Nat) : Nat := 2 * u + 1
/-- every holder of a row's token is struck -/
def At.kill (ks : List Nat) : At → At
  | .v (.of t) => if ks.contains (tkK t) then .gone (tkK t) else .v (.of t)
  | .own t => if ks.contains (tkK t) then .gone (tkK t) else .own t
  | .elt t j => if ks.contains (tkK t) then .gone (tkK t) else .elt t j
  | .iel (.of t) j => if ks.contains (tkK t) then .gone (tkK t) else .iel (.of t) j
  | .ptr u off => if ks.contains (bxK u) then .gone (bxK u) else .ptr u off
  | .opt u => if ks.contains (bxK u) then .gone (bxK u) else .opt u
  | a => a
/-- what was read out of a row is struck -/
def At.stale (ks : List Nat) : At → At
  | .v (.of t) => if ks.contains t then .gone (tkK t) else .v (.of t)
  | .iel (.of t) j => if ks.contains t then .gone (tkK t) else .iel (.of t) j
  | a => a

/-! ### places of values: slots, boxes, rows -/
def sC (s : Nat) : Nat := 3 * s
def bC (u : Nat) : Nat := 3 * u + 1
def tC (t : Nat) : Nat := 3 * t + 2
/-- a row's name: of slot s, cell j; of box u, cell j -/
def tokS (s j : Nat) : Nat := (2 * s) * 64 + j
def tokB (u j : Nat) : Nat := (2 * u + 1) * 64 + j

inductive VArg where
  | c (i : Nat)
  | lit (vs : List V)
abbrev Env := Nat → List V
def VArg.get (ν : Env) : VArg → List V
  | .c i => ν i
  | .lit vs => vs
def Env.upd (ν : Env) (c : Nat) (vs : List V) : Env := fun i => if i = c then vs else ν i
def Env.upds (ν : Env) : List Nat → List (List V) → Env
  | c :: cs, vs :: vss => Env.upds (ν.upd c vs) cs vss
  | _, _ => ν

/-! ### instructions on values -/
inductive VF where
  | gather (pss : List (List (Nat × Nat)))
  | pick
  | un (op : UnOp)
  | bin (op : BinOp) (cls : Nat)
  | eqA (cl : List Nat) (ng : Bool)
  | conv (k : IntKind)
  | sconv
  | len
  | lens
  | idx (e : TypeId)
  | eix (e : TypeId)
  | ldi (j n : Nat) (ag : Bool) (mask : List Bool)
  | ldo (j n : Nat) (ag : Bool)
  | sto (j n : Nat) (ps : List (Nat × Nat))
  | slc (e : TypeId) (lo hi : Bool)
  | sls (lo hi : Bool)
  | ixs
  | mk (e : TypeId) (els : List (Bool × List (Nat × Nat)))
  | app (e : TypeId) (bs : Nat) (sc : Bool)
  | aps (e : TypeId) (bs : Nat)
  | rep (e : TypeId) (z : V) (bs : Nat)
  | str (e : TypeId)
  | byt (e : TypeId)
  | ifc (t : TypeId)
  | mn | mx
  | notv
  | call (k w : Nat) (ins : List (List (Nat × Nat))) (outs : List (List (Option (Nat × Nat))))
  | mkc (g : Nat)
  | callc (gs : List (Nat × Nat × List (List Bool))) (ins : List (List (Nat × Nat))) (outs : List (List (Option (Nat × Nat))))
structure VI where
  f : VF
  rd : List VArg
  chk : List (Nat × Nat) := []
  asr : List (Nat × Nat) := []
  dfn : List (Nat × Nat) := []
  wr : List Nat
abbrev Funs := Nat → Nat → List (List V) → Option (List (List V))

def pk (args : List (List V)) (p : Nat × Nat) : Option V := match (args[p.1]?).bind (·[p.2]?) with
  | some .undef => none
  | r => r
def pks (args : List (List V)) (ps : List (Nat × Nat)) : Option (List V) := ps.mapM (pk args)
def vun (op : UnOp) (x : V) : Option V :=
  match op, x with
  | .neg, .int k n => some (.int k (k.wrap (0 - n)))
  | .xor, .int k n => some (.int k (k.wrap (BitVec.ofInt k.bits (if k.signed then -1 else k.max) ^^^ BitVec.ofInt k.bits n).toNat))
  | .not, .bool b => some (.bool !b)
  | _, _ => none
def vcmp (op : BinOp) (x y : Int) : Option V :=
  match op with
  | .eql => some (.bool (x == y))
  | .neq => some (.bool (x != y))
  | .lss => some (.bool (x < y))
  | .leq => some (.bool (x ≤ y))
  | .gtr => some (.bool (x > y))
  | .geq => some (.bool (x ≥ y))
  | _ => none
def vint (op : BinOp) (k : IntKind) (x y : Int) : Option V :=
  match op with
  | .add => some (.int k (k.wrap (x + y)))
  | .sub => some (.int k (k.wrap (x - y)))
  | .mul => some (.int k (k.wrap (x * y)))
  | .quo => if y = 0 then none else some (.int k (k.wrap (x.tdiv y)))
  | .rem => if y = 0 then none else some (.int k (x.tmod y))
  | .and => some (.int k (k.wrap (BitVec.ofInt k.bits x &&& BitVec.ofInt k.bits y).toNat))
  | .or => some (.int k (k.wrap (BitVec.ofInt k.bits x ||| BitVec.ofInt k.bits y).toNat))
  | .xor => some (.int k (k.wrap (BitVec.ofInt k.bits x ^^^ BitVec.ofInt k.bits y).toNat))
  | .andNot => some (.int k (k.wrap (BitVec.ofInt k.bits x &&& ~~~BitVec.ofInt k.bits y).toNat))
  | op => vcmp op x y
def vshift (op : BinOp) (k : IntKind) (x y : Int) : Option V :=
  if y < 0 then none else
  match op with
  | .shl => some (.int k (k.wrap (x * 2 ^ min y.toNat k.bits)))
  | .shr => some (.int k (x.fdiv (2 ^ min y.toNat k.bits)))
  | _ => none
def vstr (op : BinOp) (x y : ByteArray) : Option V :=
  match op with
  | .add => if ((x.size + y.size : Nat) : Int) > IntKind.i64.max then none else some (.str (x ++ y))
  | .eql => some (.bool (x.toList == y.toList))
  | .neq => some (.bool !(x.toList == y.toList))
  | .lss => some (.bool (Op.bytesLess x.toList y.toList))
  | .leq => some (.bool (Op.bytesLess x.toList y.toList || x.toList == y.toList))
  | .gtr => some (.bool !(Op.bytesLess x.toList y.toList || x.toList == y.toList))
  | .geq => some (.bool !(Op.bytesLess x.toList y.toList))
  | _ => none
def isShift : BinOp → Bool
  | .shl | .shr => true
  | _ => false
def vbin (op : BinOp) (cls : Nat) (x y : V) : Option V :=
  match cls, x, y with
  | 0, .int k a, .int k' b => if isShift op then vshift op k a b else if k = k' then vint op k a b else none
  | 1, .str a, .str b => vstr op a b
  | 2, .bool a, .bool b => match op with
    | .eql => some (.bool (a == b))
    | .neq => some (.bool (!(a == b)))
    | _ => none
  | 3, .iface _ _, .nilI => match op with
    | .eql => some (.bool false)
    | .neq => some (.bool true)
    | _ => none
  | 3, .nilI, .nilI => match op with
    | .eql => some (.bool true)
    | .neq => some (.bool false)
    | _ => none
  | _, _, _ => none
def veq1 : Nat → V → V → Option Bool
  | 0, .int k a, .int k' b => if k = k' then some (a == b) else none
  | 1, .str a, .str b => some (a.toList == b.toList)
  | 2, .bool a, .bool b => some (a == b)
  | _, _, _ => none
/-- two aggregates, cell by cell -/
def veqs : List Nat → List V → List V → Option Bool
  | [], [], [] => some true
  | c :: cl, x :: xs, y :: ys => (veq1 c x y).bind fun a => (veqs cl xs ys).map fun b => a && b
  | _, _, _ => none
/-- the cells j to j + n of an element -/
def vsub (j n : Nat) (ag : Bool) (x : V) : Option (List V) :=
  match x with
  | .agg ys => if j + n ≤ ys.length then some ((ys.drop j).take n) else none
  | .undef => none
  | x => if j = 0 ∧ n = 1 ∧ ag = false then some [x] else none
def vput (j n : Nat) (x : V) (zs : List V) : Option V :=
  match x, zs with
  | .agg ys, zs => if j + n ≤ ys.length ∧ zs.length = n then some (.agg (ys.take j ++ zs ++ ys.drop (j + n))) else none
  | _, [z] => if j = 0 ∧ n = 1 then some z else none
  | _, _ => none
def numOf : V → Option Int
  | .int .u8 n => some n
  | _ => none
/-- no rows in it -/
def scalarV : V → Bool
  | .list _ _ | .agg _ | .iface _ _ | .clo _ _ => false
  | _ => true
def scalarE : V → Bool
  | .agg zs => zs.all scalarV
  | x => scalarV x
def maskOk : List Bool → List V → Bool
  | true :: m, z :: zs => scalarV z && maskOk m zs
  | false :: m, _ :: zs => maskOk m zs
  | _, _ => true
/-- what a call's raw answer brings to a place -/
def outV1 (raw : List (List V)) : Option (Nat × Nat) → Option V
  | none => some .unit
  | some q => pk raw q
def outV (raw : List (List V)) (ps : List (Option (Nat × Nat))) : Option (List V) := ps.mapM (outV1 raw)
def defV : V → Bool
  | .undef => false
  | _ => true
/-- what a closure holds of one variable -/
def cap1 (m : List Bool) : V → Option (List V)
  | .agg zs => if zs.length = m.length ∧ maskOk m zs = true then some zs else none
  | _ => none
def caps : List (List Bool) → List V → Option (List (List V))
  | [], [] => some []
  | m :: ms, y :: ys => (cap1 m y).bind fun z => (caps ms ys).map fun zs => z :: zs
  | _, _ => none
def lookC : List (Nat × Nat × List (List Bool)) → Nat → Option (Nat × List (List Bool))
  | [], _ => none
  | (g, q) :: r, h => if g = h then some q else lookC r h
def VF.sem (Φ : Funs) : VF → List (List V) → Option (List (List V))
  | .gather pss, args => pss.mapM (pks args)
  | .pick, [[.bool c], xs, ys] => some [if c then xs else ys]
  | .un op, [[x]] => (vun op x).map fun z => [[z]]
  | .bin op cls, [[x], [y]] => (vbin op cls x y).map fun z => [[z]]
  | .eqA cl ng, [xs, ys] => (veqs cl xs ys).map fun r => [[.bool (r != ng)]]
  | .conv k, [[.int _ n]] => some [[.int k (k.wrap n)]]
  | .sconv, [[.str s]] => some [[.str s]]
  | .len, [[.list _ xs]] => some [[.int .i64 xs.length]]
  | .lens, [[.str s]] => some [[.int .i64 s.size]]
  | .idx e, [[.list e' xs], [.int _ i]] => if e' = e ∧ 0 ≤ i then (xs[i.toNat]?).map fun x => [[x]] else none
  | .eix e, [[.list e' xs], [.int _ i]] => if e' = e ∧ 0 ≤ i ∧ i < xs.length then some [[.int .i64 i]] else none
  | .ldi j n ag mask, [[x]] => (vsub j n ag x).bind fun zs => if maskOk mask zs then some [zs] else none
  | .ldo j n ag, [[.int _ i], [.list _ xs]] => if 0 ≤ i then (xs[i.toNat]?).bind fun x => (vsub j n ag x).map fun zs => [zs] else none
  | .sto j n ps, [.int _ i] :: [.list e xs] :: args => if 0 ≤ i then (xs[i.toNat]?).bind fun x => (pks args ps).bind fun zs => (vput j n x zs).map fun y => [[.list e (xs.set i.toNat y)]] else none
  | .slc e lo hi, [.list e' xs] :: args =>
    match lo, hi, args with
    | false, false, [] => if e' = e then some [[.list e xs]] else none
    | true, false, [[.int _ l]] => if e' = e ∧ 0 ≤ l ∧ l ≤ xs.length then some [[.list e (xs.drop l.toNat)]] else none
    | false, true, [[.int _ h]] => if e' = e ∧ 0 ≤ h ∧ h ≤ xs.length then some [[.list e (xs.take h.toNat)]] else none
    | true, true, [[.int _ l], [.int _ h]] => if e' = e ∧ 0 ≤ l ∧ l ≤ h ∧ h ≤ xs.length then some [[.list e ((xs.take h.toNat).drop l.toNat)]] else none
    | _, _, _ => none
  | .sls lo hi, [.str s] :: args =>
    match lo, hi, args with
    | false, false, [] => some [[.str (s.extract 0 s.size)]]
    | true, false, [[.int _ l]] => if 0 ≤ l ∧ l ≤ s.size then some [[.str (s.extract l.toNat s.size)]] else none
    | false, true, [[.int _ h]] => if 0 ≤ h ∧ h ≤ s.size then some [[.str (s.extract 0 h.toNat)]] else none
    | true, true, [[.int _ l], [.int _ h]] => if 0 ≤ l ∧ l ≤ h ∧ h ≤ s.size then some [[.str (s.extract l.toNat h.toNat)]] else none
    | _, _, _ => none
  | .ixs, [[.str s], [.int _ i]] => if 0 ≤ i then (s.data.toList[i.toNat]?).map fun b => [[.int .u8 b.toNat]] else none
  | .mk e els, args => (els.mapM fun p => (pks args p.2).bind fun zs => if p.1 then some (V.agg zs) else match zs with | [z] => some z | _ => none).map fun xs => [[.list e xs]]
  | .app e bs sc, [[.list e1 xs], [.list e2 ys]] => if ((e1 = e ∧ e2 = e) ∧ (sc = true → ys.all scalarE = true)) ∧ (xs.length + ys.length) * bs ≤ 140737488355328 then some [[.list e (xs ++ ys)]] else none
  | .aps e bs, [[.list e1 xs], [.str s]] => if e1 = e ∧ (xs.length + s.size) * bs ≤ 140737488355328 then some [[.list e (xs ++ s.data.toList.map fun b => .int .u8 b.toNat)]] else none
  | .rep e z bs, [[.int _ n], [.int _ c]] => if 0 ≤ n ∧ n ≤ c ∧ c * bs ≤ 140737488355328 then some [[.list e (List.replicate n.toNat z)]] else none
  | .str e, [[.list _ xs]] => (xs.mapM numOf).map fun ns => [[.str (strOfNums ns)]]
  | .byt e, [[.str s]] => if s.size ≤ 140737488355328 then some [[.list e (s.data.toList.map fun b => .int .u8 b.toNat)]] else none
  | .ifc t, [[x]] => some [[.iface t x]]
  | .mn, [[.int k x], [.int _ y]] => some [[.int k (if y < x then y else x)]]
  | .mx, [[.int k x], [.int _ y]] => some [[.int k (if x < y then y else x)]]
  | .notv, [[.bool b]] => some [[.bool !b]]
  | .call k w ins outs, args => (ins.mapM (pks args)).bind fun xss => (Φ k w xss).bind fun raw => outs.mapM (outV raw)
  | .mkc g, args => if args.all (·.all defV) = true then some [[.clo g (args.map .agg)]] else none
  | .callc gs ins outs, [.clo g ys] :: args => (lookC gs g).bind fun q => (caps q.2 ys).bind fun cs => (ins.mapM (pks ([.clo g ys] :: args))).bind fun xss => (Φ g q.1 (xss ++ cs)).bind fun raw => outs.mapM (outV raw)
  | _, _ => none
def unitAt (ν : Env) (p : Nat × Nat) : Bool := match (ν p.1)[p.2]? with | some .unit => true | _ => false
def trueAt (ν : Env) (p : Nat × Nat) : Bool := match (ν p.1)[p.2]? with | some (.bool true) => true | _ => false
def defAt (ν : Env) (p : Nat × Nat) : Bool := match (ν p.1)[p.2]? with | some .undef => false | none => false | _ => true
def VI.run (Φ : Funs) (i : VI) (ν : Env) : Option Env :=
  if (i.chk.all (unitAt ν) ∧ i.asr.all (trueAt ν)) ∧ i.dfn.all (defAt ν) then
    (i.f.sem Φ (i.rd.map (VArg.get ν))).bind fun outs => if outs.length = i.wr.length then some (ν.upds i.wr outs) else none
  else none
def runIs (Φ : Funs) : List VI → Env → Option Env
  | [], ν => some ν
  | i :: r, ν => (i.run Φ ν).bind (runIs Φ r)

/-! ### an operation's instructions, behind its guard -/
structure VG where
  gd : Option (Nat × Bool) := none
  d : Option Nat := none
  is : List VI
  ud : Bool := false
def Env.undef (ν : Env) : Option Nat → Env
  | some d => ν.upd (sC d) [.undef]
  | none => ν
def Env.defd (ν : Env) : Option Nat → Bool
  | some d => match ν (sC d) with | [.undef] => false | _ => true
  | none => true
def VG.run (Φ : Funs) (g : VG) (ν : Env) : Option Env := match g.gd with
  | none => runIs Φ g.is ν
  | some (c, want) => match ν c with
    | [.bool b] => if b = want then (runIs Φ g.is ν).bind fun ν' => if ν'.defd g.d = true then some ν' else none else some (ν.undef g.d)
    | [.undef] => if g.ud then some (ν.undef g.d) else none
    | _ => none
def runGs (Φ : Funs) : List VG → Env → Option Env
  | [], ν => some ν
  | g :: r, ν => (g.run Φ ν).bind (runGs Φ r)

/-! ### code on values -/
inductive VC where
  | ins (is : List VG)
  | seq (a b : VC)
  | cond (c : Nat) (J : List Nat) (x y : VC)
  | block (id : Nat) (J : List Nat) (b : VC)
  | loop (b : VC)
  | exit (id : Nat)
  | ret (i : VI)
  | ren (t u : Nat)
  | stuck
inductive Out where
  | norm (ν : Env)
  | exit (id : Nat) (ν : Env)
  | ret (rs : List (List V))
/-- rows t and u change their names -/
def Env.sw (t u : Nat) (ν : Env) : Env := fun c => if c = tC t then ν (tC u) else if c = tC u then ν (tC t) else ν c
def loopN (f : Env → Option Out) : Nat → Env → Option Out
  | 0, _ => none
  | n + 1, ν => (f ν).bind fun
    | .norm ν' => loopN f n ν'
    | o => some o
def VC.run (Φ : Funs) (n : Nat) : VC → Env → Option Out
  | .ins is, ν => (runGs Φ is ν).map .norm
  | .seq a b, ν => (a.run Φ n ν).bind fun
    | .norm ν' => b.run Φ n ν'
    | o => some o
  | .cond c _ x y, ν => match ν c with
    | [.bool b] => if b then x.run Φ n ν else y.run Φ n ν
    | _ => none
  | .block id _ b, ν => (b.run Φ n ν).map fun
    | .exit j ν' => if j = id then .norm ν' else .exit j ν'
    | o => o
  | .loop b, ν => loopN (b.run Φ n) n ν
  | .exit id, ν => some (.exit id ν)
  | .stuck, _ => none
  | .ren t u, ν => some (.norm (ν.sw t u))
  | .ret i, ν => if i.chk.all (unitAt ν) ∧ i.asr.all (trueAt ν) then (i.f.sem Φ (i.rd.map (VArg.get ν))).map .ret else none

/-! ### reading what is known: each look is written down -/
inductive RM (β : Type) where
  | ok (b : β)
  | no
  | sl (s : Nat) (k : Sh → RM β)
  | bx (u : Nat) (k : Option Bx → RM β)
def RM.bind {β γ : Type} : RM β → (β → RM γ) → RM γ
  | .ok b, f => f b
  | .no, _ => .no
  | .sl s k, f => .sl s fun h => (k h).bind f
  | .bx u k, f => .bx u fun b => (k b).bind f
instance : Monad RM where
  pure := .ok
  bind := RM.bind
/-- the first one, or where that falls the second one -/
def RM.orElse {β : Type} : RM β → RM β → RM β
  | .ok b, _ => .ok b
  | .no, m => m
  | .sl s k, m => .sl s fun h => (k h).orElse m
  | .bx u k, m => .bx u fun b => (k b).orElse m
def RM.run {β : Type} (α : Al) : RM β → Option (β × List Nat)
  | .ok b => some (b, [])
  | .no => none
  | .sl s k => ((k (α.slot s)).run α).map fun r => (r.1, sC s :: r.2)
  | .bx u k => ((k (α.box u)).run α).map fun r => (r.1, bC u :: r.2)
def RM.opt {β : Type} : Option β → RM β
  | some b => .ok b
  | none => .no
def RM.need (b : Bool) : RM Unit := if b then .ok () else .no
end Go.Proofs.YtlhcgiegganbpaaDoorVs
set_option linter.unusedVariables false
set_option linter.unusedSimpArgs false
namespace Go.Proofs.YtlhcgiegganbpaaDoorVs

def szOf (P : Program) (t : TypeId) : Option Nat := (P.info? t).map (·.size)
def agT (P : Program) (t : TypeId) : Option Bool := match P.underlying t with
  | some (.struct _) | some (.array _ _) => some true
  | some _ => some false
  | none => none
def elT (P : Program) (t : TypeId) : Option TypeId := match P.underlying t with
  | some (.slice e) => some e
  | _ => none
def bytesT (P : Program) (t : TypeId) : Option Nat := (P.info? t).map (·.bytes)
/-- the types of a type's cells -/
def leaves (P : Program) : Nat → TypeId → Option (List TypeId)
  | 0, _ => none
  | n + 1, t => match P.underlying t with
    | some (.struct fs) => (fs.toList.mapM fun f => leaves P n f.type).map List.flatten
    | some (.array k e) => (leaves P n e).map fun l => (List.replicate k l).flatten
    | some _ => some [t]
    | none => none
def leafAt (P : Program) (s : Src) (t : TypeId) : Option At := match P.underlying t with
  | some (.int _) | some .bool | some .string => some (.v .fz)
  | some (.interface _) => some (.v s)
  | some (.slice _) => some (.v s)
  | _ => none
def leafAts (P : Program) (s : Src) (t : TypeId) : Option (List At) := (leaves P 8 t).bind fun l => l.mapM (leafAt P s)

structure Seg where
  sh : Sh
  arg : VArg
def zV (P : Program) (v : Value) (t : TypeId) : Option (At × V) :=
  match v with
  | .int k n => some (.v .fz, .int k n)
  | .bool b => some (.v .fz, .bool b)
  | .string s => some (.v .fz, .str s)
  | .nilIface => some (.v .fz, .nilI)
  | .slice none 0 0 => (elT P t).map fun e => (.nils, .list e [])
  | .pointer none => some (.nilp, .unit)
  | _ => none
def opd (P : Program) (x : Operand) (ty : TypeId) : RM Seg :=
  match x with
  | .tmp t => .sl t fun h => .ok ⟨h, .c (sC t)⟩
  | .const v => match zV P v ty with
    | some (a, x) => .ok ⟨.one a, .lit [x]⟩
    | none => .no
  | .func f => .ok ⟨.one (.v .fz), .lit [.clo f []]⟩
  | _ => .no
def Sh.flat : Sh → Option (Bool × List At)
  | .one a => some (false, [a])
  | .agg as => some (true, as)
  | _ => none
def Sh.atoms : Sh → List At
  | .one a => [a]
  | .agg as => as
  | .ogg as => as
  | .tup ps => (ps.map (·.2)).flatten
def Sh.isOgg : Sh → Bool
  | .ogg _ => true
  | _ => false
def mkSh (ag : Bool) (as : List At) : Option Sh := if ag then some (.agg as) else match as with
  | [a] => some (.one a)
  | _ => none

structure Eff where
  vis : List VI
  kill : List Nat := []
  stale : List Nat := []
  setb : List (Nat × Bx) := []
  dst : Sh := .one .dead
def Al.setBs (α : Al) : List (Nat × Bx) → Al
  | [] => α
  | (u, b) :: r => (α.setB u b).setBs r
def Eff.ap (E : Eff) (α : Al) (d : Option Nat) : Al :=
  let β := ((α.map (At.stale E.stale)).map (At.kill E.kill)).setBs E.setb
  match d with
  | some d => β.setS d E.dst
  | none => β

/-! ### moving values about -/
abbrev Pc := VArg × Nat
def numb : Nat → List (List Pc) → List (List (Nat × Nat))
  | _, [] => []
  | k, ps :: r => (ps.zipIdx k).map (fun p => (p.2, p.1.2)) :: numb (k + ps.length) r
def viG (outs : List (Nat × List Pc)) (chk asr : List (Nat × Nat)) : VI :=
  { f := .gather (numb 0 (outs.map (·.2))), rd := (outs.map (·.2)).flatten.map (·.1), chk, asr, wr := outs.map (·.1) }
def allPc (g : VArg) (n : Nat) : List Pc := (List.range n).map fun j => (g, j)
def pcU : Pc := (.lit [.unit], 0)
structure Pcs where
  ps : List Pc
  chk : List (Nat × Nat) := []
  asr : List (Nat × Nat) := []
  kill : List Nat := []
/-- an atom's value: for good (own rows are given away), or for the while of a call -/
def frz1 (g : VArg) (j : Nat) : At → Option Pcs
  | .v .fz => some { ps := [(g, j)] }
  | .nils => some { ps := [(g, j)] }
  | .own t => match g with
    | .c i => some { ps := [(.c (tC t), 0)], chk := [(i, j)], kill := [tkK t] }
    | _ => none
  | _ => none
def lnd1 (g : VArg) (j : Nat) : At → Option Pcs
  | .v _ => some { ps := [(g, j)] }
  | .nils => some { ps := [(g, j)] }
  | .own t => match g with
    | .c i => some { ps := [(.c (tC t), 0)], chk := [(i, j)] }
    | _ => none
  | _ => none
def own1 (g : VArg) (j : Nat) : At → Option Pcs
  | .nils => some { ps := [(g, j)] }
  | .own t => match g with
    | .c i => some { ps := [(.c (tC t), 0)], chk := [(i, j)], kill := [tkK t] }
    | _ => none
  | _ => none
def Pcs.cat (a b : Pcs) : Pcs := ⟨a.ps ++ b.ps, a.chk ++ b.chk, a.asr ++ b.asr, a.kill ++ b.kill⟩
def pcsL (f : Nat → At → Option Pcs) : Nat → List At → Option Pcs
  | _, [] => some { ps := [] }
  | j, a :: r => (f j a).bind fun p => (pcsL f (j + 1) r).map p.cat
/-- literal nil slices become own rows: atoms, values, the rows' values -/
abbrev APc := At × Pc
def apc (as : List At) (g : VArg) : List APc := as.zipIdx.map fun p => (p.1, (g, p.2))
def ownA (base : Nat) (l : List APc) : List At := l.zipIdx.map fun p => if p.1.1 = .nils then .own (base + p.2) else p.1.1
def ownP (l : List APc) : List Pc := l.map fun p => if p.1 = .nils then pcU else p.2
def ownTl (base : Nat) : Nat → List APc → List (Nat × Pc)
  | _, [] => []
  | j, (a, p) :: r => if a = .nils then (base + j, p) :: ownTl base (j + 1) r else ownTl base (j + 1) r
def ownT (base : Nat) (l : List APc) : List (Nat × List Pc) := (ownTl base 0 l).map fun p => (tC p.1, [p.2])
def ownK (base : Nat) (l : List APc) : List Nat := (ownTl base 0 l).map fun p => tkK p.1
def noNils (as : List At) : Bool := as.all fun a => a != .nils
/-- the atoms that stay name nothing that is struck -/
def clean (ks : List Nat) (as : List At) : Bool := as.all fun a => a.kill ks == a

def copMove (P : Program) (d : Nat) (x : Operand) (ty : TypeId) : RM Eff := do
  let s ← opd P x ty
  match s.sh with
  | .one .nils => .ok { vis := [viG [(tC (tokS d 0), [(s.arg, 0)]), (sC d, [pcU])] [] []], kill := [tkK (tokS d 0)], dst := .one (.own (tokS d 0)) }
  | h => do
    RM.need (noNils h.atoms && !h.isOgg)
    .ok { vis := [viG [(sC d, allPc s.arg h.atoms.length)] [] []], dst := h }
def srcMeet : Src → Src → Option Src
  | .fz, .fz => some .fz
  | .fz, .lent => some .lent
  | .lent, .fz => some .lent
  | .lent, .lent => some .lent
  | .of t, .of u => if t = u then some (.of t) else none
  | _, _ => none
def one1 (s : Seg) : RM Src := match s.sh with
  | .one (.v k) => .ok k
  | _ => .no
def copPick (P : Program) (d : Nat) (c a b : Operand) (ty : TypeId) : RM Eff := do
  let c ← opd P c ty; let a ← opd P a ty; let b ← opd P b ty
  let _ ← one1 c; let s1 ← one1 a; let s2 ← one1 b
  let s ← RM.opt (srcMeet s1 s2)
  .ok { vis := [{ f := .pick, rd := [c.arg, a.arg, b.arg], wr := [sC d] }], dst := .one (.v s) }
def copUn (P : Program) (d : Nat) (op : UnOp) (t : TypeId) (x : Operand) : RM Eff := do
  let x ← opd P x t; let _ ← one1 x
  .ok { vis := [{ f := .un op, rd := [x.arg], wr := [sC d] }], dst := .one (.v .fz) }
def isNilP : Operand → Bool
  | .const (.pointer none) => true
  | _ => false
def isConst : Operand → Bool
  | .const _ => true
  | _ => false
/-- of which kind two values are that are compared, or reckoned with -/
def clsOf (P : Program) (t : TypeId) : Option Nat := match P.underlying t with
  | some (.int _) => some 0
  | some .string => some 1
  | some .bool => some 2
  | some (.interface _) => some 3
  | _ => none
def fldL (P : Program) (f : TypeId → Option (List Nat)) : Nat → List Field → Option (List Nat)
  | _, [] => some []
  | off, g :: r => if g.name ≠ "_" ∧ g.offset = off then (f g.type).bind fun c => (fldL P f (off + c.length) r).map fun l => c ++ l else none
/-- the kinds of an aggregate's cells, if all are numbers, strings and truths -/
def clsL (P : Program) : Nat → TypeId → Option (List Nat)
  | 0, _ => none
  | m + 1, t => (match P.underlying t with
    | some (.int _) => some [0]
    | some .string => some [1]
    | some .bool => some [2]
    | some (.struct fs) => if P.stoodInHeld t then none else fldL P (clsL P m) 0 fs.toList
    | some (.array n e) => (clsL P m e).map fun c => (List.replicate n c).flatten
    | _ => none).bind fun c => if P.cellsOf t = c.length then some c else none
def isEq : BinOp → Bool
  | .eql | .neq => true
  | _ => false
def isNe : BinOp → Bool
  | .neq => true
  | _ => false
def At.isV : At → Bool
  | .v _ => true
  | _ => false
def copEqA (P : Program) (d : Nat) (op : BinOp) (t : TypeId) (x y : Seg) : RM Eff :=
  match x.sh, y.sh with
  | .agg as, .agg bs => do
    RM.need (as.all At.isV && bs.all At.isV)
    let cl ← RM.opt (clsL P 8 t)
    RM.need (agT P t == some true && !P.eqGuardType P.depth t)
    RM.need (isEq op)
    .ok { vis := [{ f := .eqA cl (isNe op), rd := [x.arg, y.arg], wr := [sC d] }], dst := .one (.v .fz) }
  | _, _ => .no
def copBin (P : Program) (d : Nat) (op : BinOp) (t : TypeId) (x y : Operand) (u : TypeId) : RM Eff := do
  let x' ← opd P x t; let y' ← opd P y u
  if isNilP y then
    match P.underlying t, op with
    | some (.pointer _), .eql => match x'.sh, x'.arg with
      | .one (.ptr _ _), .c i => .ok { vis := [viG [(sC d, [(.lit [.bool false], 0)])] [(i, 0)] []], dst := .one (.v .fz) }
      | .one .nilp, .c i => .ok { vis := [viG [(sC d, [(.lit [.bool true], 0)])] [(i, 0)] []], dst := .one (.v .fz) }
      | .one (.opt _), .c i => .ok { vis := [{ f := .notv, rd := [.c i], wr := [sC d] }], dst := .one (.v .fz) }
      | _, _ => .no
    | some (.pointer _), .neq => match x'.sh, x'.arg with
      | .one (.ptr _ _), .c i => .ok { vis := [viG [(sC d, [(.lit [.bool true], 0)])] [(i, 0)] []], dst := .one (.v .fz) }
      | .one .nilp, .c i => .ok { vis := [viG [(sC d, [(.lit [.bool false], 0)])] [(i, 0)] []], dst := .one (.v .fz) }
      | .one (.opt _), .c i => .ok { vis := [{ f := .notv, rd := [.c i], wr := [sC d] }, { f := .notv, rd := [.c (sC d)], wr := [sC d] }], dst := .one (.v .fz) }
      | _, _ => .no
    | _, _ => .no
  else if agT P t == some true then copEqA P d op t x' y'
  else do
    let _ ← one1 x'; let _ ← one1 y'
    let cls ← RM.opt (clsOf P t)
    RM.need (cls != 3 || isConst y)
    .ok { vis := [{ f := .bin op cls, rd := [x'.arg, y'.arg], wr := [sC d] }], dst := .one (.v .fz) }
/-- a row's value, to be read: where it stands, what it leans on, what is to be checked -/
def cont (s : Seg) : Option (VArg × Src × List (Nat × Nat)) :=
  match s.sh, s.arg with
  | .one (.v k), g => some (g, k, [])
  | .one .nils, g => some (g, .fz, [])
  | .one (.own t), .c i => some (.c (tC t), .of t, [(i, 0)])
  | _, _ => none
def copConv (P : Program) (d : Nat) (src dst : TypeId) (x : Operand) : RM Eff := do
  let x ← opd P x src
  match P.underlying src, P.underlying dst with
  | some (.int _), some (.int k) => do
    let _ ← one1 x
    .ok { vis := [{ f := .conv k, rd := [x.arg], wr := [sC d] }], dst := .one (.v .fz) }
  | some .string, some .string => do
    let _ ← one1 x
    .ok { vis := [{ f := .sconv, rd := [x.arg], wr := [sC d] }], dst := .one (.v .fz) }
  | some (.slice e), some .string => do
    let (g, _, chk) ← RM.opt (cont x)
    RM.need (match P.underlying e with | some (.int .u8) => true | _ => false)
    RM.need (szOf P e == some 1)
    .ok { vis := [{ f := .str e, rd := [g], chk, wr := [sC d] }], dst := .one (.v .fz) }
  | some .string, some (.slice e) => do
    let _ ← one1 x
    RM.need (match P.underlying e with | some (.int .u8) => true | _ => false)
    RM.need (szOf P e == some 1)
    .ok { vis := [{ f := .byt e, rd := [x.arg], wr := [tC (tokS d 0)] }, viG [(sC d, [pcU])] [] []], kill := [tkK (tokS d 0)], dst := .one (.own (tokS d 0)) }
  | _, _ => .no
def copExtract (P : Program) (d : Nat) (x : Operand) (i : Nat) : RM Eff := do
  let x ← opd P x 0
  match x.sh with
  | .tup ps => do
    let p ← RM.opt ps[i]?
    let off := ((ps.take i).map (·.2.length)).sum
    let h ← RM.opt (mkSh p.1 p.2)
    .ok { vis := [viG [(sC d, (List.range p.2.length).map fun j => (x.arg, off + j))] [] []], dst := h }
  | _ => .no
def fieldOf (P : Program) (t : TypeId) (f : Nat) : Option (Nat × Nat × Bool) := match P.underlying t with
  | some (.struct fs) => (fs[f]?).bind fun g => (szOf P g.type).bind fun n => (agT P g.type).map fun b => (g.offset, n, b)
  | _ => none
def fieldT (P : Program) (t : TypeId) (f : Nat) : Option TypeId := match P.underlying t with
  | some (.struct fs) => (fs[f]?).map (·.type)
  | _ => none
def copField (P : Program) (d : Nat) (t : TypeId) (x : Operand) (f : Nat) : RM Eff := do
  let x ← opd P x t
  match x.sh with
  | .agg as => do
    let (off, n, ag) ← RM.opt (fieldOf P t f)
    RM.need (decide (off + n ≤ as.length))
    let h ← RM.opt (mkSh ag ((as.drop off).take n))
    .ok { vis := [viG [(sC d, (List.range n).map fun j => (x.arg, off + j))] [] []], dst := h }
  | _ => .no
/-- a type's zero: its atoms and values -/
def zeroOf (P : Program) (t : TypeId) : Option (List At × List V) :=
  (P.info? t).bind fun i => i.zero.bind fun z => (leaves P 8 t).bind fun ls =>
    if z.cells.size = ls.length ∧ i.size = ls.length then ((z.cells.toList.zip ls).mapM fun p => zV P p.1 p.2).map fun l => (l.map (·.1), l.map (·.2)) else none
def memAt : At → Bool
  | .v _ | .own _ | .nils | .ptr _ _ | .opt _ | .nilp => true
  | _ => false
def copAlloc (P : Program) (d : Nat) (t : TypeId) : RM Eff := do
  let (as, vs) ← RM.opt (zeroOf P t)
  let l := apc as (.lit vs)
  let ks := ownK (tokB d 0) l
  RM.need (clean (ks ++ [bxK d]) as)
  .ok { vis := [viG (ownT (tokB d 0) l ++ [(bC d, ownP l), (sC d, [pcU])]) [] []], kill := ks ++ [bxK d], setb := [(d, ⟨false, ownA (tokB d 0) l⟩)], dst := .one (.ptr d 0) }
def copBox (P : Program) (d : Nat) (t : TypeId) (x : Operand) : RM Eff := do
  let x ← opd P x t
  let (_, as) ← RM.opt x.sh.flat
  RM.need (szOf P t == some as.length && as.all memAt)
  let l := apc as x.arg
  let ks := ownK (tokB d 0) l
  RM.need (clean (ks ++ [bxK d]) as)
  .ok { vis := [viG (ownT (tokB d 0) l ++ [(bC d, ownP l), (sC d, [pcU])]) [] []], kill := ks ++ [bxK d], setb := [(d, ⟨false, ownA (tokB d 0) l⟩)], dst := .one (.ptr d 0) }
def copLoad (P : Program) (d : Nat) (t : TypeId) (x : Operand) : RM Eff := do
  let x ← opd P x 0
  let n ← RM.opt (szOf P t)
  let ag ← RM.opt (agT P t)
  match x.sh, x.arg with
  | .one (.ptr u off), .c i => .bx u fun b => do
    let b ← RM.opt b
    RM.need (decide (off + n ≤ b.as.length) && (ag || n == 1))
    let h ← RM.opt (mkSh ag ((b.as.drop off).take n))
    .ok { vis := [viG [(sC d, (List.range n).map fun j => (.c (bC u), off + j))] [(i, 0)] []], dst := h }
  | .one (.elt k j), .c i => do
    let as ← RM.opt (leafAts P .fz t)
    RM.need (as.length == n && (ag || n == 1))
    let h ← RM.opt (mkSh ag as)
    .ok { vis := [{ f := .ldo j n ag, rd := [.c i, .c (tC k)], wr := [sC d] }], dst := h }
  | .one (.iel s j), .c i => do
    let as ← RM.opt (leafAts P s t)
    RM.need (as.length == n && (ag || n == 1))
    let h ← RM.opt (mkSh ag as)
    .ok { vis := [{ f := .ldi j n ag (if s = .fz then [] else as.map (· == .v .fz)), rd := [.c i], wr := [sC d] }], dst := h }
  | _, _ => .no
def stB (u off : Nat) (as : List At) : Nat := if as.contains (.own (tokB u off)) then tokB u (off + 32) else tokB u off
def copStore (P : Program) (t : TypeId) (x y : Operand) : RM Eff := do
  let x ← opd P x 0
  let y ← opd P y t
  let n ← RM.opt (szOf P t)
  let (_, as) ← RM.opt y.sh.flat
  RM.need (as.length == n)
  RM.need (as.all memAt)
  match x.sh, x.arg with
  | .one (.ptr u off), .c i => .bx u fun b => do
    let b ← RM.opt b
    RM.need (decide (off + n ≤ b.as.length) && !b.ro)
    let l := apc as y.arg
    let ks := ownK ((stB u off b.as)) l
    RM.need (clean ks as && clean ks b.as)
    .ok { vis := [viG (ownT ((stB u off b.as)) l ++ [(bC u, allPc (.c (bC u)) off ++ ownP l ++ (List.range (b.as.length - (off + n))).map fun j => (.c (bC u), off + n + j))]) [(i, 0)] []],
          kill := ks, setb := [(u, ⟨false, b.as.take off ++ ownA ((stB u off b.as)) l ++ b.as.drop (off + n)⟩)] }
  | .one (.elt k j), .c i => do
    let q ← RM.opt (pcsL (frz1 y.arg) 0 as)
    RM.need (!q.kill.contains (tkK k))
    .ok { vis := [{ f := .sto j n (q.ps.zipIdx.map fun p => (p.2, p.1.2)), rd := .c i :: .c (tC k) :: q.ps.map (·.1), chk := q.chk, wr := [tC k] }], kill := q.kill, stale := [k] }
  | _, _ => .no
def copFieldAddr (P : Program) (d : Nat) (t : TypeId) (x : Operand) (f : Nat) : RM Eff := do
  let x ← opd P x 0
  let (off, n, _) ← RM.opt (fieldOf P t f)
  RM.need (n != 0)
  match x.sh with
  | .one (.ptr u o) => .ok { vis := [viG [(sC d, [(x.arg, 0)])] [] []], dst := .one (.ptr u (o + off)) }
  | .one (.elt k j) => .ok { vis := [viG [(sC d, [(x.arg, 0)])] [] []], dst := .one (.elt k (j + off)) }
  | .one (.iel s j) => .ok { vis := [viG [(sC d, [(x.arg, 0)])] [] []], dst := .one (.iel s (j + off)) }
  | _ => .no
def constIx : Operand → Option Nat
  | .const (.int .i64 n) => if 0 ≤ n then some n.toNat else none
  | _ => none
def copIndexAddr (P : Program) (d : Nat) (t : TypeId) (x i : Operand) : RM Eff := do
  let xs ← opd P x t
  match P.underlying t with
  | some (.slice e) => do
    let j ← opd P i 0
    let _ ← one1 j
    RM.need (match szOf P e with | some n => n != 0 | none => false)
    match xs.sh, xs.arg with
    | .one (.v s), g => .ok { vis := [{ f := .idx e, rd := [g, j.arg], wr := [sC d] }], dst := .one (.iel s 0) }
    | .one (.own k), .c c => .ok { vis := [{ f := .eix e, rd := [.c (tC k), j.arg], chk := [(c, 0)], wr := [sC d] }], dst := .one (.elt k 0) }
    | _, _ => .no
  | some (.array len e) => do
    let n ← RM.opt (szOf P e)
    let j ← RM.opt (constIx i)
    RM.need (decide (j < len) && n != 0)
    match xs.sh with
    | .one (.ptr u o) => .ok { vis := [viG [(sC d, [(xs.arg, 0)])] [] []], dst := .one (.ptr u (o + j * n)) }
    | .one (.elt k m) => .ok { vis := [viG [(sC d, [(xs.arg, 0)])] [] []], dst := .one (.elt k (m + j * n)) }
    | .one (.iel s m) => .ok { vis := [viG [(sC d, [(xs.arg, 0)])] [] []], dst := .one (.iel s (m + j * n)) }
    | _ => .no
  | _ => .no
def copIndex (P : Program) (d : Nat) (t : TypeId) (x i : Operand) : RM Eff := do
  let x ← opd P x t; let i ← opd P i 0
  let _ ← one1 x; let _ ← one1 i
  match P.underlying t with
  | some .string => .ok { vis := [{ f := .ixs, rd := [x.arg, i.arg], wr := [sC d] }], dst := .one (.v .fz) }
  | _ => .no
def copNilCheck (P : Program) (d : Nat) (x : Operand) : RM Eff := do
  let x ← opd P x 0
  match x.sh, x.arg with
  | .one (.ptr u o), .c i => .ok { vis := [viG [(sC d, [(x.arg, 0)])] [(i, 0)] []], dst := .one (.ptr u o) }
  | .one (.opt u), .c i => .ok { vis := [viG [(sC d, [pcU])] [] [(i, 0)]], dst := .one (.ptr u 0) }
  | _, _ => .no
def optOpd (P : Program) : Option Operand → RM (List VArg)
  | none => .ok []
  | some x => do
    let s ← opd P x 0
    let _ ← one1 s
    .ok [s.arg]
def isOwn : Sh → Bool
  | .one (.own _) => true
  | _ => false
def copSlice (P : Program) (d : Nat) (cut : Bool) (t : TypeId) (x : Operand) (lo hi mx : Option Operand) : RM Eff := do
  RM.need mx.isNone
  let x ← opd P x t
  let l ← optOpd P lo
  let h ← optOpd P hi
  match P.underlying t with
  | some .string => do
    let _ ← one1 x
    .ok { vis := [{ f := .sls lo.isSome hi.isSome, rd := x.arg :: (l ++ h), wr := [sC d] }], dst := .one (.v .fz) }
  | some (.slice e) => do
    RM.need (match szOf P e with | some n => n != 0 | none => false)
    let (g, s, chk) ← RM.opt (cont x)
    match s with
    | .of k => (if cut && isOwn x.sh then RM.ok { vis := [{ f := .slc e lo.isSome hi.isSome, rd := g :: (l ++ h), chk, wr := [tC (tokS d 0)] }, viG [(sC d, [pcU])] [] []], kill := [tkK k, tkK (tokS d 0)], dst := .one (.own (tokS d 0)) } else RM.ok { vis := [{ f := .slc e lo.isSome hi.isSome, rd := g :: (l ++ h), chk, wr := [sC d] }], dst := .one (.v (.of k)) })
    | s => .ok { vis := [{ f := .slc e lo.isSome hi.isSome, rd := g :: (l ++ h), chk, wr := [sC d] }], dst := .one (.v s) }
  | _ => .no
/-- a literal's elements, in their order -/
def litEls (P : Program) (e : TypeId) (n : Nat) : Nat → List (Nat × Operand) → RM (List Pcs)
  | _, [] => .ok []
  | j, (i, x) :: r => do
    RM.need (i == j)
    let s ← opd P x e
    let (_, as) ← RM.opt s.sh.flat
    RM.need (as.length == n)
    let q ← RM.opt (pcsL (frz1 s.arg) 0 as)
    let l ← litEls P e n (j + 1) r
    .ok (q :: l)
def numbE (ag : Bool) (qs : List Pcs) : List (Bool × List (Nat × Nat)) := (numb 0 (qs.map (·.ps))).map fun p => (ag, p)
def copBuildSlice (P : Program) (d : Nat) (t : TypeId) (len : Nat) (parts : Array (Nat × Operand)) : RM Eff := do
  let e ← RM.opt (elT P t)
  let n ← RM.opt (szOf P e)
  let ag ← RM.opt (agT P e)
  RM.need (parts.size == len && decide (len * n ≤ 2 ^ 24) && n != 0 && (ag || n == 1) && decide (len ≤ 1000) && (len == 0 || (zeroOf P e).isSome))
  let qs ← litEls P e n 0 parts.toList
  let ks := (qs.map (·.kill)).flatten
  RM.need (!ks.contains (tkK (tokS d 0)))
  .ok { vis := [{ f := .mk e (numbE ag qs), rd := (qs.map (·.ps)).flatten.map (·.1), chk := (qs.map (·.chk)).flatten, wr := [tC (tokS d 0)] }, viG [(sC d, [pcU])] [] []],
        kill := tkK (tokS d 0) :: ks, dst := .one (.own (tokS d 0)) }
def okCap : At → Bool
  | .v .fz | .v .lent => true
  | _ => false
/-- elements that are lent -/
def lentEls (P : Program) (e : TypeId) : Nat → List (Nat × Operand) → RM (List Pcs)
  | _, [] => .ok []
  | j, (i, x) :: r => do
    RM.need (i == j)
    let s ← opd P x e
    match s.sh with
    | .one a => do
      RM.need (okCap a)
      let l ← lentEls P e (j + 1) r
      .ok ({ ps := [(s.arg, 0)] } :: l)
    | _ => .no
def copBuildLent (P : Program) (d : Nat) (t : TypeId) (len : Nat) (parts : Array (Nat × Operand)) : RM Eff := do
  let e ← RM.opt (elT P t)
  RM.need (szOf P e == some 1 && agT P e == some false)
  RM.need (parts.size == len && decide (len ≤ 1000) && (zeroOf P e).isSome)
  let qs ← lentEls P e 0 parts.toList
  .ok { vis := [{ f := .mk e (numbE false qs), rd := (qs.map (·.ps)).flatten.map (·.1), wr := [sC d] }], dst := .one (.v .lent) }
def zElem (ag : Bool) (vs : List V) : Option V := if ag then some (.agg vs) else match vs with
  | [z] => some z
  | _ => none
def copMakeSlice (P : Program) (d : Nat) (t : TypeId) (l c : Operand) : RM Eff := do
  let e ← RM.opt (elT P t)
  let n ← RM.opt (szOf P e)
  let ag ← RM.opt (agT P e)
  let b ← RM.opt (bytesT P e)
  let (as, vs) ← RM.opt (zeroOf P e)
  RM.need (n != 0 && as.length == n && b != 0 && as.all (fun a => a == .v .fz || a == .nils) && (ag || n == 1))
  let l ← opd P l 0; let c ← opd P c 0
  let _ ← one1 l; let _ ← one1 c
  let z ← RM.opt (zElem ag vs)
  .ok { vis := [{ f := .rep e z b, rd := [l.arg, c.arg], wr := [tC (tokS d 0)] }, viG [(sC d, [pcU])] [] []], kill := [tkK (tokS d 0)], dst := .one (.own (tokS d 0)) }
def copIface (P : Program) (d : Nat) (t : TypeId) (x : Operand) : RM Eff := do
  let x ← opd P x t
  RM.need (P.concrete t)
  match x.sh with
  | .one (.v .fz) => .ok { vis := [{ f := .ifc t, rd := [x.arg], wr := [sC d] }], dst := .one (.v .fz) }
  | _ => .no
/-- a struct's value out of its fields' -/
def dfnOf (s : Seg) : List (Nat × Nat) := match s.sh, s.arg with
  | .one _, .c i => [(i, 0)]
  | _, _ => []
/-- a part's place, size and type -/
def partAt (P : Program) (t : TypeId) (i : Nat) : Option (Nat × Nat × TypeId) := match P.underlying t with
  | some (.array _ e) => (szOf P e).map fun n => (i * n, n, e)
  | _ => (fieldOf P t i).bind fun p => (fieldT P t i).map fun ft => (p.1, p.2.1, ft)
def buildL (P : Program) (t : TypeId) : List (Nat × Operand) → List APc → RM (List APc × List (Nat × Nat))
  | [], l => .ok (l, [])
  | (i, x) :: r, l => do
    let (off, n, ft) ← RM.opt (partAt P t i)
    let s ← opd P x ft
    let (_, as) ← RM.opt s.sh.flat
    RM.need (as.length == n && decide (off + n ≤ l.length) && as.all memAt)
    let (l', ds) ← buildL P t r (l.take off ++ apc as s.arg ++ l.drop (off + n))
    .ok (l', dfnOf s ++ ds)
def placesOf (P : Program) (fs : List Field) : Option (List (Nat × Nat)) := fs.mapM (fun f => (P.info? f.type).map fun i => (f.offset, i.size))
def copBuild (P : Program) (d : Nat) (t : TypeId) (parts : Array (Nat × Operand)) : RM Eff := do
  RM.need (match P.underlying t with
    | some (.struct fs) => (placesOf P fs.toList).isSome
    | some (.array _ e) => (P.info? e).isSome
    | _ => false)
  let (as, vs) ← RM.opt (zeroOf P t)
  let (l, ds) ← buildL P t parts.toList (apc as (.lit vs))
  let ks := ownK (tokS d 0) l
  RM.need (clean ks (l.map (·.1)))
  .ok { vis := [{ viG (ownT (tokS d 0) l ++ [(sC d, ownP l)]) [] [] with dfn := ds }], kill := ks, dst := .agg (ownA (tokS d 0) l) }

/-! ### calls -/
/-- how a parameter is handed over: for good, lent, or given away; a pointer with its variable -/
inductive PM where
  | fz | lent | own
  deriving DecidableEq, Repr
inductive PSh where
  | one (m : PM)
  | agg (ms : List PM)
  | ptr (ro : Bool) (ms : List PM)
  | nilp
  | nils
  deriving DecidableEq, Repr
inductive RSh where
  | one (m : PM)
  | agg (ms : List PM)
  | obx (ms : List PM)
  deriving DecidableEq, Repr
structure Sig where
  ps : List PSh
  rs : List RSh
  deriving DecidableEq, Repr
abbrev Sigs := Nat → List (Nat × Sig)
def pass1 (g : VArg) (j : Nat) (m : PM) (a : At) : Option Pcs := match m with
  | .fz => frz1 g j a
  | .lent => lnd1 g j a
  | .own => own1 g j a
def passL (g : VArg) : Nat → List PM → List At → Option Pcs
  | _, [], [] => some { ps := [] }
  | j, m :: ms, a :: as => (pass1 g j m a).bind fun p => (passL g (j + 1) ms as).map p.cat
  | _, _, _ => none
def resAt (base : Nat) : Nat → List PM → List At
  | _, [] => []
  | j, .own :: r => .own (base + j) :: resAt base (j + 1) r
  | j, _ :: r => .v .fz :: resAt base (j + 1) r
/-- a result's (or a variable's) cells among the raw answer: for the place, and for each own row -/
def outPc (q : Nat) : Nat → List PM → List (Option (Nat × Nat))
  | _, [] => []
  | j, .own :: r => none :: outPc q (j + 1) r
  | j, _ :: r => some (q, j) :: outPc q (j + 1) r
def outTok (q base : Nat) : Nat → List PM → List (Nat × List (Option (Nat × Nat)))
  | _, [] => []
  | j, .own :: r => (tC (base + j), [some (q, j)]) :: outTok q base (j + 1) r
  | j, _ :: r => outTok q base (j + 1) r
def ownKeys (base : Nat) : Nat → List PM → List Nat
  | _, [] => []
  | j, .own :: r => tkK (base + j) :: ownKeys base (j + 1) r
  | j, _ :: r => ownKeys base (j + 1) r
/-- what is lent -/
def lnOf : PM → At → List Nat
  | .lent, .own t => [tkK t]
  | .lent, .v (.of t) => [tkK t]
  | _, _ => []
def lnL : List PM → List At → List Nat
  | m :: ms, a :: as => lnOf m a ++ lnL ms as
  | _, _ => []
structure Arg where
  ps : List Pc
  chk : List (Nat × Nat)
  asr : List (Nat × Nat)
  kill : List Nat
  ln : List Nat                      -- keys of what is lent
  back : Option (Nat × List PM)      -- a variable that comes back: its box
def Arg.keys (a : Arg) : List Nat := (match a.back with | some (u, _) => [bxK u] | none => []) ++ a.kill
def passBox (ro : Bool) (ms : List PM) (u : Nat) (chk asr : List (Nat × Nat)) (b : Option Bx) : RM Arg := do
  let b ← RM.opt b
  RM.need (if ro then ms.all (· != .own) else !b.ro)
  let q ← RM.opt (passL (.c (bC u)) 0 ms b.as)
  .ok ⟨q.ps, chk ++ q.chk, asr ++ q.asr, q.kill, (if ro then [bxK u] else []) ++ lnL ms b.as, if ro then none else some (u, ms)⟩
def passArg (p : PSh) (sh : Sh) (g : VArg) : RM Arg :=
  match p, sh, g with
  | .one m, .one a, g => do
    let q ← RM.opt (passL g 0 [m] [a])
    .ok ⟨q.ps, q.chk, q.asr, q.kill, lnL [m] [a], none⟩
  | .agg ms, .agg as, g => do
    let q ← RM.opt (passL g 0 ms as)
    .ok ⟨q.ps, q.chk, q.asr, q.kill, lnL ms as, none⟩
  | .nilp, .one .nilp, .lit [.unit] => .ok ⟨[], [], [], [], [], none⟩
  | .nilp, .one .nilp, .c i => .ok ⟨[], [(i, 0)], [], [], [], none⟩
  | .nils, .one .nils, .lit [.list _ []] => .ok ⟨[], [], [], [], [], none⟩
  | .ptr ro ms, .one (.ptr u 0), .c i => .bx u (passBox ro ms u [(i, 0)] [])
  | .ptr ro ms, .one (.opt u), .c i => .bx u (passBox ro ms u [] [(i, 0)])
  | _, _, _ => .no
def passArgs (P : Program) : List PSh → List (Operand × TypeId) → RM (List Arg)
  | [], [] => .ok []
  | p :: ps, (x, t) :: xs => do
    let s ← opd P x t
    let a ← passArg p s.sh s.arg
    let r ← passArgs P ps xs
    .ok (a :: r)
  | _, _ => .no
structure Res where
  outs : List (Nat × List (Option (Nat × Nat)))   -- places and what comes into them
  sl : List (Option (Nat × Nat))
  part : Bool × List At
  setb : List (Nat × Bx)
  kill : List Nat
def boxN (d q : Nat) : Nat := d + 1000 * (q + 1)
/-- result number q, from cell o of the slot on -/
def res1 (d q o : Nat) : RSh → Res
  | .one m => ⟨outTok q (tokS d o) 0 [m], outPc q 0 [m], (false, resAt (tokS d o) 0 [m]), [], ownKeys (tokS d o) 0 [m]⟩
  | .agg ms => ⟨outTok q (tokS d o) 0 ms, outPc q 0 ms, (true, resAt (tokS d o) 0 ms), [], ownKeys (tokS d o) 0 ms⟩
  | .obx ms => ⟨(bC (boxN d q), outPc q 1 ms) :: outTok q (tokB (boxN d q) 0) 1 ms, [some (q, 0)], (false, [.opt (boxN d q)]), [(boxN d q, ⟨false, resAt (tokB (boxN d q) 0) 1 ms⟩)], bxK (boxN d q) :: ownKeys (tokB (boxN d q) 0) 1 ms⟩
def RSh.width : RSh → Nat
  | .agg ms => ms.length
  | _ => 1
def resL (d : Nat) : Nat → Nat → List RSh → List Res
  | _, _, [] => []
  | q, o, s :: r => res1 d q o s :: resL d (q + 1) (o + s.width) r
def bkM : PM → PM
  | .own => .own
  | _ => .fz
/-- variables that come back: number q of the raw answer -/
def back1 (q u : Nat) (ms : List PM) : Res := ⟨(bC u, outPc q 0 ms) :: outTok q (tokB u 0) 0 ms, [], (false, []), [(u, ⟨false, resAt (tokB u 0) 0 ms⟩)], ownKeys (tokB u 0) 0 ms⟩
def backL : Nat → List Arg → List Res
  | _, [] => []
  | q, a :: r => match a.back with
    | none => backL q r
    | some (u, ms) => back1 q u (ms.map bkM) :: backL (q + 1) r
def nodupB : List Nat → Bool
  | [] => true
  | x :: r => !r.contains x && nodupB r
/-- a call; mk: its instruction; pre: what stands ahead of the arguments -/
def copFuncG (P : Program) (mk : List (List (Nat × Nat)) → List (List (Option (Nat × Nat))) → VF) (pre : List Pc) (d : Option Nat) (g : Sig) (args : List (Operand × TypeId)) : RM Eff := do
  let as ← passArgs P g.ps args
  let d' := d.getD 0
  let rs := resL d' 0 0 g.rs
  let bs := backL g.rs.length as
  let gk := (as.map Arg.keys).flatten
  let ks := (as.map (·.kill)).flatten ++ (rs.map (·.kill)).flatten ++ (bs.map (·.kill)).flatten
  let outs := (if d.isSome then [(sC d', (rs.map (·.sl)).flatten)] else []) ++ ((rs ++ bs).map (·.outs)).flatten
  RM.need (nodupB gk && (as.map (·.ln)).flatten.all (fun k => !gk.contains k) && nodupB (outs.map (·.1)))
  RM.need ((bs.map (·.setb)).flatten.all fun p => !ks.contains (bxK p.1))
  let h ← (match rs with
    | [r] => RM.opt (mkSh r.part.1 r.part.2)
    | rs => .ok (Sh.tup (rs.map (·.part))) : RM Sh)
  .ok { vis := [{ f := mk (numb pre.length (as.map (·.ps))) (outs.map (·.2)), rd := (pre ++ (as.map (·.ps)).flatten).map (·.1), chk := (as.map (·.chk)).flatten, asr := (as.map (·.asr)).flatten, wr := outs.map (·.1) }],
        kill := ks, setb := ((rs ++ bs).map (·.setb)).flatten, dst := h }
def copFunc (P : Program) (sg : Sigs) (d : Option Nat) (f : FuncId) (w : Nat) (g : Sig) (args : List (Operand × TypeId)) : RM Eff := copFuncG P (.call f w) [] d g args
/-- closures: how arguments of a type are handed over -/
def argP (P : Program) (t : TypeId) : Option PSh := match P.underlying t with
  | some (.struct _) | some (.array _ _) => (leaves P 8 t).bind fun l => (l.mapM fun u => match P.underlying u with
    | some (.slice _) => some PM.lent
    | some (.int _) | some .bool | some .string | some (.interface _) => some PM.fz
    | _ => none).map PSh.agg
  | some (.slice _) => some (.one .lent)
  | some (.int _) | some .bool | some .string | some (.interface _) => some (.one .fz)
  | _ => none
def capM : PSh → Option (List Bool)
  | .ptr true ms => if ms.all (· != .own) then some (ms.map (· == .fz)) else none
  | _ => none
/-- the functions that a closure may be of, called with such arguments: their numbers, variants, and what they hold -/
def cloC (ps : List PSh) (rs : List RSh) : FuncId → List (Nat × Sig) → List (Nat × Nat × List (List Bool))
  | _, [] => []
  | f, (k, g) :: r => if g.ps.take ps.length = ps ∧ g.rs = rs then match (g.ps.drop ps.length).mapM capM with
      | some ms => (f, k, ms) :: cloC ps rs f r
      | none => cloC ps rs f r
    else cloC ps rs f r
def cloCs (P : Program) (sg : Sigs) (ps : List PSh) (rs : List RSh) : List (Nat × Nat × List (List Bool)) := (List.range P.funcs.size).flatMap fun f => cloC ps rs f (sg f)
def copClo (P : Program) (sg : Sigs) (d : Option Nat) (t : Nat) (args : List (Operand × TypeId)) : RM Eff :=
  .sl t fun h => match h with
    | .one a => do
      RM.need (okCap a)
      let ps ← RM.opt (args.mapM fun p => argP P p.2)
      copFuncG P (.callc (cloCs P sg ps [.one .fz])) [(.c (sC t), 0)] d ⟨ps, [.one .fz]⟩ args
    | _ => .no
/-- a variable that a closure holds: its name, what is known of it -/
def capOne (x : Operand) : RM (Nat × Bx × Nat) := match x with
  | .tmp t => .sl t fun h => match h with
    | .one (.ptr u 0) => .bx u fun b => do
      let b ← RM.opt b
      RM.need (b.as.all okCap)
      .ok (u, b, t)
    | _ => .no
  | _ => .no
def capAll : List Operand → RM (List (Nat × Bx × Nat))
  | [] => .ok []
  | x :: r => do
    let c ← capOne x
    let l ← capAll r
    .ok (c :: l)
def copMakeFunc (P : Program) (d : Nat) (fn : Fn) (first captured : Array Operand) : RM Eff :=
  match fn with
  | .func g => do
    RM.need first.toList.isEmpty
    let l ← capAll captured.toList
    RM.need (nodupB (l.map (·.1)))
    .ok { vis := [{ f := .mkc g, rd := l.map fun c => .c (bC c.1), chk := l.map fun c => (sC c.2.2, 0), wr := [sC d] }], setb := l.map fun c => (c.1, ⟨true, c.2.1.as⟩), dst := .one (.v .lent) }
  | _ => .no
def copLen (P : Program) (d : Nat) (x : Operand) (t : TypeId) : RM Eff := do
  let x ← opd P x t
  match P.underlying t with
  | some .string => do
    let _ ← one1 x
    .ok { vis := [{ f := .lens, rd := [x.arg], wr := [sC d] }], dst := .one (.v .fz) }
  | some (.slice _) => do
    let (g, _, chk) ← RM.opt (cont x)
    .ok { vis := [{ f := .len, rd := [g], chk, wr := [sC d] }], dst := .one (.v .fz) }
  | _ => .no
def copMM (P : Program) (d : Nat) (mx : Bool) (xs : List Operand) (ts : List TypeId) : RM Eff :=
  match xs, ts with
  | [x, y], [t, u] => do
    let x ← opd P x t; let y ← opd P y u
    let _ ← one1 x; let _ ← one1 y
    .ok { vis := [{ f := if mx then .mx else .mn, rd := [x.arg, y.arg], wr := [sC d] }], dst := .one (.v .fz) }
  | _, _ => .no
def copAppend (P : Program) (d : Nat) (x y : Operand) (t u : TypeId) : RM Eff := do
  let e ← RM.opt (elT P t)
  let n ← RM.opt (szOf P e)
  let b ← RM.opt (bytesT P e)
  let ag ← RM.opt (agT P e)
  RM.need (n != 0 && b != 0 && (zeroOf P e).isSome && (ag || n == 1))
  let x ← opd P x t
  let y ← opd P y u
  let (g, k, chk) ← (match x.sh, x.arg with
    | .one .nils, g => .ok (g, tokS d 0, [])
    | .one (.own k), .c i => .ok (.c (tC k), k, [(i, 0)])
    | _, _ => .no : RM (VArg × Nat × List (Nat × Nat)))
  match P.underlying u with
  | some (.slice _) => do
    let (g', s, chk') ← RM.opt (cont y)
    RM.need (s != .of k && t == u)
    .ok { vis := [{ f := .app e b (!(s == .fz || isOwn y.sh)), rd := [g, g'], chk := chk ++ chk', wr := [tC k] }, viG [(sC d, [pcU])] [] []], kill := [tkK k], dst := .one (.own k) }
  | some .string => do
    let _ ← one1 y
    RM.need (match P.underlying e with | some (.int .u8) => true | _ => false)
    RM.need (n == 1)
    .ok { vis := [{ f := .aps e b, rd := [g, y.arg], chk, wr := [tC k] }, viG [(sC d, [pcU])] [] []], kill := [tkK k], dst := .one (.own k) }
  | _ => .no
def sigTry (P : Program) (sg : Sigs) (d : Option Nat) (f : FuncId) (args : List (Operand × TypeId)) : List (Nat × Sig) → RM Eff
  | [] => .no
  | (w, g) :: r => (copFunc P sg d f w g args).orElse (sigTry P sg d f args r)
def copCall (P : Program) (sg : Sigs) (d : Option Nat) (c : Call) : RM Eff :=
  match c.callee with
  | .builtin .len => match c.args.toList, c.argTypes.toList, d with
    | [x], [t], some d => copLen P d x t
    | _, _, _ => .no
  | .builtin .append => match c.args.toList, c.argTypes.toList, d with
    | [x, y], [t, u], some d => copAppend P d x y t u
    | _, _, _ => .no
  | .builtin .min => match d with
    | some d => copMM P d false c.args.toList c.argTypes.toList
    | none => .no
  | .builtin .max => match d with
    | some d => copMM P d true c.args.toList c.argTypes.toList
    | none => .no
  | .value (.func f) => if c.args.size = c.argTypes.size then sigTry P sg d f (c.args.toList.zip c.argTypes.toList) (sg f) else .no
  | .value (.tmp t) => if c.args.size = c.argTypes.size then copClo P sg d t (c.args.toList.zip c.argTypes.toList) else .no
  | _ => .no

/-- one operation; h: its hint (a cut that keeps a row own: 1) -/
def cop (P : Program) (sg : Sigs) (h : Nat) (o : Oper) : RM Eff :=
  match o.op, o.dst with
  | .move x, some d => copMove P d x o.type
  | .assign x, some d => copMove P d x o.type
  | .pick c a b, some d => copPick P d c a b o.type
  | .unOp op t x, some d => copUn P d op t x
  | .binOp op t x y u, some d => copBin P d op t x y u
  | .convert s t x, some d => copConv P d s t x
  | .extract x i, some d => copExtract P d x i
  | .field t x f, some d => copField P d t x f
  | .alloc t, some d => copAlloc P d t
  | .box t x, some d => copBox P d t x
  | .load t x, some d => copLoad P d t x
  | .store t x y, none => copStore P t x y
  | .fieldAddr t x f, some d => copFieldAddr P d t x f
  | .indexAddr t x i, some d => copIndexAddr P d t x i
  | .index t x i, some d => copIndex P d t x i
  | .nilCheck x, some d => copNilCheck P d x
  | .slice t x lo hi mx, some d => copSlice P d (h == 1) t x lo hi mx
  | .buildSlice t n ps, some d => (copBuildSlice P d t n ps).orElse (copBuildLent P d t n ps)
  | .makeSlice t l c, some d => copMakeSlice P d t l c
  | .makeInterface t x, some d => copIface P d t x
  | .build t ps, some d => copBuild P d t ps
  | .makeFunc fn first captured, some d => copMakeFunc P d fn first captured
  | .call c, d => copCall P sg d c
  | _, _ => .no
end Go.Proofs.YtlhcgiegganbpaaDoorVs
set_option linter.unusedVariables false
set_option linter.unusedSimpArgs false
namespace Go.Proofs.YtlhcgiegganbpaaDoorVs

/-! ### what is only read -/
inductive Rd (P : Program) (S : Nat → Prop) (w : World) : V → Value → Prop
  | undef (c : Value) : Rd P S w .undef c
  | int (k : IntKind) (n : Int) : Rd P S w (.int k n) (.int k n)
  | bool (b : Bool) : Rd P S w (.bool b) (.bool b)
  | str (s : ByteArray) : Rd P S w (.str s) (.string s)
  | nilI : Rd P S w .nilI .nilIface
  | iface (t : TypeId) (x : V) (c : Value) (h : Rd P S w x c) : Rd P S w (.iface t x) (.iface t c)
  | nil (e : TypeId) (a : Option Addr) (cap : Nat) : Rd P S w (.list e []) (.slice a 0 cap)
  | listS (e : TypeId) (xs : List V) (b o cap : Nat) (f : Nat → Value) (hn : xs ≠ []) (hk : agT P e = some false) (hz : szOf P e = some 1) (hs : S b) (hc : xs.length ≤ cap)
      (hf : ∀ i, i < xs.length → w.cell? ⟨b, o + i, none⟩ = some (f i)) (hu : ∀ i (h : i < xs.length), xs[i] ≠ .undef) (hx : ∀ i (h : i < xs.length), Rd P S w xs[i] (f i)) : Rd P S w (.list e xs) (.slice (some ⟨b, o, none⟩) xs.length cap)
  | listA (e : TypeId) (yss : List (List V)) (b o cap sz : Nat) (f : Nat → Value) (hn : yss ≠ []) (hk : agT P e = some true) (hz : szOf P e = some sz) (hp : 0 < sz) (hs : S b) (hc : yss.length ≤ cap)
      (hl : ∀ ys ∈ yss, ys.length = sz) (hf : ∀ i, i < yss.length * sz → w.cell? ⟨b, o + i, none⟩ = some (f i))
      (hu : ∀ i (h : i < yss.length) j (h' : j < yss[i].length), yss[i][j] ≠ .undef)
      (hx : ∀ i (h : i < yss.length) j (h' : j < yss[i].length), Rd P S w yss[i][j] (f (i * sz + j))) : Rd P S w (.list e (yss.map .agg)) (.slice (some ⟨b, o, none⟩) yss.length cap)
  | clo (g : Nat) (yss : List (List V)) (bs : List Nat) (f : Nat → Nat → Value) (hl : bs.length = yss.length) (hs : ∀ i (h : i < bs.length), S bs[i])
      (hc : ∀ i (h : i < bs.length) (h' : i < yss.length), ∃ C ty fz, w.heap[bs[i]]? = some (.cells C ty fz) ∧ (fz.2 ≤ fz.1 ∨ C.size ≤ fz.1) ∧ C.toList = (List.range yss[i].length).map (f i))
      (hu : ∀ i (h : i < yss.length) j (h' : j < yss[i].length), yss[i][j] ≠ .undef)
      (hx : ∀ i (h : i < yss.length) j (h' : j < yss[i].length), Rd P S w yss[i][j] (f i j)) : Rd P S w (.clo g (yss.map .agg)) (.func (.func g) #[] (bs.map fun b => Value.pointer (some ⟨b, 0, none⟩)).toArray)

theorem cell_same {w w' : World} {b o : Nat} (h : w'.heap[b]? = w.heap[b]?) : w'.cell? ⟨b, o, none⟩ = w.cell? ⟨b, o, none⟩ := World.cell?_of_block (a := ⟨b, o, none⟩) h
theorem Rd.mono {P : Program} {S S' : Nat → Prop} {w w' : World} {x : V} {c : Value} (h : Rd P S w x c) (hS : ∀ b, S b → S' b) (hw : ∀ b, S b → w'.heap[b]? = w.heap[b]?) : Rd P S' w' x c := by
  induction h with
  | undef c => exact .undef c
  | int k n => exact .int k n
  | bool b => exact .bool b
  | str s => exact .str s
  | nilI => exact .nilI
  | iface t x c h ih => exact .iface t x c ih
  | nil e a cap => exact .nil e a cap
  | listS e xs b o cap f hn hk hz hs hc hf hu hx ih => exact .listS e xs b o cap f hn hk hz (hS b hs) hc (fun i hi => by rw [cell_same (hw b hs)]; exact hf i hi) hu ih
  | listA e yss b o cap sz f hn hk hz hp hs hc hl hf hu hx ih => exact .listA e yss b o cap sz f hn hk hz hp (hS b hs) hc hl (fun i hi => by rw [cell_same (hw b hs)]; exact hf i hi) hu ih
  | clo g yss bs f hl hs hc hu hx ih => exact .clo g yss bs f hl (fun i hi => hS _ (hs i hi)) (fun i hi hi' => by rw [hw _ (hs i hi)]; exact hc i hi hi') hu ih

/-! ### elements of a row: cells f 0, f 1, .. -/
/-- an element's value and its cells -/
def RdE (P : Program) (S : Nat → Prop) (w : World) (ag : Bool) (sz : Nat) (x : V) (f : Nat → Value) : Prop :=
  match ag with
  | false => x ≠ .undef ∧ Rd P S w x (f 0)
  | true => ∃ ys, x = .agg ys ∧ ys.length = sz ∧ ∀ j (h : j < ys.length), ys[j] ≠ .undef ∧ Rd P S w ys[j] (f j)
theorem RdE.mono {P : Program} {S S' : Nat → Prop} {w w' : World} {ag : Bool} {sz : Nat} {x : V} {f : Nat → Value} (h : RdE P S w ag sz x f) (hS : ∀ b, S b → S' b) (hw : ∀ b, S b → w'.heap[b]? = w.heap[b]?) : RdE P S' w' ag sz x f := by
  cases ag with
  | false => exact ⟨h.1, Rd.mono h.2 hS hw⟩
  | true =>
    obtain ⟨ys, rfl, hl, hr⟩ := h
    exact ⟨ys, rfl, hl, fun j h => ⟨(hr j h).1, (hr j h).2.mono hS hw⟩⟩
/-- a row of such -/
structure RdRow (P : Program) (S : Nat → Prop) (w : World) (e : TypeId) (sz : Nat) (ag : Bool) (xs : List V) (f : Nat → Value) : Prop where
  hk : agT P e = some ag
  hz : szOf P e = some sz
  hp : 0 < sz
  ha : ag = false → sz = 1
  hx : ∀ i (h : i < xs.length), RdE P S w ag sz xs[i] (fun j => f (i * sz + j))
theorem RdRow.mono {P : Program} {S S' : Nat → Prop} {w w' : World} {e : TypeId} {ag : Bool} {sz : Nat} {xs : List V} {f : Nat → Value} (h : RdRow P S w e sz ag xs f) (hS : ∀ b, S b → S' b) (hw : ∀ b, S b → w'.heap[b]? = w.heap[b]?) : RdRow P S' w' e sz ag xs f :=
  ⟨h.hk, h.hz, h.hp, h.ha, fun i hi => (h.hx i hi).mono hS hw⟩
theorem agg_list {sz : Nat} : ∀ (xs : List V), (∀ i (h : i < xs.length), ∃ ys, xs[i] = .agg ys ∧ ys.length = sz) → ∃ yss : List (List V), xs = yss.map .agg ∧ ∀ ys ∈ yss, ys.length = sz
  | [], _ => ⟨[], rfl, by simp⟩
  | x :: r, h => by
    obtain ⟨ys, hy, hl⟩ := h 0 (by simp)
    obtain ⟨yss, rfl, h2⟩ := agg_list r (fun i hi => h (i + 1) (by simpa using hi))
    simp only [List.getElem_cons_zero] at hy
    subst hy
    refine ⟨ys :: yss, rfl, ?_⟩
    intro z hz
    rcases List.mem_cons.1 hz with rfl | hz
    · exact hl
    · exact h2 z hz
/-- a row that is read out of cells -/
theorem Rd.of_row {P : Program} {S : Nat → Prop} {w : World} {e : TypeId} {ag : Bool} {sz : Nat} {xs : List V} {f : Nat → Value} (h : RdRow P S w e sz ag xs f) (b o cap : Nat) (hb : S b) (hc : xs.length ≤ cap)
    (hf : ∀ i, i < xs.length * sz → w.cell? ⟨b, o + i, none⟩ = some (f i)) : Rd P S w (.list e xs) (.slice (some ⟨b, o, none⟩) xs.length cap) := by
  by_cases hn : xs = []
  · subst hn; exact .nil e _ cap
  · obtain ⟨hk, hz, hp, ha, hx⟩ := h
    cases ag with
    | false =>
      have h1 := ha rfl; subst h1
      exact .listS e xs b o cap f hn hk hz hb hc (fun i hi => hf i (by omega)) (fun i hi => (hx i hi).1) (fun i hi => by have := (show _ ∧ _ from hx i hi).2; simpa using this)
    | true =>
      obtain ⟨yss, rfl, hl⟩ := agg_list xs (fun i hi => by obtain ⟨ys, h1, h2, _⟩ := hx i hi; exact ⟨ys, h1, h2⟩)
      have hne : yss ≠ [] := by rintro rfl; exact hn rfl
      have := Rd.listA (P := P) (S := S) (w := w) e yss b o cap sz f hne hk hz hp hb (by simpa using hc) hl (fun i hi => hf i (by simpa using hi)) (fun i hi j hj => by
        obtain ⟨ys, h1, h2, h3⟩ := hx i (by simpa using hi)
        simp only [List.getElem_map] at h1
        injection h1 with h1
        subst h1
        exact (h3 j hj).1) (fun i hi j hj => by
        obtain ⟨ys, h1, h2, h3⟩ := hx i (by simpa using hi)
        simp only [List.getElem_map] at h1
        injection h1 with h1
        subst h1
        exact (h3 j hj).2)
      simpa using this
/-- .. and the other way round -/
theorem Rd.inv {P : Program} {S : Nat → Prop} {w : World} {x : V} {c : Value} (h : Rd P S w x c) : ∀ e xs, x = .list e xs → (xs = [] ∧ ∃ a cap, c = .slice a 0 cap) ∨
    ∃ b o cap sz ag f, c = .slice (some ⟨b, o, none⟩) xs.length cap ∧ S b ∧ xs.length ≤ cap ∧ RdRow P S w e sz ag xs f ∧ (∀ i, i < xs.length * sz → w.cell? ⟨b, o + i, none⟩ = some (f i)) := by
  intro e' xs' he
  cases h with
  | nil e a cap => injection he with h1 h2; exact .inl ⟨h2.symm, a, cap, rfl⟩
  | listS e xs b o cap f hn hk hz hs hc hf hu hx =>
    injection he with h1 h2; subst h1; subst h2
    exact .inr ⟨b, o, cap, 1, false, f, rfl, hs, hc, ⟨hk, hz, by omega, fun _ => rfl, fun i hi => ⟨hu i hi, by simpa using hx i hi⟩⟩, fun i hi => hf i (by omega)⟩
  | listA e yss b o cap sz f hn hk hz hp hs hc hl hf hu hx =>
    injection he with h1 h2; subst h1; subst h2
    refine .inr ⟨b, o, cap, sz, true, f, by simp, hs, by simpa using hc, ⟨hk, hz, hp, by simp, fun i hi => ?_⟩, fun i hi => hf i (by simpa using hi)⟩
    have hi' : i < yss.length := by simpa using hi
    exact ⟨yss[i], by simp, hl _ (List.getElem_mem hi'), fun j hj => ⟨hu i hi' j hj, hx i hi' j hj⟩⟩
  | _ => cases he
theorem Rd.row {P : Program} {S : Nat → Prop} {w : World} {e : TypeId} {xs : List V} {c : Value} (h : Rd P S w (.list e xs) c) (hn : xs ≠ []) :
    ∃ b o cap sz ag f, c = .slice (some ⟨b, o, none⟩) xs.length cap ∧ S b ∧ xs.length ≤ cap ∧ RdRow P S w e sz ag xs f ∧ (∀ i, i < xs.length * sz → w.cell? ⟨b, o + i, none⟩ = some (f i)) := by
  rcases h.inv e xs rfl with ⟨h, _⟩ | h
  · exact absurd h hn
  · exact h
theorem Rd.slice {P : Program} {S : Nat → Prop} {w : World} {e : TypeId} {xs : List V} {c : Value} (h : Rd P S w (.list e xs) c) : ∃ a cap, c = .slice a xs.length cap := by
  rcases h.inv e xs rfl with ⟨rfl, a, cap, rfl⟩ | ⟨b, o, cap, sz, ag, f, rfl, _⟩
  · exact ⟨a, cap, rfl⟩
  · exact ⟨_, _, rfl⟩

/-! ### own rows, variables in memory -/
structure Row where
  val : Value
  e : TypeId
def Row.blk (r : Row) : Option Nat := r.val.ownBlock
structure Lay where
  row : Nat → Option Row
  box : Nat → Option (Nat × Bool)
  F : Nat → Prop
  S : Nat → Prop
def Lay.src (L : Lay) : Src → Nat → Prop
  | .fz => L.F
  | .lent => L.S
  | .of t => fun b => L.S b ∨ ∃ r, L.row t = some r ∧ r.blk = some b

/-- an own row: its value, its cells -/
structure RowAt (P : Program) (F : Nat → Prop) (w : World) (r : Row) (xs : List V) (b o cap sz : Nat) (ag : Bool) (C : Array Value) (fz : Nat × Nat) : Prop where
  hv : r.val = .slice (some ⟨b, o, none⟩) xs.length cap
  hh : w.heap[b]? = some (.cells C r.e fz)
  hfz : fz.2 ≤ fz.1 ∨ C.size ≤ fz.1
  hc : xs.length ≤ cap
  hm : cap ≤ maxLen
  hs : o + cap * sz ≤ C.size
  rd : RdRow P F w r.e sz ag xs (fun i => C.getD (o + i) undef)
def RowOK (P : Program) (F : Nat → Prop) (w : World) (r : Row) (x : List V) : Prop :=
  ∃ xs, x = [.list r.e xs] ∧ ((r.val = .slice none 0 0 ∧ xs = []) ∨ ∃ b o cap sz ag C fz, RowAt P F w r xs b o cap sz ag C fz)

/-- an element at a place -/
def ElAt (P : Program) (S : Nat → Prop) (w : World) (b p : Nat) (x : V) : Prop :=
  (∃ ys, x = .agg ys ∧ ∀ i (h : i < ys.length), ∃ c, w.cell? ⟨b, p + i, none⟩ = some c ∧ Rd P S w ys[i] c) ∨
  ((∀ ys, x ≠ .agg ys) ∧ ∃ c, w.cell? ⟨b, p, none⟩ = some c ∧ Rd P S w x c)
def RA (P : Program) (L : Lay) (w : World) (a : At) (x : V) (c : Value) : Prop :=
  x = .undef ∨ match a with
  | .dead => True
  | .gone _ => True
  | .v s => Rd P (L.src s) w x c
  | .nils => c = .slice none 0 0 ∧ ∃ e, x = .list e []
  | .nilp => c = .pointer none ∧ x = .unit
  | .own t => x = .unit ∧ ∃ r, L.row t = some r ∧ c = r.val
  | .ptr u off => x = .unit ∧ ∃ b ro, L.box u = some (b, ro) ∧ c = .pointer (some ⟨b, off, none⟩)
  | .opt u => (x = .bool false ∧ c = .pointer none) ∨ (x = .bool true ∧ ∃ b ro, L.box u = some (b, ro) ∧ c = .pointer (some ⟨b, 0, none⟩))
  | .elt t j => ∃ (r : Row) (i b o n cap sz : Nat), L.row t = some r ∧ x = .int .i64 i ∧ r.val = .slice (some ⟨b, o, none⟩) n cap ∧ szOf P r.e = some sz ∧ i < n ∧ c = .pointer (some ⟨b, o + i * sz + j, none⟩)
  | .iel s j => ∃ b p, L.src s b ∧ ElAt P (L.src s) w b p x ∧ c = .pointer (some ⟨b, p + j, none⟩)
/-- several: atoms, values, cells -/
def RAs (P : Program) (L : Lay) (w : World) (as : List At) (xs : List V) (cs : List Value) : Prop :=
  as.length = cs.length ∧ xs.length = as.length ∧ ∀ i (h : i < as.length) (h1 : i < xs.length) (h2 : i < cs.length), RA P L w as[i] xs[i] cs[i]
def RPart (P : Program) (L : Lay) (w : World) (p : Bool × List At) (xs : List V) (c : Value) : Prop :=
  if p.1 then ∃ cs, c = .agg cs ∧ RAs P L w p.2 xs cs.toList else RAs P L w p.2 xs [c]
def RParts (P : Program) (L : Lay) (w : World) : List (Bool × List At) → List V → List Value → Prop
  | [], xs, cs => xs = [] ∧ cs = []
  | p :: ps, xs, cs => ∃ xs1 xs2 c cs2, xs = xs1 ++ xs2 ∧ cs = c :: cs2 ∧ RPart P L w p xs1 c ∧ RParts P L w ps xs2 cs2
/-- a slot -/
def RSl (P : Program) (L : Lay) (w : World) : Sh → List V → Value → Prop
  | .one .dead, _, _ => True
  | .one (.gone _), _, _ => True
  | .one a, xs, c => RAs P L w [a] xs [c]
  | .agg as, xs, c => ∃ cs, c = .agg cs ∧ RAs P L w as xs cs.toList
  | .ogg as, xs, c => (∃ cs, c = .agg cs ∧ RAs P L w as xs cs.toList) ∨ (c = undef ∧ xs = [.undef])
  | .tup ps, xs, c => ∃ cs, c = .tuple cs ∧ RParts P L w ps xs cs.toList
structure BoxOK (P : Program) (L : Lay) (w : World) (b : Nat) (as : List At) (xs : List V) : Prop where
  cells : ∃ C ty fz, w.heap[b]? = some (.cells C ty fz) ∧ (fz.2 ≤ fz.1 ∨ C.size ≤ fz.1) ∧ RAs P L w as xs C.toList

/-- from world w0 on nothing that was there has changed but for M -/
structure Keep (w0 : World) (M : Nat → Prop) (w : World) : Prop where
  os : w.os = w0.os
  tape : w.tape = w0.tape
  output : w.output = w0.output
  size : w0.heap.size ≤ w.heap.size
  block : ∀ b, b < w0.heap.size → ¬ M b → w.heap[b]? = w0.heap[b]?
def mine (w0 : World) (M : Nat → Prop) (b : Nat) : Prop := w0.heap.size ≤ b ∨ M b

/-- the slots: how many, and those that stay what they were -/
structure Fr where
  n : Nat
  kl : List Nat
  val : Nat → Value
  F : Nat → Prop
def Fr.st (N : Fr) : Nat × List Nat := (N.n, N.kl)
def Fr.W (N : Fr) (d : Nat) : Prop := d < N.n ∧ d ∉ N.kl
structure FrOK (N : Fr) (a : Act) : Prop where
  size : a.tmps.size = N.n
  keep : ∀ s, s ∈ N.kl → a.tmps.getD s undef = N.val s
structure NdOK (N : Fr) (w0 : World) (M : Nat → Prop) (F : Nat → Prop) (a : Act) : Prop where
  nd : a.defers = []
  lo : ∀ b, N.F b → F b
  hi : ∀ b, F b → N.F b ∨ mine w0 M b
structure Rel (P : Program) (w0 : World) (M : Nat → Prop) (N : Fr) (α : Al) (ν : Env) (L : Lay) (a : Act) (w : World) : Prop where
  nt : FrOK N a
  nd : NdOK N w0 M L.F a
  kp : Keep w0 M w
  fs : ∀ b, L.F b → L.S b
  sl : ∀ b, L.S b → b < w.heap.size
  slots : ∀ s, RSl P L w (α.slot s) (ν (sC s)) (a.tmps.getD s undef)
  rows : ∀ t r, L.row t = some r → RowOK P L.F w r (ν (tC t))
  boxes : ∀ u b ro, L.box u = some (b, ro) → ∀ x, α.box u = some x → x.ro = ro ∧ BoxOK P L w b x.as (ν (bC u))
  rowmine : ∀ t r b, L.row t = some r → r.blk = some b → mine w0 M b ∧ b < w.heap.size ∧ ¬ L.S b
  boxmine : ∀ u b, L.box u = some (b, false) → mine w0 M b ∧ b < w.heap.size ∧ ¬ L.S b
  boxro : ∀ u b, L.box u = some (b, true) → L.S b
  rr : ∀ t t' r r' b, L.row t = some r → L.row t' = some r' → r.blk = some b → r'.blk = some b → t = t'
  rb : ∀ t r u b ro, L.row t = some r → r.blk = some b → L.box u = some (b, ro) → False
  bb : ∀ u u' b ro, L.box u = some (b, false) → L.box u' = some (b, ro) → u = u'
end Go.Proofs.YtlhcgiegganbpaaDoorVs
set_option linter.unusedVariables false
set_option linter.unusedSimpArgs false
namespace Go.Proofs.YtlhcgiegganbpaaDoorVs

structure Ext (L L' : Lay) (w w' : World) (ks st : List Nat) : Prop where
  F : ∀ b, L.F b → L'.F b
  S : ∀ b, L.S b → L'.S b
  fs : ∀ b, L.F b → L.S b
  hS : ∀ b, L.S b → w'.heap[b]? = w.heap[b]?
  row : ∀ t r, tkK t ∉ ks → L.row t = some r → L'.row t = some r
  hrow : ∀ t r b, tkK t ∉ ks → t ∉ st → L.row t = some r → r.blk = some b → w'.heap[b]? = w.heap[b]?
  box : ∀ u b ro, bxK u ∉ ks → L.box u = some (b, ro) → L'.box u = some (b, ro)
theorem Ext.refl (L : Lay) (w : World) (h : ∀ b, L.F b → L.S b) (ks st : List Nat) : Ext L L w w ks st := ⟨fun _ h => h, fun _ h => h, h, fun _ _ => rfl, fun _ _ _ h => h, fun _ _ _ _ _ _ _ => rfl, fun _ _ _ _ h => h⟩

def At.sk (st ks : List Nat) (a : At) : At := (a.stale st).kill ks
theorem src_ext {L L' : Lay} {w w' : World} {ks st : List Nat} (E : Ext L L' w w' ks st) {s : Src} (h : ∀ t, s = .of t → t ∉ st ∧ tkK t ∉ ks) :
    (∀ b, L.src s b → L'.src s b) ∧ (∀ b, L.src s b → w'.heap[b]? = w.heap[b]?) := by
  cases s with
  | fz => exact ⟨E.F, fun b h => E.hS b (E.fs b h)⟩
  | lent => exact ⟨E.S, E.hS⟩
  | of t =>
    obtain ⟨h1, h2⟩ := h t rfl
    refine ⟨fun b hb => ?_, fun b hb => ?_⟩
    · rcases hb with hb | ⟨r, hr, hb⟩
      · exact .inl (E.S b hb)
      · exact .inr ⟨r, E.row t r h2 hr, hb⟩
    · rcases hb with hb | ⟨r, hr, hb⟩
      · exact E.hS b hb
      · exact E.hrow t r b h2 h1 hr hb
theorem ElAt.mono {P : Program} {S S' : Nat → Prop} {w w' : World} {b p : Nat} {x : V} (h : ElAt P S w b p x) (hb : S b) (hS : ∀ b, S b → S' b) (hw : ∀ b, S b → w'.heap[b]? = w.heap[b]?) : ElAt P S' w' b p x := by
  rcases h with ⟨ys, rfl, h⟩ | ⟨h1, c, h3, h4⟩
  · refine .inl ⟨ys, rfl, fun i hi => ?_⟩
    obtain ⟨c, hc, hr⟩ := h i hi
    exact ⟨c, by rw [cell_same (hw b hb)]; exact hc, hr.mono hS hw⟩
  · exact .inr ⟨h1, c, by rw [cell_same (hw b hb)]; exact h3, h4.mono hS hw⟩
theorem RA.gone {P : Program} {L : Lay} {w : World} {k : Nat} {x : V} {c : Value} : RA P L w (.gone k) x c := .inr trivial
theorem sk_v (st ks : List Nat) (s : Src) : (∃ k, At.sk st ks (.v s) = .gone k) ∨ (At.sk st ks (.v s) = .v s ∧ ∀ t, s = .of t → t ∉ st ∧ tkK t ∉ ks) := by
  cases s with
  | fz => exact .inr ⟨rfl, by simp⟩
  | lent => exact .inr ⟨rfl, by simp⟩
  | of t =>
    by_cases h1 : t ∈ st
    · exact .inl ⟨tkK t, by simp [At.sk, At.stale, At.kill, h1]⟩
    · by_cases h2 : tkK t ∈ ks
      · exact .inl ⟨tkK t, by simp [At.sk, At.stale, At.kill, h1, h2]⟩
      · exact .inr ⟨by simp [At.sk, At.stale, At.kill, h1, h2], fun t' e => by injection e with e; subst e; exact ⟨h1, h2⟩⟩
theorem sk_iel (st ks : List Nat) (s : Src) (j : Nat) : (∃ k, At.sk st ks (.iel s j) = .gone k) ∨ (At.sk st ks (.iel s j) = .iel s j ∧ ∀ t, s = .of t → t ∉ st ∧ tkK t ∉ ks) := by
  cases s with
  | fz => exact .inr ⟨rfl, by simp⟩
  | lent => exact .inr ⟨rfl, by simp⟩
  | of t =>
    by_cases h1 : t ∈ st
    · exact .inl ⟨tkK t, by simp [At.sk, At.stale, At.kill, h1]⟩
    · by_cases h2 : tkK t ∈ ks
      · exact .inl ⟨tkK t, by simp [At.sk, At.stale, At.kill, h1, h2]⟩
      · exact .inr ⟨by simp [At.sk, At.stale, At.kill, h1, h2], fun t' e => by injection e with e; subst e; exact ⟨h1, h2⟩⟩
theorem RA.ext {P : Program} {L L' : Lay} {w w' : World} {ks st : List Nat} (E : Ext L L' w w' ks st) {a : At} {x : V} {c : Value} (h : RA P L w a x c) : RA P L' w' (a.sk st ks) x c := by
  rcases h with h | h
  · exact .inl h
  cases a with
  | dead => exact .inr trivial
  | gone k => exact .inr trivial
  | v s =>
    rcases sk_v st ks s with ⟨k, e⟩ | ⟨e, h2⟩
    · rw [e]; exact RA.gone
    · rw [e]; exact .inr (h.mono (src_ext E h2).1 (src_ext E h2).2)
  | nils => exact .inr h
  | nilp => exact .inr h
  | own t =>
    by_cases h2 : tkK t ∈ ks
    · have : At.sk st ks (.own t) = .gone (tkK t) := by simp [At.sk, At.stale, At.kill, h2]
      rw [this]; exact RA.gone
    · have : At.sk st ks (.own t) = .own t := by simp [At.sk, At.stale, At.kill, h2]
      rw [this]; obtain ⟨h, r, hr, hc⟩ := h; exact .inr ⟨h, r, E.row t r h2 hr, hc⟩
  | ptr u off =>
    by_cases h2 : bxK u ∈ ks
    · have : At.sk st ks (.ptr u off) = .gone (bxK u) := by simp [At.sk, At.stale, At.kill, h2]
      rw [this]; exact RA.gone
    · have : At.sk st ks (.ptr u off) = .ptr u off := by simp [At.sk, At.stale, At.kill, h2]
      rw [this]; obtain ⟨h, b, ro, hr, hc⟩ := h; exact .inr ⟨h, b, ro, E.box u b ro h2 hr, hc⟩
  | opt u =>
    by_cases h2 : bxK u ∈ ks
    · have : At.sk st ks (.opt u) = .gone (bxK u) := by simp [At.sk, At.stale, At.kill, h2]
      rw [this]; exact RA.gone
    · have : At.sk st ks (.opt u) = .opt u := by simp [At.sk, At.stale, At.kill, h2]
      rw [this]
      rcases h with h | ⟨h, b, ro, hr, hc⟩
      · exact .inr (.inl h)
      · exact .inr (.inr ⟨h, b, ro, E.box u b ro h2 hr, hc⟩)
  | elt t j =>
    by_cases h2 : tkK t ∈ ks
    · have : At.sk st ks (.elt t j) = .gone (tkK t) := by simp [At.sk, At.stale, At.kill, h2]
      rw [this]; exact RA.gone
    · have : At.sk st ks (.elt t j) = .elt t j := by simp [At.sk, At.stale, At.kill, h2]
      rw [this]
      obtain ⟨r, i, b, o, n, cap, sz, h1, h3⟩ := h
      exact .inr ⟨r, i, b, o, n, cap, sz, E.row t r h2 h1, h3⟩
  | iel s j =>
    rcases sk_iel st ks s j with ⟨k, e⟩ | ⟨e, h2⟩
    · rw [e]; exact RA.gone
    · rw [e]
      obtain ⟨b, p, hs, hel, hc⟩ := h
      exact .inr ⟨b, p, (src_ext E h2).1 b hs, hel.mono hs (src_ext E h2).1 (src_ext E h2).2, hc⟩
theorem RAs.ext {P : Program} {L L' : Lay} {w w' : World} {ks st : List Nat} (E : Ext L L' w w' ks st) {as : List At} {xs : List V} {cs : List Value} (h : RAs P L w as xs cs) : RAs P L' w' (as.map (At.sk st ks)) xs cs :=
  ⟨by simpa using h.1, by simpa using h.2.1, fun i h0 h1 h2 => by
    have hi : i < as.length := by simpa using h0
    have := (h.2.2 i hi h1 h2).ext E
    simpa using this⟩
theorem RPart.ext {P : Program} {L L' : Lay} {w w' : World} {ks st : List Nat} (E : Ext L L' w w' ks st) {p : Bool × List At} {xs : List V} {c : Value} (h : RPart P L w p xs c) : RPart P L' w' (p.1, p.2.map (At.sk st ks)) xs c := by
  obtain ⟨b, as⟩ := p
  cases b with
  | false => exact RAs.ext E h
  | true => obtain ⟨cs, h1, h2⟩ := h; exact ⟨cs, h1, h2.ext E⟩
theorem RParts.ext {P : Program} {L L' : Lay} {w w' : World} {ks st : List Nat} (E : Ext L L' w w' ks st) : ∀ {ps : List (Bool × List At)} {xs : List V} {cs : List Value}, RParts P L w ps xs cs → RParts P L' w' (ps.map fun p => (p.1, p.2.map (At.sk st ks))) xs cs
  | [], xs, cs, h => h
  | p :: ps, xs, cs, ⟨x1, x2, c, c2, h1, h2, h3, h4⟩ => ⟨x1, x2, c, c2, h1, h2, h3.ext E, RParts.ext E h4⟩
theorem RSl.one {P : Program} {L : Lay} {w : World} {a : At} {xs : List V} {c : Value} (h : RAs P L w [a] xs [c]) : RSl P L w (.one a) xs c := by cases a <;> first | trivial | exact h
theorem RSl.ext {P : Program} {L L' : Lay} {w w' : World} {ks st : List Nat} (E : Ext L L' w w' ks st) {h : Sh} {xs : List V} {c : Value} (H : RSl P L w h xs c) : RSl P L' w' (h.map (At.sk st ks)) xs c := by
  cases h with
  | one a =>
    cases a with
    | dead => trivial
    | gone k => trivial
    | _ => exact RSl.one (by have := RAs.ext E H; simpa using this)
  | agg as => obtain ⟨cs, h1, h2⟩ := H; exact ⟨cs, h1, h2.ext E⟩
  | ogg as => rcases H with ⟨cs, h1, h2⟩ | H; exact .inl ⟨cs, h1, h2.ext E⟩; exact .inr H
  | tup ps => obtain ⟨cs, h1, h2⟩ := H; exact ⟨cs, h1, RParts.ext E h2⟩
theorem BoxOK.ext {P : Program} {L L' : Lay} {w w' : World} {ks st : List Nat} (E : Ext L L' w w' ks st) {b : Nat} {as : List At} {xs : List V} (h : BoxOK P L w b as xs) (hb : w'.heap[b]? = w.heap[b]?) : BoxOK P L' w' b (as.map (At.sk st ks)) xs := by
  obtain ⟨C, ty, fz, h1, h2, h3⟩ := h.cells
  exact ⟨C, ty, fz, by rw [hb]; exact h1, h2, h3.ext E⟩
theorem RowOK.ext {P : Program} {F F' : Nat → Prop} {w w' : World} {r : Row} {x : List V} (h : RowOK P F w r x) (hF : ∀ b, F b → F' b) (hw : ∀ b, F b → w'.heap[b]? = w.heap[b]?) (hb : ∀ b, r.blk = some b → w'.heap[b]? = w.heap[b]?) : RowOK P F' w' r x := by
  obtain ⟨xs, rfl, h⟩ := h
  refine ⟨xs, rfl, ?_⟩
  rcases h with h | ⟨b, o, cap, sz, ag, C, fz, h⟩
  · exact .inl h
  · exact .inr ⟨b, o, cap, sz, ag, C, fz, h.hv, by rw [hb b (by rw [Row.blk, h.hv]; rfl)]; exact h.hh, h.hfz, h.hc, h.hm, h.hs, h.rd.mono hF hw⟩

/-! ### what is known, changed -/
theorem slot_map (f : At → At) (hf : f .dead = .dead) (α : Al) (s : Nat) : (α.map f).slot s = (α.slot s).map f := by
  simp only [Al.slot, Al.map, List.getD_eq_getElem?_getD, List.getElem?_map]
  cases α.sl[s]? <;> simp [Sh.map, hf]
theorem look_map (f : At → At) : ∀ (l : List (Nat × Bx)) (u : Nat), lookB (l.map fun p => (p.1, p.2.map f)) u = (lookB l u).map (Bx.map f)
  | [], u => rfl
  | (v, b) :: r, u => by
    simp only [List.map_cons, lookB]
    split
    · rfl
    · exact look_map f r u
theorem box_map (f : At → At) (α : Al) (u : Nat) : (α.map f).box u = (α.box u).map (Bx.map f) := look_map f α.bx u
theorem look_set (l : List (Nat × Bx)) (u : Nat) (b : Bx) (v : Nat) : lookB (setB l u b) v = if v = u then some b else lookB l v := by
  induction l with
  | nil => simp only [setB, lookB]; by_cases h : u = v <;> simp [h, eq_comm]
  | cons p r ih =>
    obtain ⟨k, c⟩ := p
    simp only [setB]
    by_cases h : k = u
    · subst h
      simp only [if_true, lookB]
      by_cases h2 : k = v
      · subst h2; simp
      · rw [if_neg h2, if_neg (fun e => h2 e.symm), if_neg h2]
    · simp only [h, if_false, lookB]
      by_cases h2 : k = v
      · subst h2; simp [h]
      · simp only [h2, if_false]; exact ih
theorem box_setB (α : Al) (u : Nat) (b : Bx) (v : Nat) : (α.setB u b).box v = if v = u then some b else α.box v := look_set α.bx u b v
theorem slot_setB (α : Al) (u : Nat) (b : Bx) (s : Nat) : (α.setB u b).slot s = α.slot s := rfl
theorem box_setS (α : Al) (s : Nat) (h : Sh) (v : Nat) : (α.setS s h).box v = α.box v := rfl
theorem slot_setS (α : Al) (s : Nat) (h : Sh) (v : Nat) : (α.setS s h).slot v = if v = s ∧ s < α.sl.length then h else α.slot v := by
  simp only [Al.slot, Al.setS, List.getD_eq_getElem?_getD, List.getElem?_set]
  by_cases h1 : s = v
  · subst h1
    by_cases h2 : s < α.sl.length <;> simp [h2]
  · rw [if_neg h1, if_neg (fun e => h1 e.1.symm)]
theorem sk_dead (st ks : List Nat) : At.sk st ks .dead = .dead := rfl
def Al.sk (st ks : List Nat) (α : Al) : Al := α.map (At.sk st ks)
theorem map_map (f g : At → At) (α : Al) : (α.map f).map g = α.map (fun a => g (f a)) := by
  simp only [Al.map, List.map_map]
  congr 1
  · refine List.map_congr_left fun h _ => ?_
    cases h <;> simp [Sh.map, Function.comp]
  · refine List.map_congr_left fun h _ => ?_
    simp [Bx.map, Function.comp]
theorem ap_sk (st ks : List Nat) (α : Al) : (α.map (At.stale st)).map (At.kill ks) = α.sk st ks := map_map _ _ _
theorem sk_nil (a : At) : a.sk [] [] = a := by cases a <;> first | rfl | (rename_i s; cases s <;> rfl) | (rename_i s j; cases s <;> rfl)
theorem map_id (α : Al) (f : At → At) (hf : ∀ a, f a = a) : α.map f = α := by
  have h1 : ∀ l : List At, l.map f = l := fun l => by induction l <;> simp [hf, *]
  obtain ⟨sl, bx⟩ := α
  simp only [Al.map, Al.mk.injEq]
  constructor
  · induction sl with
    | nil => rfl
    | cons h r ih =>
      have : h.map f = h := by
        cases h with
        | one a => simp [Sh.map, hf]
        | agg as => simp [Sh.map, h1]
        | ogg as => simp [Sh.map, h1]
        | tup ps => simp only [Sh.map]; congr 1; induction ps with
          | nil => rfl
          | cons p r ih => simp [h1, ih]
      simp [this, ih]
  · induction bx with
    | nil => rfl
    | cons p r ih => simp [Bx.map, h1, ih]
theorem Al.sk_nil (α : Al) : α.sk [] [] = α := map_id α _ YtlhcgiegganbpaaDoorVs.sk_nil
theorem kill_append (k1 k2 : List Nat) (a : At) : (a.kill k1).kill k2 = a.kill (k1 ++ k2) := by
  cases a with
  | v s => cases s with
    | of t => simp only [At.kill, List.contains_iff_mem, List.mem_append]; by_cases h1 : tkK t ∈ k1 <;> by_cases h2 : tkK t ∈ k2 <;> simp [h1, h2, At.kill]
    | _ => rfl
  | iel s j => cases s with
    | of t => simp only [At.kill, List.contains_iff_mem, List.mem_append]; by_cases h1 : tkK t ∈ k1 <;> by_cases h2 : tkK t ∈ k2 <;> simp [h1, h2, At.kill]
    | _ => rfl
  | own t => simp only [At.kill, List.contains_iff_mem, List.mem_append]; by_cases h1 : tkK t ∈ k1 <;> by_cases h2 : tkK t ∈ k2 <;> simp [h1, h2, At.kill]
  | elt t j => simp only [At.kill, List.contains_iff_mem, List.mem_append]; by_cases h1 : tkK t ∈ k1 <;> by_cases h2 : tkK t ∈ k2 <;> simp [h1, h2, At.kill]
  | ptr t j => simp only [At.kill, List.contains_iff_mem, List.mem_append]; by_cases h1 : bxK t ∈ k1 <;> by_cases h2 : bxK t ∈ k2 <;> simp [h1, h2, At.kill]
  | opt t => simp only [At.kill, List.contains_iff_mem, List.mem_append]; by_cases h1 : bxK t ∈ k1 <;> by_cases h2 : bxK t ∈ k2 <;> simp [h1, h2, At.kill]
  | _ => rfl

/-! ### a slot is written -/
theorem sC_inj {s t : Nat} (h : sC s = sC t) : s = t := by simp only [sC] at h; omega
theorem upd_same (ν : Env) (c : Nat) (x : List V) : ν.upd c x c = x := by simp [Env.upd]
theorem upd_ne {ν : Env} {c d : Nat} {x : List V} (h : d ≠ c) : ν.upd c x d = ν d := by simp [Env.upd, h]
theorem getD_put (a : Act) (d : Nat) (v : Value) (s : Nat) (hd : d < a.tmps.size) : (a.put (some d) v).tmps.getD s undef = if s = d then v else a.tmps.getD s undef := by
  simp only [Act.put, Array.getD_eq_getD_getElem?, Array.getElem?_setIfInBounds]
  by_cases h : d = s
  · subst h; simp [hd]
  · rw [if_neg h, if_neg (fun e => h e.symm)]
theorem Rel.put {P : Program} {w0 : World} {M : Nat → Prop} {N : Fr} {α : Al} {ν : Env} {L : Lay} {a : Act} {w : World} (R : Rel P w0 M N α ν L a w) {d : Nat} (hd : N.W d) {h : Sh} {xs : List V} {v : Value} (hv : RSl P L w h xs v) :
    Rel P w0 M N (α.setS d h) (ν.upd (sC d) xs) L (a.put (some d) v) w where
  nt := ⟨by simp [Act.put, R.nt.size], fun s hs => by
    rw [getD_put a d v s (by rw [R.nt.size]; exact hd.1), if_neg (fun e : s = d => hd.2 (e ▸ hs))]
    exact R.nt.keep s hs⟩
  nd := ⟨R.nd.nd, R.nd.lo, R.nd.hi⟩
  kp := R.kp
  fs := R.fs
  sl := R.sl
  slots s := by
    rw [slot_setS, getD_put a d v s (by rw [R.nt.size]; exact hd.1)]
    by_cases hs : s = d
    · subst hs
      simp only [if_true, upd_same, true_and]
      split
      · exact hv
      · rename_i hn
        have : α.slot s = .one .dead := by simp [Al.slot, List.getD_eq_getElem?_getD, List.getElem?_eq_none (Nat.le_of_not_lt hn)]
        rw [this]; trivial
    · simp only [hs, if_false, false_and]
      rw [upd_ne (fun e => hs (sC_inj e))]
      exact R.slots s
  rows t r hr := by rw [upd_ne (by simp only [sC, tC]; omega)]; exact R.rows t r hr
  boxes u b ro hu x hx := by rw [upd_ne (by simp only [sC, bC]; omega)]; exact R.boxes u b ro hu x hx
  rowmine := R.rowmine
  boxmine := R.boxmine
  boxro := R.boxro
  rr := R.rr
  rb := R.rb
  bb := R.bb
end Go.Proofs.YtlhcgiegganbpaaDoorVs
set_option linter.unusedVariables false
set_option linter.unusedSimpArgs false
namespace Go.Proofs.YtlhcgiegganbpaaDoorVs

/-! ### looks at what is known -/
def RM.out {β : Type} (α : Al) (m : RM β) (b : β) : Prop := ∃ l, m.run α = some (b, l)
section
variable {α : Al} {β γ : Type}
theorem out_ok (b c : β) : RM.out α (.ok b) c ↔ c = b := by simp [RM.out, RM.run, eq_comm]
theorem out_pure (b c : β) : RM.out α (pure b : RM β) c ↔ c = b := out_ok b c
theorem out_no (c : β) : RM.out α (.no : RM β) c ↔ False := by simp [RM.out, RM.run]
theorem out_sl (s : Nat) (k : Sh → RM β) (c : β) : RM.out α (.sl s k) c ↔ RM.out α (k (α.slot s)) c := by
  simp only [RM.out, RM.run, Option.map_eq_some_iff, Prod.exists, Prod.mk.injEq]
  constructor
  · rintro ⟨l, b, l', h, rfl, rfl⟩; exact ⟨l', h⟩
  · rintro ⟨l, h⟩; exact ⟨_, c, l, h, rfl, rfl⟩
theorem out_bx (u : Nat) (k : Option Bx → RM β) (c : β) : RM.out α (.bx u k) c ↔ RM.out α (k (α.box u)) c := by
  simp only [RM.out, RM.run, Option.map_eq_some_iff, Prod.exists, Prod.mk.injEq]
  constructor
  · rintro ⟨l, b, l', h, rfl, rfl⟩; exact ⟨l', h⟩
  · rintro ⟨l, h⟩; exact ⟨_, c, l, h, rfl, rfl⟩
theorem out_bind' (m : RM β) (f : β → RM γ) (c : γ) : RM.out α (m.bind f) c ↔ ∃ b, RM.out α m b ∧ RM.out α (f b) c := by
  induction m with
  | ok b => simp [RM.bind, out_ok]
  | no => simp [RM.bind, out_no]
  | sl s k ih => simp only [RM.bind, out_sl, ih]
  | bx u k ih => simp only [RM.bind, out_bx, ih]
theorem out_bind (m : RM β) (f : β → RM γ) (c : γ) : RM.out α (m >>= f) c ↔ ∃ b, RM.out α m b ∧ RM.out α (f b) c := out_bind' m f c
theorem out_orElse (m m' : RM β) (c : β) (h : RM.out α (m.orElse m') c) : RM.out α m c ∨ RM.out α m' c := by
  induction m with
  | ok b => exact .inl h
  | no => exact .inr h
  | sl s k ih => rw [RM.orElse, out_sl] at h; rw [out_sl]; exact ih _ h
  | bx u k ih => rw [RM.orElse, out_bx] at h; rw [out_bx]; exact ih _ h
theorem out_opt (o : Option β) (c : β) : RM.out α (.opt o) c ↔ o = some c := by cases o <;> simp [RM.opt, out_ok, out_no, eq_comm]
theorem out_need (b : Bool) (c : Unit) : RM.out α (.need b) c ↔ b = true := by cases b <;> simp [RM.need, out_ok, out_no]
end

/-! ### an operation that yields a value -/
def OpG (P : Program) (o : Oper) (a : Act) (w : World) (K : Act → World → Prop) : Prop := ∀ Q, o.wp P a w K Q
theorem OpG.value {P : Program} {o : Oper} {a : Act} {w w' : World} {K : Act → World → Prop} {v : Value} (h : (execOp a.eval o).run P w = .ok (.value v) w') (hK : K (a.put o.dst v) w') : OpG P o a w K := fun Q => by
  unfold Oper.wp; rw [h]; exact hK
/-- an operation that yields a value and leaves the world as it is -/
def OpR (P : Program) (o : Oper) (a : Act) (w : World) (K : Act → World → Prop) : Prop := ∃ v, (execOp a.eval o).run P w = .ok (.value v) w ∧ K (a.put o.dst v) w
theorem OpR.value {P : Program} {o : Oper} {a : Act} {w : World} {K : Act → World → Prop} {v : Value} (h : (execOp a.eval o).run P w = .ok (.value v) w) (hK : K (a.put o.dst v) w) : OpR P o a w K := ⟨v, h, hK⟩
theorem OpR.g {P : Program} {o : Oper} {a : Act} {w : World} {K : Act → World → Prop} (h : OpR P o a w K) : OpG P o a w K := by
  obtain ⟨v, h1, h2⟩ := h
  exact OpG.value h1 h2
theorem OpG.skip {P : Program} {o : Oper} {a : Act} {w w' : World} {K : Act → World → Prop} (h : (execOp a.eval o).run P w = .ok .skip w') (hK : K (a.put o.dst undef) w') : OpG P o a w K := fun Q => by
  unfold Oper.wp; rw [h]; exact hK

section
variable {P : Program} {w0 : World} {M : Nat → Prop} {N : Fr} {α : Al} {ν : Env} {L : Lay} {a : Act} {w : World} {Φ : Funs}
theorem RAs.single {at1 : At} {xs : List V} {c : Value} (h : RAs P L w [at1] xs [c]) : ∃ x, xs = [x] ∧ RA P L w at1 x c := by
  obtain ⟨h1, h2, h3⟩ := h
  obtain ⟨x, rfl⟩ := List.length_eq_one_iff.1 (by simpa using h2)
  exact ⟨x, rfl, h3 0 (by simp) (by simp) (by simp)⟩
theorem RAs.one {at1 : At} {x : V} {c : Value} (h : RA P L w at1 x c) : RAs P L w [at1] [x] [c] :=
  ⟨rfl, rfl, fun i h0 h1 h2 => by
    have : i = 0 := by simpa using h0
    subst this; exact h⟩
theorem zV_ok {v : Value} {t : TypeId} {at1 : At} {y : V} (h : zV P v t = some (at1, y)) : RA P L w at1 y v := by
  unfold zV at h
  split at h
  · simp only [Option.some.injEq, Prod.mk.injEq] at h; obtain ⟨rfl, rfl⟩ := h; exact .inr (.int _ _)
  · simp only [Option.some.injEq, Prod.mk.injEq] at h; obtain ⟨rfl, rfl⟩ := h; exact .inr (.bool _)
  · simp only [Option.some.injEq, Prod.mk.injEq] at h; obtain ⟨rfl, rfl⟩ := h; exact .inr (.str _)
  · simp only [Option.some.injEq, Prod.mk.injEq] at h; obtain ⟨rfl, rfl⟩ := h; exact .inr .nilI
  · simp only [Option.map_eq_some_iff, Prod.mk.injEq] at h; obtain ⟨e, _, rfl, rfl⟩ := h; exact .inr ⟨rfl, e, rfl⟩
  · simp only [Option.some.injEq, Prod.mk.injEq] at h; obtain ⟨rfl, rfl⟩ := h; exact .inr ⟨rfl, rfl⟩
  · cases h
/-- an operand's place is told -/
theorem opd_ok (R : Rel P w0 M N α ν L a w) {x : Operand} {ty : TypeId} {s : Seg} (h : RM.out α (opd P x ty) s) : RSl P L w s.sh (s.arg.get ν) (a.eval x) := by
  unfold opd at h
  split at h
  · rename_i t
    rw [out_sl, out_ok] at h
    subst h
    exact R.slots t
  · rename_i v
    split at h
    · rename_i a1 y hz
      rw [out_ok] at h
      subst h
      exact RSl.one (RAs.one (zV_ok hz))
    · rw [out_no] at h; exact h.elim
  · rename_i f
    rw [out_ok] at h
    subst h
    exact RSl.one (RAs.one (.inr (Rd.clo f [] [] (fun _ _ => undef) rfl (fun i h => by simp at h) (fun i h => by simp at h) (fun i h => by simp at h) (fun i h => by simp at h))))
  · rw [out_no] at h; exact h.elim
theorem one1_ok {s : Seg} {k : Src} (h : RM.out α (one1 s) k) : s.sh = .one (.v k) := by
  unfold one1 at h
  split at h
  · rename_i k' hs; rw [out_ok] at h; rw [hs, h]
  · rw [out_no] at h; exact h.elim
theorem v_of {k : Src} {xs : List V} {c : Value} (h : RSl P L w (.one (.v k)) xs c) : ∃ x, xs = [x] ∧ (x = .undef ∨ Rd P (L.src k) w x c) := RAs.single h
/-- a scalar operand -/
theorem opd1 (R : Rel P w0 M N α ν L a w) {x : Operand} {ty : TypeId} {s : Seg} {k : Src} (h : RM.out α (opd P x ty) s) (h1 : RM.out α (one1 s) k) : ∃ y, s.arg.get ν = [y] ∧ (y = .undef ∨ Rd P (L.src k) w y (a.eval x)) := by
  have := opd_ok R h
  rw [one1_ok h1] at this
  exact v_of this

/-! ### instructions that come to an answer -/
theorem get_c (ν : Env) (i : Nat) : VArg.get ν (.c i) = ν i := rfl
theorem run_ins1 {i : VI} {ν' : Env} (h : runIs Φ [i] ν = some ν') : i.run Φ ν = some ν' := by simpa [runIs] using h
theorem VI.inv {i : VI} {ν' : Env} (h : i.run Φ ν = some ν') : i.chk.all (unitAt ν) = true ∧ i.asr.all (trueAt ν) = true ∧ ∃ outs, i.f.sem Φ (i.rd.map (VArg.get ν)) = some outs ∧ outs.length = i.wr.length ∧ ν' = ν.upds i.wr outs := by
  unfold VI.run at h
  split at h
  · rename_i hc
    simp only [Option.bind_eq_some_iff] at h
    obtain ⟨outs, h1, h2⟩ := h
    split at h2
    · rename_i hl
      exact ⟨hc.1.1, hc.1.2, outs, h1, hl, (Option.some.inj h2).symm⟩
    · cases h2
  · cases h
theorem VI.inv_dfn {i : VI} {ν' : Env} (h : i.run Φ ν = some ν') : i.dfn.all (defAt ν) = true := by
  unfold VI.run at h
  split at h
  · rename_i hc; exact hc.2
  · cases h
theorem upds1 (ν : Env) (c : Nat) (outs : List (List V)) (h : outs.length = 1) : ∃ x, outs = [x] ∧ ν.upds [c] outs = ν.upd c x := by
  obtain ⟨x, rfl⟩ := List.length_eq_one_iff.1 h
  exact ⟨x, rfl, rfl⟩
/-- one instruction that writes one place -/
theorem VI.inv1 {f : VF} {rd : List VArg} {chk asr dfn : List (Nat × Nat)} {c : Nat} {ν' : Env} (h : (VI.mk f rd chk asr dfn [c]).run Φ ν = some ν') :
    chk.all (unitAt ν) = true ∧ asr.all (trueAt ν) = true ∧ ∃ x, f.sem Φ (rd.map (VArg.get ν)) = some [x] ∧ ν' = ν.upd c x := by
  obtain ⟨h1, h2, outs, h3, h4, h5⟩ := VI.inv h
  obtain ⟨x, rfl, hx⟩ := upds1 ν c outs h4
  exact ⟨h1, h2, x, h3, h5.trans hx⟩

/-! ### gathering -/
theorem pk_get {args : List (List V)} {p : Nat × Nat} {x : V} (h : pk args p = some x) : (args[p.1]?).bind (·[p.2]?) = some x ∧ x ≠ .undef := by
  unfold pk at h
  split at h
  · cases h
  · rename_i hn
    exact ⟨h, fun e => hn (by rw [h, e])⟩
theorem pks_get {args : List (List V)} : ∀ {ps : List (Nat × Nat)} {xs : List V}, pks args ps = some xs → xs.length = ps.length ∧ ∀ i (h : i < ps.length) (h' : i < xs.length), pk args ps[i] = some xs[i]
  | [], xs, h => by
    simp only [pks, List.mapM_nil] at h
    cases h
    exact ⟨rfl, fun i h => by cases h⟩
  | p :: ps, xs, h => by
    simp only [pks, List.mapM_cons, Option.bind_eq_bind, Option.bind_eq_some_iff, Option.pure_def, Option.some.injEq] at h
    obtain ⟨x, hx, r, hr, rfl⟩ := h
    obtain ⟨h1, h2⟩ := pks_get (ps := ps) hr
    refine ⟨by simp [h1], fun i hi hi' => ?_⟩
    cases i with
    | zero => simpa using hx
    | succ i => simpa using h2 i (by simpa using hi) (by simpa using hi')
theorem numb_args (outs : List (List Pc)) : ∀ (pre : List Pc), ∀ i (h : i < outs.length), ∃ h' : i < (numb pre.length outs).length, ∀ xs, pks ((pre ++ outs.flatten).map fun p => VArg.get ν p.1) (numb pre.length outs)[i] = some xs →
    xs.length = outs[i].length ∧ ∀ j (hj : j < outs[i].length) (hj' : j < xs.length), (outs[i][j].1.get ν)[outs[i][j].2]? = some xs[j] ∧ xs[j] ≠ .undef := by
  induction outs with
  | nil => intro pre i h; cases h
  | cons ps r ih =>
    intro pre i h
    cases i with
    | zero =>
      refine ⟨by simp [numb], fun xs hx => ?_⟩
      simp only [numb, List.getElem_cons_zero] at hx ⊢
      obtain ⟨h1, h2⟩ := pks_get hx
      simp only [List.length_map, List.length_zipIdx] at h1
      refine ⟨h1, fun j hj hj' => ?_⟩
      have := h2 j (by simpa using hj) hj'
      simp only [List.getElem_map, List.getElem_zipIdx] at this
      obtain ⟨h3, h4⟩ := pk_get this
      refine ⟨?_, h4⟩
      simp only [List.flatten_cons, List.map_append] at h3
      rw [List.getElem?_append_right (by simp)] at h3
      simp only [List.length_map, Nat.add_sub_cancel_left] at h3
      rw [List.getElem?_append_left (by simpa using hj)] at h3
      simpa [List.getElem?_eq_getElem hj] using h3
    | succ i =>
      obtain ⟨h', H⟩ := ih (pre ++ ps) i (by simpa using h)
      simp only [List.length_append] at h' H
      refine ⟨by simpa [numb] using h', fun xs hx => ?_⟩
      simp only [numb, List.getElem_cons_succ] at hx ⊢
      exact H xs (by simpa [List.append_assoc] using hx)
theorem gather_get {args : List (List V)} : ∀ {pss : List (List (Nat × Nat))} {outs : List (List V)}, pss.mapM (pks args) = some outs → outs.length = pss.length ∧ ∀ i (h : i < pss.length) (h' : i < outs.length), pks args pss[i] = some outs[i]
  | [], outs, h => by
    simp only [List.mapM_nil] at h
    cases h
    exact ⟨rfl, fun i h => by cases h⟩
  | p :: ps, outs, h => by
    simp only [List.mapM_cons, Option.bind_eq_bind, Option.bind_eq_some_iff, Option.pure_def, Option.some.injEq] at h
    obtain ⟨x, hx, r, hr, rfl⟩ := h
    obtain ⟨h1, h2⟩ := gather_get (pss := ps) hr
    refine ⟨by simp [h1], fun i hi hi' => ?_⟩
    cases i with
    | zero => simpa using hx
    | succ i => simpa using h2 i (by simpa using hi) (by simpa using hi')
/-- what a gathering instruction brings: each place gets its pieces -/
def pcGet (ν : Env) (p : Pc) : Option V := (p.1.get ν)[p.2]?
def Pieces (ν : Env) (ps : List Pc) (xs : List V) : Prop := xs.length = ps.length ∧ ∀ j (hj : j < ps.length) (hj' : j < xs.length), pcGet ν ps[j] = some xs[j] ∧ xs[j] ≠ .undef
theorem viG_inv {outs : List (Nat × List Pc)} {chk asr : List (Nat × Nat)} {ν' : Env} (h : (viG outs chk asr).run Φ ν = some ν') :
    chk.all (unitAt ν) = true ∧ asr.all (trueAt ν) = true ∧ ∃ xss : List (List V), xss.length = outs.length ∧ (∀ i (h : i < outs.length) (h' : i < xss.length), Pieces ν outs[i].2 xss[i]) ∧ ν' = ν.upds (outs.map (·.1)) xss := by
  obtain ⟨h1, h2, xss, h3, h4, h5⟩ := VI.inv h
  refine ⟨h1, h2, xss, by simpa [viG] using h4, fun i hi hi' => ?_, h5⟩
  simp only [viG, VF.sem] at h3
  obtain ⟨h6, h7⟩ := gather_get h3
  obtain ⟨hi2, H⟩ := numb_args (ν := ν) (outs.map (·.2)) [] i (by simpa using hi)
  have := h7 i (by simpa using hi2) hi'
  rw [List.map_map] at this
  have h8 := H xss[i] this
  simpa [Pieces, pcGet] using h8
theorem viG1 {c : Nat} {ps : List Pc} {chk asr : List (Nat × Nat)} {ν' : Env} (h : (viG [(c, ps)] chk asr).run Φ ν = some ν') :
    chk.all (unitAt ν) = true ∧ asr.all (trueAt ν) = true ∧ ∃ xs, Pieces ν ps xs ∧ ν' = ν.upd c xs := by
  obtain ⟨h1, h2, xss, h3, h4, h5⟩ := viG_inv h
  obtain ⟨xs, rfl⟩ := List.length_eq_one_iff.1 (by simpa using h3)
  exact ⟨h1, h2, xs, by simpa using h4 0 (by simp) (by simp), h5⟩
theorem Pieces.range {g : VArg} {off n : Nat} {xs : List V} (h : Pieces ν ((List.range n).map fun j => (g, off + j)) xs) : xs = ((g.get ν).drop off).take n ∧ off + n ≤ (g.get ν).length ∨ n = 0 ∧ xs = [] := by
  obtain ⟨h1, h2⟩ := h
  simp only [List.length_map, List.length_range] at h1 h2
  by_cases hn : n = 0
  · subst hn; exact .inr ⟨rfl, List.eq_nil_of_length_eq_zero h1⟩
  · have hlast := (h2 (n - 1) (by omega) (by omega)).1
    simp only [pcGet, List.getElem_map, List.getElem_range] at hlast
    have hlen : off + (n - 1) < (g.get ν).length := (List.getElem?_eq_some_iff.1 hlast).1
    refine .inl ⟨?_, by omega⟩
    apply List.ext_getElem
    · simp [h1]; omega
    · intro i hi hi'
      have := (h2 i (by omega) hi).1
      simp only [pcGet, List.getElem_map, List.getElem_range] at this
      simp only [List.getElem_take, List.getElem_drop]
      exact (List.getElem?_eq_some_iff.1 this).2.symm
theorem Pieces.all {g : VArg} {n : Nat} {xs : List V} (h : Pieces ν (allPc g n) xs) (hn : (g.get ν).length = n) : xs = g.get ν := by
  have : allPc g n = (List.range n).map fun j => (g, 0 + j) := by simp [allPc]
  rw [this] at h
  rcases h.range with ⟨h, _⟩ | ⟨rfl, rfl⟩
  · rw [h, List.drop_zero, ← hn, List.take_length]
  · exact (List.eq_nil_of_length_eq_zero hn).symm
theorem Pieces.unit {xs : List V} (h : Pieces ν [pcU] xs) : xs = [.unit] := by
  obtain ⟨h1, h2⟩ := h
  obtain ⟨x, rfl⟩ := List.length_eq_one_iff.1 (by simpa using h1)
  have := (h2 0 (by simp) (by simp)).1
  simp [pcGet, pcU, VArg.get] at this
  rw [← this]
theorem Pieces.one {g : VArg} {j : Nat} {xs : List V} (h : Pieces ν [(g, j)] xs) : ∃ x, xs = [x] ∧ (g.get ν)[j]? = some x ∧ x ≠ .undef := by
  obtain ⟨h1, h2⟩ := h
  obtain ⟨x, rfl⟩ := List.length_eq_one_iff.1 (by simpa using h1)
  have := h2 0 (by simp) (by simp)
  exact ⟨x, rfl, by simpa [pcGet] using this.1, by simpa using this.2⟩

/-! ### nothing is struck -/
theorem ap_plain (E : Eff) (α : Al) (d : Nat) (hk : E.kill = []) (hs : E.stale = []) (hb : E.setb = []) : E.ap α (some d) = α.setS d E.dst := by
  simp only [Eff.ap, hk, hs, hb, ap_sk, Al.sk_nil, Al.setBs]
/-- the goal of an operation -/
def Goal (P : Program) (w0 : World) (M : Nat → Prop) (N : Fr) (α' : Al) (ν' : Env) (a : Act) (w : World) : Prop := ∃ L', Rel P w0 M N α' ν' L' a w
theorem Goal.plain (R : Rel P w0 M N α ν L a w) {E : Eff} {d : Nat} (hd : N.W d) (hk : E.kill = []) (hs : E.stale = []) (hb : E.setb = []) {xs : List V} {v : Value} (hv : RSl P L w E.dst xs v) :
    Goal P w0 M N (E.ap α (some d)) (ν.upd (sC d) xs) (a.put (some d) v) w := by
  rw [ap_plain E α d hk hs hb]
  exact ⟨L, R.put hd hv⟩
/-- a scalar comes of it -/
theorem Goal.scalar (R : Rel P w0 M N α ν L a w) {E : Eff} {d : Nat} (hd : N.W d) (hk : E.kill = []) (hs : E.stale = []) (hb : E.setb = []) {k : Src} (hE : E.dst = .one (.v k)) {x : V} {v : Value} (hv : Rd P (L.src k) w x v) :
    Goal P w0 M N (E.ap α (some d)) (ν.upd (sC d) [x]) (a.put (some d) v) w :=
  Goal.plain R hd hk hs hb (by rw [hE]; exact RSl.one (RAs.one (.inr hv)))
end
end Go.Proofs.YtlhcgiegganbpaaDoorVs
set_option linter.unusedVariables false
set_option linter.unusedSimpArgs false
namespace Go.Proofs.YtlhcgiegganbpaaDoorVs
inductive Pv : V → Value → Prop
  | int (k : IntKind) (n : Int) : Pv (.int k n) (.int k n)
  | bool (b : Bool) : Pv (.bool b) (.bool b)
  | str (s : ByteArray) : Pv (.str s) (.string s)
def Ps : List V → List Value → Prop
  | [], [] => True
  | x :: xs, c :: cs => Pv x c ∧ Ps xs cs
  | _, _ => False
theorem Ps.drop : ∀ (n : Nat) {xs : List V} {cs : List Value}, Ps xs cs → Ps (xs.drop n) (cs.drop n)
  | 0, _, _, h => h
  | n + 1, [], [], _ => trivial
  | n + 1, _ :: _, _ :: _, h => Ps.drop n h.2
theorem Ps.take : ∀ (n : Nat) {xs : List V} {cs : List Value}, Ps xs cs → Ps (xs.take n) (cs.take n)
  | 0, _, _, h => by simp [Ps]
  | n + 1, [], [], _ => trivial
  | n + 1, _ :: _, _ :: _, h => ⟨h.1, Ps.take n h.2⟩
theorem Ps.len : ∀ {xs : List V} {cs : List Value}, Ps xs cs → xs.length = cs.length
  | [], [], _ => rfl
  | _ :: _, _ :: _, h => by simp [Ps.len h.2]
theorem veqs_len : ∀ {cl : List Nat} {xs ys : List V} {r : Bool}, veqs cl xs ys = some r → xs.length = cl.length ∧ ys.length = cl.length
  | [], [], [], _, _ => ⟨rfl, rfl⟩
  | c :: cl, x :: xs, y :: ys, r, h => by
    simp only [veqs, Option.bind_eq_some_iff, Option.map_eq_some_iff] at h
    obtain ⟨a, _, b, hb, _⟩ := h
    obtain ⟨h1, h2⟩ := veqs_len hb
    simp [h1, h2]
theorem veqs_app : ∀ {c1 c2 : List Nat} {xs ys : List V} {r : Bool}, veqs (c1 ++ c2) xs ys = some r → ∃ r1 r2, veqs c1 (xs.take c1.length) (ys.take c1.length) = some r1 ∧ veqs c2 (xs.drop c1.length) (ys.drop c1.length) = some r2 ∧ r = (r1 && r2)
  | [], c2, xs, ys, r, h => ⟨true, r, by simp [veqs], by simpa using h, by simp⟩
  | c :: c1, c2, x :: xs, y :: ys, r, h => by
    simp only [List.cons_append, veqs, Option.bind_eq_some_iff, Option.map_eq_some_iff] at h
    obtain ⟨a, ha, b, hb, rfl⟩ := h
    obtain ⟨r1, r2, h1, h2, rfl⟩ := veqs_app hb
    exact ⟨a && r1, r2, by simp [veqs, ha, h1], by simpa using h2, by simp [Bool.and_assoc]⟩
section
variable {P : Program}
/-- a value of a type: an aggregate just if the type is one -/
def Shp (P : Program) (t : TypeId) (x : Value) : Prop := (agT P t = some true → ∃ cs, x = .agg cs) ∧ (agT P t = some false → ∀ cs, x ≠ .agg cs)
def EqT (P : Program) (D : Nat) (t : TypeId) (cl : List Nat) : Prop := ∀ (w : World) (x y : Value) (xs ys : List V) (r : Bool), Shp P t x → Shp P t y → Ps xs x.cells.toList → Ps ys y.cells.toList → veqs cl xs ys = some r → (Op.equalIn D t x y).run P w = .ok r w
theorem cells_agg (cs : Array Value) : (Value.agg cs).cells = cs := rfl
theorem Pv.cells {x : V} {c : Value} (h : Pv x c) : c.cells = #[c] := by cases h <;> rfl
theorem one_cell {c : Value} {xs : List V} (h : Ps xs c.cells.toList) (hl : xs.length = 1) (hn : ∀ cs, c ≠ .agg cs) : ∃ x, xs = [x] ∧ Pv x c := by
  match xs, hl with
  | [x], _ =>
    refine ⟨x, rfl, ?_⟩
    cases c with
    | agg cs => exact absurd rfl (hn cs)
    | _ => exact h.1
theorem part_run (w : World) {e : TypeId} {X : Array Value} {off n : Nat} {xs : List V} {td : TypeDesc} (hu : P.underlying e = some td) (hn : P.cellsOf e = n) (h1 : agT P e = some false → n = 1) (hl : off + n ≤ X.size) (hx : Ps xs ((X.toList.drop off).take n)) :
    ∃ a, (part e X off).run P w = .ok a w ∧ Shp P e a ∧ a.cells.toList = (X.toList.drop off).take n := by
  by_cases ha : agT P e = some true
  · obtain ⟨i, hi⟩ := info_of_underlying hu
    have hs : i.size = n := by rw [← hn]; simp [Program.cellsOf, hi]
    refine ⟨.agg (X.extract off (off + n)), ?_, ⟨fun _ => ⟨_, rfl⟩, fun h => by rw [ha] at h; cases h⟩, ?_⟩
    · unfold agT at ha
      rw [hu] at ha
      cases td <;> simp at ha <;> simp [part, isAgg, run_underlying hu, run_sizeOf w hi, hn]
    · rw [cells_agg, Array.toList_extract]
      simp [List.extract]
  · have ha' : agT P e = some false := by
      unfold agT at ha ⊢
      rw [hu] at ha ⊢
      cases td <;> simp at ha ⊢
    have hn1 := h1 ha'
    subst hn1
    have hlt : off < X.size := by omega
    have e1 : (X.toList.drop off).take 1 = [X[off]] := by
      rw [List.drop_eq_getElem_cons (by simpa using hlt)]
      simp
    rw [e1] at hx ⊢
    have hc : X[off].cells = #[X[off]] ∧ ∀ cs, X[off] ≠ .agg cs := by
      match xs, hx with
      | [x], hx => exact ⟨hx.1.cells, fun cs e => by have := hx.1; rw [e] at this; cases this⟩
    refine ⟨X[off], ?_, ⟨fun h => absurd h ha, fun _ => hc.2⟩, by rw [hc.1]⟩
    unfold agT at ha'
    rw [hu] at ha'
    have hX : X[off]? = some X[off] := Array.getElem?_eq_getElem hlt
    cases td <;> simp at ha' <;> simp [part, isAgg, run_underlying hu, hX]
theorem clsL_cells {m : Nat} {t : TypeId} {cl : List Nat} (h : clsL P m t = some cl) : P.cellsOf t = cl.length := by
  cases m with
  | zero => cases h
  | succ m =>
    unfold clsL at h
    simp only [Option.bind_eq_some_iff] at h
    obtain ⟨c, _, h2⟩ := h
    split at h2
    · rename_i h3
      cases h2
      exact h3
    · cases h2
theorem clsL_under {m : Nat} {t : TypeId} {cl : List Nat} (h : clsL P m t = some cl) : ∃ td, P.underlying t = some td ∧ (agT P t = some false → cl.length = 1) := by
  cases m with
  | zero => cases h
  | succ m =>
    unfold clsL at h
    simp only [Option.bind_eq_some_iff] at h
    obtain ⟨c, h1, h2⟩ := h
    split at h2
    · cases h2
      cases hu : P.underlying t with
      | none => simp [hu] at h1
      | some td =>
        refine ⟨td, rfl, fun ha => ?_⟩
        rw [hu] at h1
        cases td <;> simp [agT, hu] at h1 ha <;> simp [← h1]
    · cases h2
theorem eqFields_run (D : Nat) (X Y : Array Value) (m : Nat) (IH : ∀ t cl, clsL P m t = some cl → EqT P D t cl) : ∀ (fs : List Field) (off : Nat) (cl : List Nat) (w : World) (xs ys : List V) (r : Bool), fldL P (clsL P m) off fs = some cl →
    off + cl.length ≤ X.size → off + cl.length ≤ Y.size → Ps xs ((X.toList.drop off).take cl.length) → Ps ys ((Y.toList.drop off).take cl.length) → veqs cl xs ys = some r → (Op.eqFields D X Y fs).run P w = .ok r w
  | [], off, cl, w, xs, ys, r, h, _, _, _, _, hv => by
    cases h
    obtain ⟨h1, h2⟩ := veqs_len hv
    match xs, ys, h1, h2 with
    | [], [], _, _ => cases hv; simp [Op.eqFields]
  | f :: fs, off, cl, w, xs, ys, r, h, hX, hY, hx, hy, hv => by
    simp only [fldL] at h
    split at h
    · rename_i hf
      simp only [Option.bind_eq_some_iff, Option.map_eq_some_iff] at h
      obtain ⟨c1, hc1, c2, hc2, rfl⟩ := h
      obtain ⟨hf1, rfl⟩ := hf
      obtain ⟨r1, r2, hr1, hr2, rfl⟩ := veqs_app hv
      rw [List.length_append] at hX hY
      have hn := clsL_cells hc1
      obtain ⟨td, hu, h1⟩ := clsL_under hc1
      have e1 : ∀ Z : Array Value, ((Z.toList.drop f.offset).take (c1 ++ c2).length).take c1.length = (Z.toList.drop f.offset).take c1.length := fun Z => by
        rw [List.take_take, List.length_append]; congr 1; omega
      have e2 : ∀ Z : Array Value, ((Z.toList.drop f.offset).take (c1 ++ c2).length).drop c1.length = (Z.toList.drop (f.offset + c1.length)).take c2.length := fun Z => by
        rw [List.drop_take, List.drop_drop, List.length_append]; congr 1; omega
      have hx1 := hx.take c1.length
      have hy1 := hy.take c1.length
      have hx2 := hx.drop c1.length
      have hy2 := hy.drop c1.length
      rw [e1] at hx1 hy1
      rw [e2] at hx2 hy2
      obtain ⟨a, p1, s1, k1⟩ := part_run w hu hn h1 (by omega) hx1
      obtain ⟨b, p2, s2, k2⟩ := part_run w hu hn h1 (by omega) hy1
      have p3 := IH _ _ hc1 w a b _ _ r1 s1 s2 (by rw [k1]; exact hx1) (by rw [k2]; exact hy1) hr1
      have p4 := eqFields_run D X Y m IH fs (f.offset + c1.length) c2 w _ _ r2 hc2 (by omega) (by omega) hx2 hy2 hr2
      simp only [Op.eqFields, hf1, ne_eq, not_false_eq_true, if_true, Sem.run_bind, p1, p2, p3, Result.andThen_ok]
      cases r1
      · simp
      · simpa using p4
    · cases h
theorem eqItems_run (D : Nat) (X Y : Array Value) {e : TypeId} {c1 : List Nat} {m : Nat} (hc1 : clsL P m e = some c1) (IH : EqT P D e c1) : ∀ (k i : Nat) (w : World) (xs ys : List V) (r : Bool),
    (i + k) * c1.length ≤ X.size → (i + k) * c1.length ≤ Y.size → Ps xs ((X.toList.drop (i * c1.length)).take (k * c1.length)) → Ps ys ((Y.toList.drop (i * c1.length)).take (k * c1.length)) → veqs (List.replicate k c1).flatten xs ys = some r → (Op.eqItems D e (P.cellsOf e) X Y (List.range' i k)).run P w = .ok r w
  | 0, i, w, xs, ys, r, _, _, _, _, hv => by
    simp only [List.replicate_zero, List.flatten_nil] at hv
    obtain ⟨h1, h2⟩ := veqs_len hv
    match xs, ys, h1, h2 with
    | [], [], _, _ => cases hv; simp [Op.eqItems]
  | k + 1, i, w, xs, ys, r, hX, hY, hx, hy, hv => by
    simp only [List.replicate_succ, List.flatten_cons] at hv
    obtain ⟨r1, r2, hr1, hr2, rfl⟩ := veqs_app hv
    have hn := clsL_cells hc1
    obtain ⟨td, hu, h1⟩ := clsL_under hc1
    have em : (i + (k + 1)) * c1.length = i * c1.length + c1.length + k * c1.length := by rw [Nat.add_mul, Nat.add_mul]; omega
    have em2 : (k + 1) * c1.length = c1.length + k * c1.length := by rw [Nat.add_mul]; omega
    have em3 : (i + 1) * c1.length = i * c1.length + c1.length := by rw [Nat.add_mul]; omega
    rw [em] at hX hY
    have e1 : ∀ Z : Array Value, ((Z.toList.drop (i * c1.length)).take ((k + 1) * c1.length)).take c1.length = (Z.toList.drop (i * c1.length)).take c1.length := fun Z => by
      rw [List.take_take]; congr 1; omega
    have e2 : ∀ Z : Array Value, ((Z.toList.drop (i * c1.length)).take ((k + 1) * c1.length)).drop c1.length = (Z.toList.drop ((i + 1) * c1.length)).take (k * c1.length) := fun Z => by
      rw [List.drop_take, List.drop_drop]; congr 1
      · omega
      · rw [em3]
    have hx1 := hx.take c1.length
    have hy1 := hy.take c1.length
    have hx2 := hx.drop c1.length
    have hy2 := hy.drop c1.length
    rw [e1] at hx1 hy1
    rw [e2] at hx2 hy2
    obtain ⟨a, p1, s1, k1⟩ := part_run w hu hn h1 (by omega) hx1
    obtain ⟨b, p2, s2, k2⟩ := part_run w hu hn h1 (by omega) hy1
    have p3 := IH w a b _ _ r1 s1 s2 (by rw [k1]; exact hx1) (by rw [k2]; exact hy1) hr1
    have p4 := eqItems_run D X Y hc1 IH k (i + 1) w _ _ r2 (by rw [show i + 1 + k = i + (k + 1) from by omega, em]; exact hX) (by rw [show i + 1 + k = i + (k + 1) from by omega, em]; exact hY) hx2 hy2 hr2
    simp only [List.range'_succ, Op.eqItems, Sem.run_bind, hn, p1, p2, p3, Result.andThen_ok]
    rw [hn] at p4
    cases r1
    · simp
    · simpa using p4
theorem eqT_run : ∀ (m D : Nat) (t : TypeId) (cl : List Nat), clsL P m t = some cl → m ≤ D → EqT P D t cl
  | 0, _, _, _, h, _ => by cases h
  | m + 1, 0, _, _, _, h => by omega
  | m + 1, D + 1, t, cl, h, hD => by
    have hcells := clsL_cells h
    intro w x y xs ys r sx sy hx hy hv
    unfold clsL at h
    simp only [Option.bind_eq_some_iff] at h
    obtain ⟨c, h1, h2⟩ := h
    split at h2
    · cases h2
      obtain ⟨l1, l2⟩ := veqs_len hv
      cases hu : P.underlying t with
      | none => simp [hu] at h1
      | some td =>
        rw [hu] at h1
        have plain : ∀ k, cl = [k] → (∀ a b, Pv a x → Pv b y → veq1 k a b = some r → (Op.equalIn (D + 1) t x y).run P w = .ok r w) → agT P t = some false → (Op.equalIn (D + 1) t x y).run P w = .ok r w := by
          intro k hk hgo hag
          subst hk
          obtain ⟨a, rfl, ha⟩ := one_cell hx (by simpa using l1) (sx.2 hag)
          obtain ⟨b, rfl, hb⟩ := one_cell hy (by simpa using l2) (sy.2 hag)
          simp only [veqs, Option.bind_eq_some_iff, Option.map_eq_some_iff] at hv
          obtain ⟨q, hq, z, hz, rfl⟩ := hv
          cases hz
          exact hgo a b ha hb (by simpa using hq)
        cases td with
        | int q =>
          simp only [Option.some.injEq] at h1
          refine plain 0 h1.symm (fun a b ha hb hq => ?_) (by simp [agT, hu])
          cases ha <;> cases hb <;> simp only [veq1] at hq <;> try cases hq
          split at hq
          · rename_i e
            subst e
            cases hq
            exact run_equalIn_int w D t _ q _ _ hu
          · cases hq
        | bool =>
          simp only [Option.some.injEq] at h1
          refine plain 2 h1.symm (fun a b ha hb hq => ?_) (by simp [agT, hu])
          cases ha <;> cases hb <;> simp only [veq1] at hq <;> cases hq
          exact run_equalIn_bool' w D t _ _ hu
        | string =>
          simp only [Option.some.injEq] at h1
          refine plain 1 h1.symm (fun a b ha hb hq => ?_) (by simp [agT, hu])
          cases ha <;> cases hb <;> simp only [veq1] at hq <;> cases hq
          exact run_equalIn_string w D t _ _ hu
        | struct fs =>
          simp only at h1
          split at h1
          · cases h1
          · rename_i hst
            have hag : agT P t = some true := by simp [agT, hu]
            obtain ⟨X, rfl⟩ := sx.1 hag
            obtain ⟨Y, rfl⟩ := sy.1 hag
            have hfs : P.fieldsOf t = fs := by simp [Program.fieldsOf, hu]
            rw [run_equalIn_struct w D t X Y (by rw [hfs]; exact hu) (by simpa using hst), hfs]
            rw [cells_agg] at hx hy
            have hlx := hx.len
            have hly := hy.len
            have hlx' : X.size = cl.length := by rw [← Array.length_toList, ← hlx, l1]
            have hly' : Y.size = cl.length := by rw [← Array.length_toList, ← hly, l2]
            refine eqFields_run D X Y m (fun t' cl' h' => eqT_run m D t' cl' h' (by omega)) fs.toList 0 cl w xs ys r h1 (by omega) (by omega) ?_ ?_ hv
            · rw [List.drop_zero, List.take_of_length_le (by rw [Array.length_toList]; omega)]; exact hx
            · rw [List.drop_zero, List.take_of_length_le (by rw [Array.length_toList]; omega)]; exact hy
        | array n e =>
          simp only [Option.map_eq_some_iff] at h1
          obtain ⟨c1, hc1, rfl⟩ := h1
          have hag : agT P t = some true := by simp [agT, hu]
          obtain ⟨X, rfl⟩ := sx.1 hag
          obtain ⟨Y, rfl⟩ := sy.1 hag
          obtain ⟨td, hue, _⟩ := clsL_under hc1
          obtain ⟨i, hi⟩ := info_of_underlying hue
          rw [run_equalIn_array w D X Y hu hi, List.range_eq_range']
          rw [cells_agg] at hx hy
          have hfl : (List.replicate n c1).flatten.length = n * c1.length := by simp
          have hlx' : X.size = n * c1.length := by rw [← Array.length_toList, ← hx.len, l1, hfl]
          have hly' : Y.size = n * c1.length := by rw [← Array.length_toList, ← hy.len, l2, hfl]
          refine eqItems_run D X Y hc1 (eqT_run m D e c1 hc1 (by omega)) n 0 w xs ys r (by rw [Nat.zero_add]; omega) (by rw [Nat.zero_add]; omega) ?_ ?_ hv
          · rw [Nat.zero_mul, List.drop_zero, List.take_of_length_le (by rw [Array.length_toList]; omega)]; exact hx
          · rw [Nat.zero_mul, List.drop_zero, List.take_of_length_le (by rw [Array.length_toList]; omega)]; exact hy
        | _ => simp at h1
    · cases h2
variable {L : Lay} {w : World}
theorem pv_of {S : Nat → Prop} {x : V} {c : Value} {k : Nat} {y : V} {r : Bool} (h : Rd P S w x c) (hv : veq1 k x y = some r ∨ veq1 k y x = some r) : Pv x c := by
  cases h with
  | int k n => exact .int k n
  | bool b => exact .bool b
  | str s => exact .str s
  | _ => rcases hv with hv | hv <;> (cases y <;> simp [veq1] at hv)
theorem ps_of : ∀ {cl : List Nat} {as : List At} {xs ys : List V} {cs : List Value} {r : Bool}, as.all At.isV = true → RAs P L w as xs cs → (veqs cl xs ys = some r ∨ veqs cl ys xs = some r) → Ps xs cs
  | [], as, xs, ys, cs, r, ha, hr, hv => by
    have : xs = [] := by rcases hv with hv | hv <;> (have := veqs_len hv; first | exact List.eq_nil_of_length_eq_zero (by simpa using this.1) | exact List.eq_nil_of_length_eq_zero (by simpa using this.2))
    subst this
    have h1 := hr.1
    have h2 := hr.2.1
    have : cs = [] := List.eq_nil_of_length_eq_zero (by simp at h2; omega)
    subst this
    trivial
  | k :: cl, as, xs, ys, cs, r, ha, hr, hv => by
    obtain ⟨h1, h2, h3⟩ := hr
    have hl : xs.length = cl.length + 1 ∧ ys.length = cl.length + 1 := by
      rcases hv with hv | hv <;> (have := veqs_len hv; simp at this; omega)
    cases as with
    | nil => simp only [List.length_nil] at h2; omega
    | cons a as =>
    cases xs with
    | nil => simp at h2
    | cons x xs =>
    cases ys with
    | nil => simp at hl
    | cons y ys =>
    cases cs with
    | nil => simp at h1
    | cons c cs =>
      have h0 := h3 0 (by simp) (by simp) (by simp)
      simp only [List.getElem_cons_zero] at h0
      simp only [List.all_cons, Bool.and_eq_true] at ha
      have hv' : ∃ q q', (veq1 k x y = some q ∨ veq1 k y x = some q) ∧ (veqs cl xs ys = some q' ∨ veqs cl ys xs = some q') := by
        rcases hv with hv | hv
        · simp only [veqs, Option.bind_eq_some_iff, Option.map_eq_some_iff] at hv
          obtain ⟨q, hq, q', hq', _⟩ := hv
          exact ⟨q, q', .inl hq, .inl hq'⟩
        · simp only [veqs, Option.bind_eq_some_iff, Option.map_eq_some_iff] at hv
          obtain ⟨q, hq, q', hq', _⟩ := hv
          exact ⟨q, q', .inr hq, .inr hq'⟩
      obtain ⟨q, q', hq, hq'⟩ := hv'
      refine ⟨?_, ps_of ha.2 ⟨by simpa using h1, by simpa using h2, fun i hi h1' h2' => ?_⟩ hq'⟩
      · cases a with
        | v s =>
          rcases h0 with h0 | h0
          · subst h0
            rcases hq with hq | hq <;> (cases y <;> simp [veq1] at hq)
          · exact pv_of h0 hq
        | _ => simp [At.isV] at ha
      · have := h3 (i + 1) (by simpa using hi) (by simpa using h1') (by simpa using h2')
        simpa using this
end
end Go.Proofs.YtlhcgiegganbpaaDoorVs
