/-
  A small language of values (lists, numbers, strings) and a translation of Go's operations into it: the definitions. No condition.
-/
import Derived.Calls
import Derived.Orders
import Derived.Laws.AppendOwn
import Derived.Laws.MakeOwn
import Derived.Laws.Slices
import Derived.Laws.Cells
import Derived.Laws.Build
import Derived.Laws.BytesArg
import Derived.Laws.Pointers
set_option linter.unusedVariables false
set_option linter.unusedSimpArgs false
namespace Go.Proofs.YtogfkdpgkloljaaDoorVs

/-! ### values -/
inductive V where
  | undef | unit
  | int (k : IntKind) (n : Int)
  | bool (b : Bool)
  | str (s : ByteArray)
  | list (e : TypeId) (xs : List V)
  | agg (ys : List V)
  | iface (t : TypeId) (x : V)
  | nilI
  deriving Inhabited

/-! ### what is known of a slot ahead of the run -/
/-- where a value's rows lie: in what never changes; in what does not change during the call; in an own row. -/
inductive Src where
  | fz | lent | of (t : Nat)
  deriving DecidableEq, Repr
inductive At where
  | dead
  | gone (k : Nat)
  | v (s : Src)
  | nils
  | nilp
  | own (t : Nat)
  | ptr (u off : Nat)
  | opt (u : Nat)
  | elt (t j : Nat)
  | iel (s : Src) (j : Nat)
  deriving DecidableEq, Repr
inductive Sh where
  | one (a : At)
  | agg (as : List At)
  | tup (ps : List (Bool × List At))
  deriving DecidableEq, Repr
structure Bx where
  ro : Bool
  as : List At
  deriving DecidableEq, Repr
structure Al where
  sl : List Sh
  bx : List (Nat × Bx)
  deriving DecidableEq, Repr

def lookB : List (Nat × Bx) → Nat → Option Bx
  | [], _ => none
  | (u, b) :: r, v => if u = v then some b else lookB r v
def Al.slot (α : Al) (s : Nat) : Sh := α.sl.getD s (.one .dead)
def Al.box (α : Al) (u : Nat) : Option Bx := lookB α.bx u
def Sh.map (f : At → At) : Sh → Sh
  | .one a => .one (f a)
  | .agg as => .agg (as.map f)
  | .tup ps => .tup (ps.map fun p => (p.1, p.2.map f))
def Bx.map (f : At → At) (b : Bx) : Bx := { b with as := b.as.map f }
def Al.map (f : At → At) (α : Al) : Al := ⟨α.sl.map (Sh.map f), α.bx.map fun p => (p.1, p.2.map f)⟩
def Al.setS (α : Al) (s : Nat) (h : Sh) : Al := { α with sl := α.sl.set s h }
def setB : List (Nat × Bx) → Nat → Bx → List (Nat × Bx)
  | [], u, b => [(u, b)]
  | (v, c) :: r, u, b => if v = u then (u, b) :: r else (v, c) :: setB r u b
def Al.setB (α : Al) (u : Nat) (b : Bx) : Al := { α with bx := YtogfkdpgkloljaaDoorVs.setB α.bx u b }

def tkK (t : Nat) : Nat := 2 * t
def bxK (u : Nat) : Nat := 2 * u + 1
/-- every holder of a row's token is struck -/
def At.kill (ks : List Nat) : At → At
  | .v (.of t) => if ks.contains (tkK t) then .gone (tkK t) else .v (.of t)
  | .own t => if ks.contains (tkK t) then .gone (tkK t) else .own t
  | .elt t j => if ks.contains (tkK t) then .gone (tkK t) else .elt t j
  | .iel (.of t) j => if ks.contains (tkK t) then .gone (tkK t) else .iel (.of t) j
  | .ptr u off => if ks.contains (bxK u) then .gone (bxK u) else .ptr u off
  | .opt u => if ks.contains (bxK u) then .gone (bxK u) else .opt u
  | a => a
/-- what was read out of a row is struck -/
def At.stale (ks : List Nat) : At → At
  | .v (.of t) => if ks.contains t then .gone (tkK t) else .v (.of t)
  | .iel (.of t) j => if ks.contains t then .gone (tkK t) else .iel (.of t) j
  | a => a

/-! ### places of values: slots, boxes, rows -/
def sC (s : Nat) : Nat := 3 * s
def bC (u : Nat) : Nat := 3 * u + 1
def tC (t : Nat) : Nat := 3 * t + 2
/-- a row's name: of slot s, cell j; of box u, cell j -/
def tokS (s j : Nat) : Nat := (2 * s) * 64 + j
def tokB (u j : Nat) : Nat := (2 * u + 1) * 64 + j

inductive VArg where
  | c (i : Nat)
  | lit (vs : List V)
abbrev Env := Nat → List V
def VArg.get (ν : Env) : VArg → List V
  | .c i => ν i
  | .lit vs => vs
def Env.upd (ν : Env) (c : Nat) (vs : List V) : Env := fun i => if i = c then vs else ν i
def Env.upds (ν : Env) : List Nat → List (List V) → Env
  | c :: cs, vs :: vss => Env.upds (ν.upd c vs) cs vss
  | _, _ => ν

/-! ### instructions on values -/
inductive VF where
  | gather (pss : List (List (Nat × Nat)))
  | pick
  | un (op : UnOp)
  | bin (op : BinOp) (cls : Nat)
  | conv (k : IntKind)
  | sconv
  | len
  | lens
  | idx (e : TypeId)
  | eix (e : TypeId)
  | ldi (j n : Nat) (ag : Bool) (mask : List Bool)
  | ldo (j n : Nat) (ag : Bool)
  | sto (j n : Nat) (ps : List (Nat × Nat))
  | slc (e : TypeId) (lo hi : Bool)
  | sls (lo hi : Bool)
  | ixs
  | mk (e : TypeId) (els : List (Bool × List (Nat × Nat)))
  | app (e : TypeId) (bs : Nat) (sc : Bool)
  | aps (e : TypeId) (bs : Nat)
  | rep (e : TypeId) (z : V) (bs : Nat)
  | str (e : TypeId)
  | byt (e : TypeId)
  | ifc (t : TypeId)
  | mn | mx
  | notv
  | call (k w : Nat) (ins : List (List (Nat × Nat))) (outs : List (List (Option (Nat × Nat))))
structure VI where
  f : VF
  rd : List VArg
  chk : List (Nat × Nat) := []
  asr : List (Nat × Nat) := []
  dfn : List (Nat × Nat) := []
  wr : List Nat
abbrev Funs := Nat → Nat → List (List V) → Option (List (List V))

def pk (args : List (List V)) (p : Nat × Nat) : Option V := match (args[p.1]?).bind (·[p.2]?) with
  | some .undef => none
  | r => r
def pks (args : List (List V)) (ps : List (Nat × Nat)) : Option (List V) := ps.mapM (pk args)
def vun (op : UnOp) (x : V) : Option V :=
  match op, x with
  | .neg, .int k n => some (.int k (k.wrap (0 - n)))
  | .xor, .int k n => some (.int k (k.wrap (BitVec.ofInt k.bits (if k.signed then -1 else k.max) ^^^ BitVec.ofInt k.bits n).toNat))
  | .not, .bool b => some (.bool !b)
  | _, _ => none
def vcmp (op : BinOp) (x y : Int) : Option V :=
  match op with
  | .eql => some (.bool (x == y))
  | .neq => some (.bool (x != y))
  | .lss => some (.bool (x < y))
  | .leq => some (.bool (x ≤ y))
  | .gtr => some (.bool (x > y))
  | .geq => some (.bool (x ≥ y))
  | _ => none
def vint (op : BinOp) (k : IntKind) (x y : Int) : Option V :=
  match op with
  | .add => some (.int k (k.wrap (x + y)))
  | .sub => some (.int k (k.wrap (x - y)))
  | .mul => some (.int k (k.wrap (x * y)))
  | .quo => if y = 0 then none else some (.int k (k.wrap (x.tdiv y)))
  | .rem => if y = 0 then none else some (.int k (x.tmod y))
  | .and => some (.int k (k.wrap (BitVec.ofInt k.bits x &&& BitVec.ofInt k.bits y).toNat))
  | .or => some (.int k (k.wrap (BitVec.ofInt k.bits x ||| BitVec.ofInt k.bits y).toNat))
  | .xor => some (.int k (k.wrap (BitVec.ofInt k.bits x ^^^ BitVec.ofInt k.bits y).toNat))
  | .andNot => some (.int k (k.wrap (BitVec.ofInt k.bits x &&& ~~~BitVec.ofInt k.bits y).toNat))
  | op => vcmp op x y
def vshift (op : BinOp) (k : IntKind) (x y : Int) : Option V :=
  if y < 0 then none else
  match op with
  | .shl => some (.int k (k.wrap (x * 2 ^ min y.toNat k.bits)))
  | .shr => some (.int k (x.fdiv (2 ^ min y.toNat k.bits)))
  | _ => none
def vstr (op : BinOp) (x y : ByteArray) : Option V :=
  match op with
  | .add => if ((x.size + y.size : Nat) : Int) > IntKind.i64.max then none else some (.str (x ++ y))
  | .eql => some (.bool (x.toList == y.toList))
  | .neq => some (.bool !(x.toList == y.toList))
  | .lss => some (.bool (Op.bytesLess x.toList y.toList))
  | .leq => some (.bool (Op.bytesLess x.toList y.toList || x.toList == y.toList))
  | .gtr => some (.bool !(Op.bytesLess x.toList y.toList || x.toList == y.toList))
  | .geq => some (.bool !(Op.bytesLess x.toList y.toList))
  | _ => none
def isShift : BinOp → Bool
  | .shl | .shr => true
  | _ => false
def vbin (op : BinOp) (cls : Nat) (x y : V) : Option V :=
  match cls, x, y with
  | 0, .int k a, .int k' b => if isShift op then vshift op k a b else if k = k' then vint op k a b else none
  | 1, .str a, .str b => vstr op a b
  | 2, .bool a, .bool b => match op with
    | .eql => some (.bool (a == b))
    | .neq => some (.bool (!(a == b)))
    | _ => none
  | 3, .iface _ _, .nilI => match op with
    | .eql => some (.bool false)
    | .neq => some (.bool true)
    | _ => none
  | 3, .nilI, .nilI => match op with
    | .eql => some (.bool true)
    | .neq => some (.bool false)
    | _ => none
  | _, _, _ => none
/-- the cells j to j + n of an element -/
def vsub (j n : Nat) (ag : Bool) (x : V) : Option (List V) :=
  match x with
  | .agg ys => if j + n ≤ ys.length then some ((ys.drop j).take n) else none
  | .undef => none
  | x => if j = 0 ∧ n = 1 ∧ ag = false then some [x] else none
def vput (j n : Nat) (x : V) (zs : List V) : Option V :=
  match x, zs with
  | .agg ys, zs => if j + n ≤ ys.length ∧ zs.length = n then some (.agg (ys.take j ++ zs ++ ys.drop (j + n))) else none
  | _, [z] => if j = 0 ∧ n = 1 then some z else none
  | _, _ => none
def numOf : V → Option Int
  | .int .u8 n => some n
  | _ => none
/-- no rows in it -/
def scalarV : V → Bool
  | .list _ _ | .agg _ | .iface _ _ => false
  | _ => true
def scalarE : V → Bool
  | .agg zs => zs.all scalarV
  | x => scalarV x
def maskOk : List Bool → List V → Bool
  | true :: m, z :: zs => scalarV z && maskOk m zs
  | false :: m, _ :: zs => maskOk m zs
  | _, _ => true
/-- what a call's raw answer brings to a place -/
def outV1 (raw : List (List V)) : Option (Nat × Nat) → Option V
  | none => some .unit
  | some q => pk raw q
def outV (raw : List (List V)) (ps : List (Option (Nat × Nat))) : Option (List V) := ps.mapM (outV1 raw)
def VF.sem (Φ : Funs) : VF → List (List V) → Option (List (List V))
  | .gather pss, args => pss.mapM (pks args)
  | .pick, [[.bool c], xs, ys] => some [if c then xs else ys]
  | .un op, [[x]] => (vun op x).map fun z => [[z]]
  | .bin op cls, [[x], [y]] => (vbin op cls x y).map fun z => [[z]]
  | .conv k, [[.int _ n]] => some [[.int k (k.wrap n)]]
  | .sconv, [[.str s]] => some [[.str s]]
  | .len, [[.list _ xs]] => some [[.int .i64 xs.length]]
  | .lens, [[.str s]] => some [[.int .i64 s.size]]
  | .idx e, [[.list e' xs], [.int _ i]] => if e' = e ∧ 0 ≤ i then (xs[i.toNat]?).map fun x => [[x]] else none
  | .eix e, [[.list e' xs], [.int _ i]] => if e' = e ∧ 0 ≤ i ∧ i < xs.length then some [[.int .i64 i]] else none
  | .ldi j n ag mask, [[x]] => (vsub j n ag x).bind fun zs => if maskOk mask zs then some [zs] else none
  | .ldo j n ag, [[.int _ i], [.list _ xs]] => if 0 ≤ i then (xs[i.toNat]?).bind fun x => (vsub j n ag x).map fun zs => [zs] else none
  | .sto j n ps, [.int _ i] :: [.list e xs] :: args => if 0 ≤ i then (xs[i.toNat]?).bind fun x => (pks args ps).bind fun zs => (vput j n x zs).map fun y => [[.list e (xs.set i.toNat y)]] else none
  | .slc e lo hi, [.list e' xs] :: args =>
    match lo, hi, args with
    | false, false, [] => if e' = e then some [[.list e xs]] else none
    | true, false, [[.int _ l]] => if e' = e ∧ 0 ≤ l ∧ l ≤ xs.length then some [[.list e (xs.drop l.toNat)]] else none
    | false, true, [[.int _ h]] => if e' = e ∧ 0 ≤ h ∧ h ≤ xs.length then some [[.list e (xs.take h.toNat)]] else none
    | true, true, [[.int _ l], [.int _ h]] => if e' = e ∧ 0 ≤ l ∧ l ≤ h ∧ h ≤ xs.length then some [[.list e ((xs.take h.toNat).drop l.toNat)]] else none
    | _, _, _ => none
  | .sls lo hi, [.str s] :: args =>
    match lo, hi, args with
    | false, false, [] => some [[.str (s.extract 0 s.size)]]
    | true, false, [[.int _ l]] => if 0 ≤ l ∧ l ≤ s.size then some [[.str (s.extract l.toNat s.size)]] else none
    | false, true, [[.int _ h]] => if 0 ≤ h ∧ h ≤ s.size then some [[.str (s.extract 0 h.toNat)]] else none
    | true, true, [[.int _ l], [.int _ h]] => if 0 ≤ l ∧ l ≤ h ∧ h ≤ s.size then some [[.str (s.extract l.toNat h.toNat)]] else none
    | _, _, _ => none
  | .ixs, [[.str s], [.int _ i]] => if 0 ≤ i then (s.data.toList[i.toNat]?).map fun b => [[.int .u8 b.toNat]] else none
  | .mk e els, args => (els.mapM fun p => (pks args p.2).bind fun zs => if p.1 then some (V.agg zs) else match zs with | [z] => some z | _ => none).map fun xs => [[.list e xs]]
  | .app e bs sc, [[.list e1 xs], [.list e2 ys]] => if ((e1 = e ∧ e2 = e) ∧ (sc = true → ys.all scalarE = true)) ∧ (xs.length + ys.length) * bs ≤ 140737488355328 then some [[.list e (xs ++ ys)]] else none
  | .aps e bs, [[.list e1 xs], [.str s]] => if e1 = e ∧ (xs.length + s.size) * bs ≤ 140737488355328 then some [[.list e (xs ++ s.data.toList.map fun b => .int .u8 b.toNat)]] else none
  | .rep e z bs, [[.int _ n], [.int _ c]] => if 0 ≤ n ∧ n ≤ c ∧ c * bs ≤ 140737488355328 then some [[.list e (List.replicate n.toNat z)]] else none
  | .str e, [[.list _ xs]] => (xs.mapM numOf).map fun ns => [[.str (strOfNums ns)]]
  | .byt e, [[.str s]] => if s.size ≤ 140737488355328 then some [[.list e (s.data.toList.map fun b => .int .u8 b.toNat)]] else none
  | .ifc t, [[x]] => some [[.iface t x]]
  | .mn, [[.int k x], [.int _ y]] => some [[.int k (if y < x then y else x)]]
  | .mx, [[.int k x], [.int _ y]] => some [[.int k (if x < y then y else x)]]
  | .notv, [[.bool b]] => some [[.bool !b]]
  | .call k w ins outs, args => (ins.mapM (pks args)).bind fun xss => (Φ k w xss).bind fun raw => outs.mapM (outV raw)
  | _, _ => none
def unitAt (ν : Env) (p : Nat × Nat) : Bool := match (ν p.1)[p.2]? with | some .unit => true | _ => false
def trueAt (ν : Env) (p : Nat × Nat) : Bool := match (ν p.1)[p.2]? with | some (.bool true) => true | _ => false
def defAt (ν : Env) (p : Nat × Nat) : Bool := match (ν p.1)[p.2]? with | some .undef => false | none => false | _ => true
def VI.run (Φ : Funs) (i : VI) (ν : Env) : Option Env :=
  if (i.chk.all (unitAt ν) ∧ i.asr.all (trueAt ν)) ∧ i.dfn.all (defAt ν) then
    (i.f.sem Φ (i.rd.map (VArg.get ν))).bind fun outs => if outs.length = i.wr.length then some (ν.upds i.wr outs) else none
  else none
def runIs (Φ : Funs) : List VI → Env → Option Env
  | [], ν => some ν
  | i :: r, ν => (i.run Φ ν).bind (runIs Φ r)

/-! ### an operation's instructions, behind its guard -/
structure VG where
  gd : Option (Nat × Bool) := none
  d : Option Nat := none
  is : List VI
  ud : Bool := false
def Env.undef (ν : Env) : Option Nat → Env
  | some d => ν.upd (sC d) [.undef]
  | none => ν
def Env.defd (ν : Env) : Option Nat → Bool
  | some d => match ν (sC d) with | [.undef] => false | _ => true
  | none => true
def VG.run (Φ : Funs) (g : VG) (ν : Env) : Option Env := match g.gd with
  | none => runIs Φ g.is ν
  | some (c, want) => match ν c with
    | [.bool b] => if b = want then (runIs Φ g.is ν).bind fun ν' => if ν'.defd g.d = true then some ν' else none else some (ν.undef g.d)
    | [.undef] => if g.ud then some (ν.undef g.d) else none
    | _ => none
def runGs (Φ : Funs) : List VG → Env → Option Env
  | [], ν => some ν
  | g :: r, ν => (g.run Φ ν).bind (runGs Φ r)

/-! ### code on values -/
inductive VC where
  | ins (is : List VG)
  | seq (a b : VC)
  | cond (c : Nat) (J : List Nat) (x y : VC)
  | block (id : Nat) (J : List Nat) (b : VC)
  | loop (b : VC)
  | exit (id : Nat)
  | ret (i : VI)
  | ren (t u : Nat)
  | stuck
inductive Out where
  | norm (ν : Env)
  | exit (id : Nat) (ν : Env)
  | ret (rs : List (List V))
/-- rows t and u change their names -/
def Env.sw (t u : Nat) (ν : Env) : Env := fun c => if c = tC t then ν (tC u) else if c = tC u then ν (tC t) else ν c
def loopN (f : Env → Option Out) : Nat → Env → Option Out
  | 0, _ => none
  | n + 1, ν => (f ν).bind fun
    | .norm ν' => loopN f n ν'
    | o => some o
def VC.run (Φ : Funs) (n : Nat) : VC → Env → Option Out
  | .ins is, ν => (runGs Φ is ν).map .norm
  | .seq a b, ν => (a.run Φ n ν).bind fun
    | .norm ν' => b.run Φ n ν'
    | o => some o
  | .cond c _ x y, ν => match ν c with
    | [.bool b] => if b then x.run Φ n ν else y.run Φ n ν
    | _ => none
  | .block id _ b, ν => (b.run Φ n ν).map fun
    | .exit j ν' => if j = id then .norm ν' else .exit j ν'
    | o => o
  | .loop b, ν => loopN (b.run Φ n) n ν
  | .exit id, ν => some (.exit id ν)
  | .stuck, _ => none
  | .ren t u, ν => some (.norm (ν.sw t u))
  | .ret i, ν => if i.chk.all (unitAt ν) ∧ i.asr.all (trueAt ν) then (i.f.sem Φ (i.rd.map (VArg.get ν))).map .ret else none

/-! ### reading what is known: each look is written down -/
inductive RM (β : Type) where
  | ok (b : β)
  | no
  | sl (s : Nat) (k : Sh → RM β)
  | bx (u : Nat) (k : Option Bx → RM β)
def RM.bind {β γ : Type} : RM β → (β → RM γ) → RM γ
  | .ok b, f => f b
  | .no, _ => .no
  | .sl s k, f => .sl s fun h => (k h).bind f
  | .bx u k, f => .bx u fun b => (k b).bind f
instance : Monad RM where
  pure := .ok
  bind := RM.bind
/-- the first one, or where that falls the second one -/
def RM.orElse {β : Type} : RM β → RM β → RM β
  | .ok b, _ => .ok b
  | .no, m => m
  | .sl s k, m => .sl s fun h => (k h).orElse m
  | .bx u k, m => .bx u fun b => (k b).orElse m
def RM.run {β : Type} (α : Al) : RM β → Option (β × List Nat)
  | .ok b => some (b, [])
  | .no => none
  | .sl s k => ((k (α.slot s)).run α).map fun r => (r.1, sC s :: r.2)
  | .bx u k => ((k (α.box u)).run α).map fun r => (r.1, bC u :: r.2)
def RM.opt {β : Type} : Option β → RM β
  | some b => .ok b
  | none => .no
def RM.need (b : Bool) : RM Unit := if b then .ok () else .no
end Go.Proofs.YtogfkdpgkloljaaDoorVs
