/-
  A function as a whole: what comes in, what goes out, the translation of its body. No condition.
-/
import Derived.Test.YtogfkdpgkloljaaDoorVtE
set_option linter.unusedVariables false
set_option linter.unusedSimpArgs false
namespace Go.Proofs.YtogfkdpgkloljaaDoorVs
/-! ### what comes in -/
def pinB : Nat := 100000
def inAt (base : Nat) : Nat → List PM → List At
  | _, [] => []
  | j, .own :: r => .own (base + j) :: inAt base (j + 1) r
  | j, .fz :: r => .v .fz :: inAt base (j + 1) r
  | j, .lent :: r => .v .lent :: inAt base (j + 1) r
def inSh (s : Nat) : PSh → Sh
  | .one m => match inAt (tokS s 0) 0 [m] with
    | [a] => .one a
    | _ => .one .dead
  | .agg ms => .agg (inAt (tokS s 0) 0 ms)
  | .ptr _ _ => .one (.ptr (pinB + s) 0)
  | .nilp => .one .nilp
def inSl : Nat → List PSh → List Sh
  | _, [] => []
  | s, p :: r => inSh s p :: inSl (s + 1) r
def inBx : Nat → List PSh → List (Nat × Bx)
  | _, [] => []
  | s, .ptr ro ms :: r => (pinB + s, ⟨ro, inAt (tokB (pinB + s) 0) 0 ms⟩) :: inBx (s + 1) r
  | s, _ :: r => inBx (s + 1) r
def inAl (n : Nat) (ps : List PSh) : Al := ⟨inSl 0 ps ++ List.replicate (n - ps.length) (.one .dead), inBx 0 ps⟩
/-- the values that come in: those of own rows stand at the rows' places -/
def inV (m : PM) (x : V) : V := match m with
  | .own => .unit
  | _ => x
def slV (xs : List V) : PSh → List V
  | .one m => List.zipWith inV [m] xs
  | .agg ms => List.zipWith inV ms xs
  | .ptr _ _ => [.unit]
  | .nilp => [.unit]
def bxV (xs : List V) : PSh → List V
  | .ptr _ ms => List.zipWith inV ms xs
  | _ => []
def tkV (box : Bool) (j : Nat) (xs : List V) : PSh → List V
  | .ptr _ _ => if box then (xs[j]?).toList else []
  | .nilp => []
  | _ => if box then [] else (xs[j]?).toList
def at2 {β : Type} (f : List V → PSh → List β) (ps : List PSh) (xss : List (List V)) (s : Nat) : List β := match ps[s]?, xss[s]? with
  | some p, some xs => f xs p
  | _, _ => []
def env0 (ps : List PSh) (xss : List (List V)) : Env := fun c =>
  if c % 3 = 0 then at2 slV ps xss (c / 3)
  else if c % 3 = 1 then if c / 3 < pinB then [] else at2 bxV ps xss (c / 3 - pinB)
  else if (c / 3 / 64) % 2 = 0 then at2 (tkV false (c / 3 % 64)) ps xss (c / 3 / 64 / 2)
  else if c / 3 / 64 / 2 < pinB then [] else at2 (tkV true (c / 3 % 64)) ps xss (c / 3 / 64 / 2 - pinB)

/-! ### what goes out -/
/-- how a result is handed out: as an argument of another call would be -/
def outP (s : RSh) (h : Sh) : PSh := match s, h with
  | .one m, _ => .one m
  | .agg ms, _ => .agg ms
  | .obx _, .one .nilp => .nilp
  | .obx ms, _ => .ptr false ms
def outW (s : RSh) (p : PSh) (ps : List Pc) : List Pc := match s, p with
  | .obx ms, .nilp => (.lit [.bool false], 0) :: List.replicate ms.length pcU
  | .obx _, _ => (.lit [.bool true], 0) :: ps
  | _, _ => ps
def noLent (l : List PM) : Bool := l.all (· != .lent)
def RSh.plain : RSh → Bool
  | .one m => noLent [m]
  | .agg ms => noLent ms
  | .obx ms => noLent ms
/-- a result's place -/
def outSeg (P : Program) : ResultVar → RM (Seg × List (Nat × Nat))
  | .tmp t => .sl t fun h => .ok (⟨h, .c (sC t)⟩, [])
  | .cell a t => .sl a fun h => match h with
    | .one (.ptr u 0) => .bx u fun b => do
      let b ← RM.opt b
      let n ← RM.opt (szOf P t)
      let ag ← RM.opt (agT P t)
      RM.need (n == b.as.length)
      let h ← RM.opt (mkSh ag b.as)
      .ok (⟨h, .c (bC u)⟩, [(sC a, 0)])
    | _ => .no
def outSegs (P : Program) : List RSh → List ResultVar → RM (List (PSh × Seg) × List (Nat × Nat))
  | [], [] => .ok ([], [])
  | s :: r, v :: vs => do
    let q ← outSeg P v
    let l ← outSegs P r vs
    .ok ((outP s q.1.sh, q.1) :: l.1, q.2 ++ l.2)
  | _, _ => .no
def backSegs : Nat → List PSh → RM (List (PSh × Seg))
  | _, [] => .ok []
  | s, .ptr false ms :: r => .sl s fun h => do
    let l ← backSegs (s + 1) r
    .ok ((.ptr false (ms.map bkM), ⟨h, .c (sC s)⟩) :: l)
  | s, _ :: r => backSegs (s + 1) r
def passSegs : List (PSh × Seg) → RM (List Arg)
  | [] => .ok []
  | p :: r => do
    let a ← passArg p.1 p.2.sh p.2.arg
    let l ← passSegs r
    .ok (a :: l)
def outWs : List RSh → List (PSh × Seg) → List Arg → List (List Pc)
  | s :: ss, p :: ps, a :: as => outW s p.1 a.ps :: outWs ss ps as
  | [], _, as => as.map (·.ps)
  | _, _, _ => []
def compRet (P : Program) (g : Sig) (rs : List ResultVar) : RM VI := do
  RM.need (g.rs.all RSh.plain)
  let q ← outSegs P g.rs rs
  let bs ← backSegs 0 g.ps
  let as ← passSegs (q.1 ++ bs)
  RM.need (nodupB (as.map Arg.keys).flatten)
  RM.need (as.map (·.ln)).flatten.isEmpty
  .ok { f := .gather (numb 0 (outWs g.rs (q.1 ++ bs) as)), rd := (outWs g.rs (q.1 ++ bs) as).flatten.map (·.1), chk := q.2 ++ (as.map (·.chk)).flatten, asr := (as.map (·.asr)).flatten, wr := [] }
/-- slots that must stay -/
def keepS : Nat → List PSh → List Nat
  | _, [] => []
  | s, .ptr false _ :: r => s :: keepS (s + 1) r
  | s, _ :: r => keepS (s + 1) r
def cxOf (P : Program) (sg : Sigs) (hs : Nat → Nat → Nat) (fn : Func) (g : Sig) : Cx := ⟨P, sg, (fn.ntmps, keepS 0 g.ps), hs, fun α => ((compRet P g fn.results.toList).run α).map (·.1)⟩
def PSh.ms : PSh → List PM
  | .one m => [m]
  | .agg ms => ms
  | .ptr _ ms => ms
  | .nilp => []
def ms64 : Nat → List PM → Bool
  | _, [] => true
  | j, m :: r => (m != .own || decide (j < 64)) && ms64 (j + 1) r
def compF (P : Program) (sg : Sigs) (hs : Nat → Nat → Nat) (fn : Func) (g : Sig) : Option VC :=
  if decide (g.ps.length ≤ fn.ntmps) && g.ps.all (fun p => ms64 0 p.ms) then
    match fn.body with
    | some c => (comp (cxOf P sg hs fn g) c (inAl fn.ntmps g.ps)).bind fun r => match r.nm with
      | none => if r.ex.isEmpty then some r.code else none
      | some α => ((compRet P g fn.results.toList).run α).bind fun i => if r.ex.isEmpty then some (.seq r.code (.ret i.1)) else none
    | none => none
  else none
end Go.Proofs.YtogfkdpgkloljaaDoorVs
