/-
  Code as a whole: what is known where ways meet, and the translation. No condition.
-/
import Derived.Test.YtogfkdpgkloljaaDoorVtD
set_option linter.unusedVariables false
set_option linter.unusedSimpArgs false
namespace Go.Proofs.YtogfkdpgkloljaaDoorVs
/-! ### where ways meet -/
def meetSrc (s s' : Src) : Option Src := if leSrc s s' then some s' else if leSrc s' s then some s else none
def meetA (a b : At) : At := match a, b with
  | .v s, .v s' => match meetSrc s s' with
    | some r => .v r
    | none => .dead
  | .iel s j, .iel s' j' => if j = j' then match meetSrc s s' with
    | some r => .iel r j
    | none => .dead
    else .dead
  | a, b => if a = b then a else .dead
def meetAs : List At → List At → List At
  | a :: as, b :: bs => meetA a b :: meetAs as bs
  | _, _ => []
def meetPs : List (Bool × List At) → List (Bool × List At) → Option (List (Bool × List At))
  | [], [] => some []
  | p :: ps, q :: qs => if p.1 = q.1 ∧ p.2.length = q.2.length then (meetPs ps qs).map ((p.1, meetAs p.2 q.2) :: ·) else none
  | _, _ => none
def meetSh (a b : Sh) : Sh := match a, b with
  | .one x, .one y => .one (meetA x y)
  | .agg xs, .agg ys => if xs.length = ys.length then .agg (meetAs xs ys) else .one .dead
  | .tup ps, .tup qs => match meetPs ps qs with
    | some r => .tup r
    | none => .one .dead
  | _, _ => .one .dead
def meetSl : List Sh → List Sh → List Sh
  | a :: as, b :: bs => meetSh a b :: meetSl as bs
  | _, _ => []
def meetAl (α β : Al) : Al := ⟨meetSl α.sl β.sl, α.bx.filterMap fun p => match β.box p.1 with
  | some y => if p.2.ro = y.ro ∧ p.2.as.length = y.as.length then some (p.1, ⟨p.2.ro, meetAs p.2.as y.as⟩) else none
  | none => none⟩
def meetO : Option Al → Option Al → Option Al
  | none, b => b
  | a, none => a
  | some a, some b => some (meetAl a b)
def leO (a b : Option Al) : Bool := match a, b with
  | none, _ => true
  | some a, some b => leAl a b
  | some _, none => false

/-! ### rows change their names -/
def swN (t u x : Nat) : Nat := if x = t then u else if x = u then t else x
def Src.sw (t u : Nat) : Src → Src
  | .of x => .of (swN t u x)
  | s => s
def At.sw (t u : Nat) : At → At
  | .v s => .v (s.sw t u)
  | .own x => .own (swN t u x)
  | .elt x j => .elt (swN t u x) j
  | .iel s j => .iel (s.sw t u) j
  | a => a
def Al.sw (t u : Nat) (α : Al) : Al := α.map (At.sw t u)
/-- own rows of a variable bear the variable's name -/
def canonAs (f : Nat → Nat) : Nat → List At → Option (Nat × Nat)
  | _, [] => none
  | j, .own t :: r => if t = f j then canonAs f (j + 1) r else some (t, f j)
  | j, _ :: r => canonAs f (j + 1) r
def canonS (α : Al) : List Nat → Option (Nat × Nat)
  | [] => none
  | s :: r => match α.slot s with
    | .one a => (canonAs (tokS s) 0 [a]).or (canonS α r)
    | .agg as => (canonAs (tokS s) 0 as).or (canonS α r)
    | _ => canonS α r
def canonB : List (Nat × Bx) → Option (Nat × Nat)
  | [] => none
  | p :: r => if p.2.ro then canonB r else (canonAs (tokB p.1) 0 p.2.as).or (canonB r)
def canonSs : Nat → List Nat → Al → List (Nat × Nat) × Al
  | 0, _, α => ([], α)
  | n + 1, ss, α => match canonS α ss with
    | none => ([], α)
    | some p => let q := canonSs n ss (α.sw p.1 p.2); (p :: q.1, q.2)
def canonBs : Nat → Al → List (Nat × Nat) × Al
  | 0, α => ([], α)
  | n + 1, α => match canonB α.bx with
    | none => ([], α)
    | some p => let q := canonBs n (α.sw p.1 p.2); (p :: q.1, q.2)
def assigned : List Oper → List Nat
  | [] => []
  | o :: r => match o.op, o.dst with
    | .assign _, some d => d :: assigned r
    | _, _ => assigned r
def canon (ops : List Oper) (α : Al) : List (Nat × Nat) × Al :=
  let p := canonSs 16 (assigned ops) α
  let q := canonBs 16 p.2
  (p.1 ++ q.1, q.2)
def rens (c : VC) : List (Nat × Nat) → VC
  | [] => c
  | p :: r => rens (.seq c (.ren p.1 p.2)) r

/-! ### the translation -/
structure CR where
  code : VC
  nm : Option Al
  ex : List (Nat × Al)
/-- the places of what is known (a hint for the telling of a code) -/
def aliveAs : List At → List Nat
  | [] => []
  | .own t :: r => tC t :: aliveAs r
  | _ :: r => aliveAs r
def aliveSl : Nat → List Sh → List Nat
  | _, [] => []
  | s, .one .dead :: r => aliveSl (s + 1) r
  | s, .one (.gone _) :: r => aliveSl (s + 1) r
  | s, h :: r => sC s :: (aliveAs h.atoms ++ aliveSl (s + 1) r)
def aliveBx : List (Nat × Bx) → List Nat
  | [] => []
  | p :: r => bC p.1 :: (aliveAs p.2.as ++ aliveBx r)
def dedup : List Nat → List Nat
  | [] => []
  | x :: r => let l := dedup r; if l.contains x then l else x :: l
def aliveO : Option Al → List Nat
  | none => []
  | some α => aliveSl 0 α.sl ++ aliveBx α.bx
/-- a way that is not told: nobody may come there -/
def orStuck : Option CR → CR
  | some r => r
  | none => ⟨.stuck, none, []⟩
def exitsTo (id : Nat) : List (Nat × Al) → Option Al
  | [] => none
  | p :: r => if p.1 = id then meetO (some p.2) (exitsTo id r) else exitsTo id r
def exLe (id : Nat) (t : Option Al) (l : List (Nat × Al)) : Bool := l.all fun p => p.1 != id || leO (some p.2) t
def fixL (body : Al → Option CR) : Nat → Al → Option (CR × Al)
  | 0, _ => none
  | n + 1, β => (body β).bind fun r => match r.nm with
    | none => some (r, β)
    | some α => if leAl α β then some (r, β) else fixL body n (meetAl β α)
structure Cx where
  P : Program
  sg : Sigs
  N : Nat × List Nat
  hs : Nat → Nat → Nat
  rt : Al → Option VI
def compR (X : Cx) (id : Nat) (ops : Array Oper) (dr : Bool) (α : Al) : Option CR :=
  (regT X.P X.sg X.N (X.hs id) ops 0 ops.toList α []).bind fun p =>
    if dr then
      if anyR ops p.1 p.2 ops.size (Array.replicate ops.size false) (List.range ops.size) α [] && Region.noSelect ops then
        let q := canon ops.toList p.2
        some ⟨rens (.ins (p.1.map (·.vg))) q.1, some q.2, []⟩
      else none
    else
      let q := canon ops.toList p.2
      some ⟨rens (.ins (p.1.map (·.vg))) q.1, some q.2, []⟩
def comp (X : Cx) : Code → Al → Option CR
  | .skip, α => some ⟨.ins [], some α, []⟩
  | .label _, α => some ⟨.ins [], some α, []⟩
  | .region id ops dr, α => compR X id ops dr α
  | .seq x y, α => (comp X x α).bind fun r => match r.nm with
    | none => some r
    | some β => let s := orStuck (comp X y β); some ⟨.seq r.code s.code, s.nm, r.ex ++ s.ex⟩
  | .cond c x y, α => match c with
    | .tmp t => match α.slot t with
      | .one (.v _) =>
          let r := orStuck (comp X x α)
          let s := orStuck (comp X y α)
          let m := meetO r.nm s.nm
          if leO r.nm m && leO s.nm m then some ⟨.cond (sC t) (aliveO m) r.code s.code, m, r.ex ++ s.ex⟩ else none
      | _ => none
    | .const (.bool b) => if b then comp X x α else comp X y α
    | _ => none
  | .block id b, α => (comp X b α).bind fun r =>
      let m := meetO r.nm (exitsTo id r.ex)
      if leO r.nm m && exLe id m r.ex then some ⟨.block id (aliveO m) r.code, m, r.ex.filter (·.1 != id)⟩ else none
  | .loop b, α => (fixL (comp X b) 5 α).bind fun q => if leAl α q.2 then some ⟨.loop q.1.code, none, q.1.ex⟩ else none
  | .exit id, α => some ⟨.exit id, none, [(id, α)]⟩
  | .ret, α => (X.rt α).map fun i => ⟨.ret i, none, []⟩
  | _, _ => none
end Go.Proofs.YtogfkdpgkloljaaDoorVs
