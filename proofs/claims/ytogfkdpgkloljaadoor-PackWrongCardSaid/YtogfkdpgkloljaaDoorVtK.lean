/-
  A code on values, told as a function: definitions. No condition.
-/
import Derived.Test.YtogfkdpgkloljaaDoorVtJ
set_option linter.unusedVariables false
set_option linter.unusedSimpArgs false
namespace Go.Proofs.YtogfkdpgkloljaaDoorVs
inductive SA where
  | x (i : Nat)
  | k (v : V)
/-- a function's text: values stand in a list, the newest one first -/
inductive Tm where
  | op1 (f : VF) (args : List (List SA)) (k : Tm)
  | opn (f : VF) (args : List (List SA)) (n : Nat) (k : Tm)
  | call (f w : Nat) (ins : List (List SA)) (ps : List (Nat × Nat)) (k : Tm)
  | chk (kd : Nat) (a : SA) (k : Tm)
  | ite (c : SA) (a b : Tm)
  | gd (c : SA) (want ud : Bool) (a b : Tm)
  | norm (lens : List Nat) (as : List SA)
  | exit (id : Nat) (lens : List Nat) (as : List SA)
  | ret (rs : List (List SA))
  | blk (id : Option Nat) (b : Tm) (lens : List Nat) (k : Tm)
  | lp (lens : List Nat) (init : List SA) (b : Tm)
  | fail

/-! ### what a text answers -/
inductive TO where
  | norm (lens : List Nat) (vs : List V)
  | exit (id : Nat) (lens : List Nat) (vs : List V)
  | ret (rs : List (List V))
abbrev TR := Option TO
def Cur : Nat → Type → Type
  | 0, β => β
  | n + 1, β => V → Cur n β
def cur {β : Type} : (n : Nat) → (List V → β) → Cur n β
  | 0, f => f []
  | n + 1, f => fun x => cur n fun l => f (x :: l)
def app : (n : Nat) → Cur n TR → List V → TR
  | 0, k, [] => k
  | n + 1, k, x :: r => app n (k x) r
  | _, _, _ => none
def k1 (k : V → TR) : List (List V) → TR
  | [[z]] => k z
  | _ => none
def kn (n : Nat) (k : Cur n TR) : List (List V) → TR
  | [zs] => app n k zs
  | _ => none
def op1V (Φ : Funs) (f : VF) (args : List (List V)) (k : V → TR) : TR := (f.sem Φ args).bind (k1 k)
def opnV (Φ : Funs) (f : VF) (args : List (List V)) (n : Nat) (k : Cur n TR) : TR := (f.sem Φ args).bind (kn n k)
def callV (Φ : Funs) (f w : Nat) (ins : List (List V)) (n : Nat) (ps : List (Nat × Nat)) (k : Cur n TR) : TR := (Φ f w ins).bind fun raw => (pks raw ps).bind (app n k)
def chkV (kd : Nat) (a : V) (k : TR) : TR := match kd, a with
  | 0, .unit => k
  | 1, .bool true => k
  | 2, .undef => none
  | 2, _ => k
  | _, _ => none
def iteV (c : V) (a b : TR) : TR := match c with
  | .bool true => a
  | .bool false => b
  | _ => none
def gdV (c : V) (want ud : Bool) (a b : TR) : TR := match c with
  | .bool x => if x = want then a else b
  | .undef => if ud then b else none
  | _ => none
def blkV (id : Option Nat) (lens : List Nat) (r : TR) (k : List V → TR) : TR := r.bind fun o => match o with
  | .norm l vs => if l = lens then k vs else none
  | .exit j l vs => if id = some j then (if l = lens then k vs else none) else some (.exit j l vs)
  | .ret rs => some (.ret rs)
def lpV (lens : List Nat) (f : List V → TR) : Nat → List V → TR
  | 0, _ => none
  | n + 1, vs => (f vs).bind fun o => match o with
    | .norm l vs' => if l = lens then lpV lens f n vs' else none
    | o => some o
def SA.get (vs : List V) : SA → V
  | .x i => vs.getD i .undef
  | .k v => v
def gets (vs : List V) (as : List SA) : List V := as.map (SA.get vs)
def total (l : List Nat) : Nat := l.foldr (· + ·) 0
def Tm.eval (Φ : Funs) (n : Nat) : Tm → List V → TR
  | .op1 f args k, vs => op1V Φ f (args.map (gets vs)) fun z => k.eval Φ n (z :: vs)
  | .opn f args m k, vs => opnV Φ f (args.map (gets vs)) m (cur m fun zs => k.eval Φ n (zs.reverse ++ vs))
  | .call f w ins ps k, vs => callV Φ f w (ins.map (gets vs)) ps.length ps (cur ps.length fun zs => k.eval Φ n (zs.reverse ++ vs))
  | .chk kd a k, vs => chkV kd (a.get vs) (k.eval Φ n vs)
  | .ite c a b, vs => iteV (c.get vs) (a.eval Φ n vs) (b.eval Φ n vs)
  | .gd c want ud a b, vs => gdV (c.get vs) want ud (a.eval Φ n vs) (b.eval Φ n vs)
  | .norm lens as, vs => some (.norm lens (gets vs as))
  | .exit id lens as, vs => some (.exit id lens (gets vs as))
  | .ret rs, vs => some (.ret (rs.map (gets vs)))
  | .blk id b lens k, vs => blkV id lens (b.eval Φ n vs) (app (total lens) (cur (total lens) fun zs => k.eval Φ n (zs.reverse ++ vs)))
  | .lp lens init b, vs => lpV lens (app (total lens) (cur (total lens) fun zs => b.eval Φ n (zs.reverse ++ vs))) n (gets vs init)
  | .fail, _ => none

/-! ### the telling -/
structure St where
  σ : List (Nat × List SA)
  d : Nat
  df : List Nat
def lkS : List (Nat × List SA) → Nat → Option (List SA)
  | [], _ => none
  | (p, as) :: r, q => if p = q then some as else lkS r q
def stS : List (Nat × List SA) → Nat → List SA → List (Nat × List SA)
  | [], q, bs => [(q, bs)]
  | (p, as) :: r, q, bs => if p = q then (q, bs) :: r else (p, as) :: stS r q bs
def stSs : List (Nat × List SA) → List Nat → List (List SA) → List (Nat × List SA)
  | σ, q :: qs, bs :: bss => stSs (stS σ q bs) qs bss
  | σ, _, _ => σ
def SA.at (d : Nat) : SA → SA
  | .x i => .x (d - 1 - i)
  | .k v => .k v
inductive Em where
  | op1 (f : VF) (args : List (List SA))
  | opn (f : VF) (args : List (List SA)) (n : Nat)
  | call (f w : Nat) (ins : List (List SA)) (ps : List (Nat × Nat))
  | chk (kd : Nat) (a : SA)
def ats (d : Nat) (as : List SA) : List SA := as.map (SA.at d)
def emT : List Em → Nat → Tm → Tm
  | [], _, t => t
  | .op1 f args :: r, d, t => .op1 f (args.map (ats d)) (emT r (d + 1) t)
  | .opn f args n :: r, d, t => .opn f (args.map (ats d)) n (emT r (d + n) t)
  | .call f w ins ps :: r, d, t => .call f w (ins.map (ats d)) ps (emT r (d + ps.length) t)
  | .chk kd a :: r, d, t => .chk kd (a.at d) (emT r d t)
def fresh (d n : Nat) : List SA := (List.range n).map fun j => .x (d + j)
def isUnitA : SA → Bool
  | .k .unit => true
  | _ => false
def isTrueA : SA → Bool
  | .k (.bool true) => true
  | _ => false
def isDefA (df : List Nat) : SA → Bool
  | .k .undef => false
  | .k _ => true
  | .x i => df.contains i
def cell (σ : List (Nat × List SA)) (p : Nat × Nat) : Option SA := (lkS σ p.1).bind (·[p.2]?)
/-- looks that certain atoms are told, if that is not known -/
def ndE (df : List Nat) : List SA → List Em × List Nat
  | [] => ([], df)
  | a :: r => if isDefA df a then ndE df r else match a with
    | .x i => let q := ndE (i :: df) r; (.chk 2 a :: q.1, q.2)
    | .k _ => let q := ndE df r; (.chk 2 a :: q.1, q.2)
def chkE (kd : Nat) (ok : SA → Bool) : List SA → List Em
  | [] => []
  | a :: r => if ok a then chkE kd ok r else .chk kd a :: chkE kd ok r
def argS (σ : List (Nat × List SA)) : VArg → Option (List SA)
  | .c i => lkS σ i
  | .lit vs => some (vs.map .k)
def pkS (args : List (List SA)) (p : Nat × Nat) : Option SA := (args[p.1]?).bind (·[p.2]?)
def arity : VF → List (List SA) → Option Nat
  | .gather _, _ => none
  | .call .., _ => none
  | .pick, [_, xs, _] => some xs.length
  | .pick, _ => none
  | .ldi _ n _ _, _ => some n
  | .ldo _ n _, _ => some n
  | _, _ => some 1
def neverU : VF → Bool
  | .gather _ | .call .. | .pick | .idx _ | .ldi .. | .ldo .. => false
  | _ => true
/-- what a call's answer brings: places' atoms, from level d on -/
def outAs (d : Nat) : Nat → List (Option (Nat × Nat)) → List SA × Nat
  | j, [] => ([], j)
  | j, none :: r => let q := outAs d j r; (.k .unit :: q.1, q.2)
  | j, some _ :: r => let q := outAs d (j + 1) r; (.x (d + j) :: q.1, q.2)
def outAss (d : Nat) : Nat → List (List (Option (Nat × Nat))) → List (List SA)
  | _, [] => []
  | j, l :: r => let q := outAs d j l; q.1 :: outAss d q.2 r
def syVI (i : VI) (s : St) : Option (List Em × St) :=
  (i.chk.mapM (cell s.σ)).bind fun cu => (i.asr.mapM (cell s.σ)).bind fun ct => (i.dfn.mapM (cell s.σ)).bind fun cd => (i.rd.mapM (argS s.σ)).bind fun args =>
    let e1 := chkE 0 isUnitA cu ++ chkE 1 isTrueA ct
    let q1 := ndE s.df cd
    match i.f with
    | .gather pss => (pss.mapM fun (ps : List (Nat × Nat)) => ps.mapM (pkS args)).bind fun outs =>
        if outs.length = i.wr.length then
          let q2 := ndE q1.2 outs.flatten
          some (e1 ++ (q1.1 ++ q2.1), ⟨stSs s.σ i.wr outs, s.d, q2.2⟩)
        else none
    | .call f w ins outs => (ins.mapM fun (ps : List (Nat × Nat)) => ps.mapM (pkS args)).bind fun xss =>
        if outs.length = i.wr.length then
          let q2 := ndE q1.2 xss.flatten
          let ps := outs.flatten.filterMap id
          some (e1 ++ (q1.1 ++ (q2.1 ++ [.call f w xss ps])), ⟨stSs s.σ i.wr (outAss s.d 0 outs), s.d + ps.length, (List.range ps.length).map (s.d + ·) ++ q2.2⟩)
        else none
    | f => (arity f args).bind fun n => match i.wr with
      | [w] => if n = 1 then some (e1 ++ (q1.1 ++ [.op1 f args]), ⟨stS s.σ w [.x s.d], s.d + 1, if neverU f then s.d :: q1.2 else q1.2⟩)
          else some (e1 ++ (q1.1 ++ [.opn f args n]), ⟨stS s.σ w (fresh s.d n), s.d + n, q1.2⟩)
      | _ => none
def syIs : List VI → St → Option (List Em × St)
  | [], s => some ([], s)
  | i :: r, s => (syVI i s).bind fun q => (syIs r q.2).map fun q' => (q.1 ++ q'.1, q'.2)
def wrIs (is : List VI) : List Nat := (is.map (·.wr)).flatten
def wrG (g : VG) : List Nat := wrIs g.is ++ match g.gd, g.d with
  | some _, some d => [sC d]
  | _, _ => []
def VC.wr : VC → List Nat
  | .ins gs => (gs.map wrG).flatten
  | .seq a b => a.wr ++ b.wr
  | .cond _ _ x y => x.wr ++ y.wr
  | .block _ _ b => b.wr
  | .loop b => b.wr
  | .ren t u => [tC t, tC u]
  | _ => []
/-- behind a join: the places J hold new values -/
def joinS : List (Nat × List SA) → Nat → List Nat → List Nat → List (Nat × List SA)
  | σ, d, p :: ps, l :: ls => joinS (stS σ p (fresh d l)) (d + l) ps ls
  | σ, _, _, _ => σ
def St.join (s : St) (wr J : List Nat) (lens : List Nat) : St := ⟨joinS (s.σ.filter fun p => !wr.contains p.1) s.d J lens, s.d + total lens, s.df⟩
def leaf (s : St) (J : List Nat) : Option (List Nat × List SA) := (J.mapM (lkS s.σ)).map fun ass => (ass.map (·.length), ats s.d ass.flatten)
def undS (σ : List (Nat × List SA)) : Option Nat → List (Nat × List SA)
  | some d => stS σ (sC d) [.k .undef]
  | none => σ
def defE (s : St) : Option Nat → List Em
  | some d => match lkS s.σ (sC d) with
    | some [a] => if isDefA s.df a then [] else [.chk 2 a]
    | _ => []
  | none => []
/-- operations behind the same guard -/
def sameGd (c : Nat) (want ud : Bool) (g : VG) : Bool := g.ud == ud && match g.gd with
  | some (c', w') => c' == c && w' == want
  | none => false
def syGrp : List VG → St → Option (List Em × St)
  | [], s => some ([], s)
  | g :: r, s => (syIs g.is s).bind fun q => match lkS q.2.σ (g.d.elim 0 sC), g.d with
    | none, some _ => none
    | _, _ => (syGrp r q.2).map fun q' => (q.1 ++ (defE q.2 g.d ++ q'.1), q'.2)
def undG : List VG → List (Nat × List SA) → List (Nat × List SA)
  | [], σ => σ
  | g :: r, σ => undG r (undS σ g.d)
def spanG (c : Nat) (want ud : Bool) : List VG → List VG × List VG
  | [] => ([], [])
  | g :: r => if sameGd c want ud g then (if (wrG g).contains c then ([g], r) else let q := spanG c want ud r; (g :: q.1, q.2)) else ([], g :: r)
def nodupN : List Nat → Bool
  | [] => true
  | x :: r => !r.contains x && nodupN r
def rdA : VArg → List Nat
  | .c i => [i]
  | .lit _ => []
def rdI (i : VI) : List Nat := (i.rd.map rdA).flatten ++ (i.chk.map (·.1) ++ (i.asr.map (·.1) ++ i.dfn.map (·.1)))
def rdG (g : VG) : List Nat := (match g.gd with
  | some p => [p.1]
  | none => []) ++ (g.is.map rdI).flatten
def syGs (gl : List Nat) : Nat → List VG → St → (St → Option Tm) → Option Tm
  | _, [], s, K => K s
  | 0, _, _, _ => none
  | n + 1, g :: r, s, K => match g.gd with
    | none => (syIs g.is s).bind fun q => (syGs gl n r q.2 K).map (emT q.1 s.d)
    | some (c, want) =>
      let sp := spanG c want g.ud (g :: r)
      match lkS s.σ c with
      | some [a] => (syGrp sp.1 s).bind fun q =>
          let σf := undG sp.1 s.σ
          let wr := (sp.1.map wrG).flatten
          let nd := (sp.2.map rdG).flatten
          let J := (dedup wr).filter fun p => (gl.contains p || nd.contains p) && (lkS σf p).isSome && (lkS q.2.σ p).isSome
          (leaf q.2 J).bind fun lt => (leaf ⟨σf, s.d, s.df⟩ J).bind fun lf =>
            (syGs gl n sp.2 (s.join wr J lt.1) K).map fun k => .blk none (.gd (a.at s.d) want g.ud (emT q.1 s.d (.norm lt.1 lt.2)) (.norm lf.1 lf.2)) lt.1 k
      | _ => none
def VC.canN : VC → Bool
  | .ins _ => true
  | .seq a b => a.canN && b.canN
  | .cond _ _ x y => x.canN || y.canN
  | .block _ J _ => !J.isEmpty
  | .loop _ => false
  | .exit _ => false
  | .ret _ => false
  | .ren _ _ => true
  | .stuck => false
def VC.goes (id : Nat) : VC → Bool
  | .seq a b => a.goes id || b.goes id
  | .cond _ _ x y => x.goes id || y.goes id
  | .block _ _ b => b.goes id
  | .loop b => b.goes id
  | .exit j => j == id
  | _ => false
/-- of which sizes are the values of a way's end -/
def Tm.lensN : Tm → Option (List Nat)
  | .op1 _ _ k | .opn _ _ _ k | .call _ _ _ _ k | .chk _ _ k | .blk _ _ _ k => k.lensN
  | .ite _ a b | .gd _ _ _ a b => match a.lensN with
    | some l => some l
    | none => b.lensN
  | .norm l _ => some l
  | _ => none
def Tm.lensE (id : Nat) : Tm → Option (List Nat)
  | .op1 _ _ k | .opn _ _ _ k | .call _ _ _ _ k | .chk _ _ k => k.lensE id
  | .blk j b _ k => match (if j = some id then none else b.lensE id) with
    | some l => some l
    | none => k.lensE id
  | .ite _ a b | .gd _ _ _ a b => match a.lensE id with
    | some l => some l
    | none => b.lensE id
  | .lp _ _ b => b.lensE id
  | .exit j l _ => if j = id then some l else none
  | _ => none
def leafN (J : List Nat) (s : St) : Option Tm := (leaf s J).map fun l => .norm l.1 l.2
def syRet (i : VI) (s : St) : Option Tm := match i.f with
  | .gather pss => (i.chk.mapM (cell s.σ)).bind fun cu => (i.asr.mapM (cell s.σ)).bind fun ct => (i.rd.mapM (argS s.σ)).bind fun args => (pss.mapM fun (ps : List (Nat × Nat)) => ps.mapM (pkS args)).map fun outs =>
      emT (chkE 0 isUnitA cu ++ (chkE 1 isTrueA ct ++ (ndE s.df outs.flatten).1)) s.d (.ret (outs.map (ats s.d)))
  | _ => none
def lkJ (ex : List (Nat × List Nat)) (id : Nat) : Option (List Nat) := (ex.find? (·.1 == id)).map (·.2)
def sy (gl : List Nat) : VC → List (Nat × List Nat) → St → (St → Option Tm) → Option Tm
  | .ins gs, ex, s, K => syGs gl gs.length gs s K
  | .seq a b, ex, s, K => sy gl a ex s fun s' => sy gl b ex s' K
  | .ren t u, ex, s, K => match lkS s.σ (tC t), lkS s.σ (tC u) with
    | some a, some b => K { s with σ := stS (stS s.σ (tC u) a) (tC t) b }
    | some a, none => K { s with σ := stS (s.σ.filter fun p => p.1 != tC t) (tC u) a }
    | _, _ => none
  | .cond c J x y, ex, s, K => match lkS s.σ c with
    | some [.k (.bool b)] => if b then sy gl x ex s K else sy gl y ex s K
    | some [a] =>
      if x.canN && y.canN then
        let wr := (VC.cond c J x y).wr
        let J' := dedup (J.filter fun p => wr.contains p && gl.contains p)
        (sy gl x ex s (leafN J')).bind fun tx => (sy gl y ex s (leafN J')).bind fun ty => (Tm.lensN (.ite a tx ty)).bind fun lens =>
          if lens.length = J'.length ∧ nodupN J' = true then (K (s.join wr J' lens)).map fun k => .blk none (.ite (a.at s.d) tx ty) lens k else none
      else (sy gl x ex s K).bind fun tx => (sy gl y ex s K).map fun ty => .ite (a.at s.d) tx ty
    | _ => none
  | .block id J b, ex, s, K =>
    if b.goes id then
      let J' := dedup (J.filter fun p => b.wr.contains p && gl.contains p)
      (sy gl b ((id, J') :: ex) s (leafN J')).bind fun tb => match (match tb.lensE id with | some l => some l | none => tb.lensN) with
        | some lens => if lens.length = J'.length ∧ nodupN J' = true then (K (s.join b.wr J' lens)).map fun k => .blk (some id) tb lens k else none
        | none => none
    else sy gl b ex s K
  | .loop b, ex, s, K =>
    let J := (dedup b.wr).filter fun p => gl.contains p && (lkS s.σ p).isSome
    (leaf s J).bind fun l => (sy gl b ex (s.join b.wr J l.1) (leafN J)).map fun tb => .lp l.1 l.2 tb
  | .exit id, ex, s, K => (lkJ ex id).bind fun J => (leaf s J).map fun l => .exit id l.1 l.2
  | .ret i, ex, s, K => syRet i s
  | .stuck, ex, s, K => some .fail

/-! ### a function -/
def expIs : List Nat → List VI → List Nat
  | _, [] => []
  | w, i :: r => (rdI i).filter (fun p => !w.contains p) ++ expIs (i.wr ++ w) r
def expGs : List Nat → List VG → List Nat
  | _, [] => []
  | w, g :: r => (match g.gd with | some p => if w.contains p.1 then [] else [p.1] | none => []) ++ (expIs w g.is ++ expGs (wrG g ++ w) r)
def VC.exp : VC → List Nat
  | .ins gs => expGs [] gs
  | .seq a b => a.exp ++ b.exp
  | .cond _ _ x y => x.exp ++ y.exp
  | .block _ _ b => b.exp
  | .loop b => b.exp
  | .ren t u => [tC t, tC u]
  | .ret i => rdI i
  | _ => []
/-- the places of a parameter: of which slot, from which level on -/
def inP (s d : Nat) : PSh → List (Nat × List SA)
  | .one m => inPc (sC s) (tokS s 0) d [m]
  | .agg ms => inPc (sC s) (tokS s 0) d ms
  | .ptr _ ms => (sC s, [.k .unit]) :: inPc (bC (pinB + s)) (tokB (pinB + s) 0) d ms
  | .nilp => [(sC s, [.k .unit])]
  where
  inPc (p base d : Nat) (ms : List PM) : List (Nat × List SA) :=
    (p, (ms.zipIdx d).map fun q => if q.1 = .own then .k .unit else .x q.2) :: (ms.zipIdx.filterMap fun q => if q.1 = .own then some (tC (base + q.2), [.x (d + q.2)]) else none)
def inS : Nat → Nat → List PSh → List (Nat × List SA) × Nat
  | _, d, [] => ([], d)
  | s, d, p :: r => let q := inS (s + 1) (d + p.ms.length) r; (inP s d p ++ q.1, q.2)
def tmOf (c : VC) (ps : List PSh) : Option Tm := let q := inS 0 0 ps; sy (dedup c.exp) c [] ⟨q.1, q.2, []⟩ fun _ => none
end Go.Proofs.YtogfkdpgkloljaaDoorVs
