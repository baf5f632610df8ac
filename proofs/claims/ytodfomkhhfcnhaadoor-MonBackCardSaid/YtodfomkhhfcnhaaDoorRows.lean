/-
  NARROWER THAN 'FOR EVERY INPUT', by the rows' own cells (each row's printed sentence says how): MonTells: laid · MonBack: laid · MonRises: laid · MonJoins: laid.
  DERIVED. THE GIVEN ROWS OF THIS SEAT. 4 by the template 'for every input the law returns true; each argument reads behind the call as it read before'; 0 by the template 'total and deterministic' (their statements: YtodfomkhhfcnhaaDoorTotals.lean).
  GIVEN WITH THE SEED: the statements are not yours to turn. If you find one false, say at which input.
  Laid BY PROGRAM, IN A SANDBOX (cutbox-rows.mjs): the forced cells as the released guide's own fill.sh prints them over the translation 2d22ccccebc90c70… (all of the seat's roots in one cut). By AI agents, Wed Nov 11 2026. No macro, syntax, notation, axiom, sorry.
-/
import Derived.Test.YtodfomkhhfcnhaaDoorChecked
import GoSem.Claim
import GoSem.ClaimJoined
import GoSem.ClaimMapViews
import Derived.JoinedTies
import Derived.KernelRfl
namespace Go.Proofs.YtodfomkhhfcnhaaDoor
/- THE CELL 'sum', in the pinned program and in every row, IS THE sha256 OF THE DUMP (.gsa) THAT YtodfomkhhfcnhaaDoorProg.lean LOADS. Nothing in Lean hashes anything: it is a label: what it is worth is what the hold of that sum in a sandbox is worth. -/
noncomputable def Tryd.pinned : Pinned := { name := "ytodfomkhhfcnhaadoor", sum := "2d22ccccebc90c70c4d6a51a2f53cc9b7d961118e811bca41fa80099169decd5", checked := Tryd.checked }
namespace Rows
def none {H : Type} : Left H := { results := [], args := [] }

/- WHAT THE LISTED PACKAGE-LEVEL VARIABLES READ AS WHEN THE CALL BEGINS. Each datum BY PROGRAM (the guide's laid-datum.mjs) off the statement by which the dump's own 'gosem.cut.vars' lays the variable. In a bare row this is a premise. The card (YtodfomkhhfcnhaaDoorCards.lean) ties it to the program's text. -/
def laid_errors_errorType {H : Type} : DataW H := .iface "internal/reflectlite.rtype" (.agg [.ptr (.lit (.string [101, 114, 114, 111, 114]))])

/-- 'colloquylaw20.MonTells': WHATEVER THE INPUT: true; the input reads as it did. -/
def monTellsSpec : ChangeSpec := { name := "monTells", fn := fun _ => fun
  | [d1, d2, d3] => { results := [.lit (.bool true)], args := [d1, d2, d3] }
  | _ => none }
def monTellsRow : OpenClaim := { program := "ytodfomkhhfcnhaadoor", sum := "2d22ccccebc90c70c4d6a51a2f53cc9b7d961118e811bca41fa80099169decd5", func := "colloquy/colloquylaw20.MonTells", spec := "monTells", inPlace := ["internal/reflectlite.ValueOf", "(internal/reflectlite.Value).Type", "(internal/reflectlite.Value).IsNil", "internal/reflectlite.TypeOf", "(internal/reflectlite.Value).Elem", "(internal/reflectlite.Value).Set"], unfollowed := true, recurses := true, named := ["errors.errorType"], apart := false, laid := [("errors.errorType", laid_errors_errorType)] }
def MonTellsSaid : Prop := monTellsRow.holds Tryd.pinned (OpenSpec.ofChange monTellsSpec)

/-- ITS FALSE NEIGHBOUR: 'it returns false'. Refute it at one input. -/
def monTellsWrong : ChangeSpec := { name := "monTells", fn := fun _ => fun
  | [d1, d2, d3] => { results := [.lit (.bool false)], args := [d1, d2, d3] }
  | _ => none }
def MonTellsWrongFalsely : Prop := monTellsRow.holds Tryd.pinned (OpenSpec.ofChange monTellsWrong)

/-- 'colloquylaw20.MonBack': WHATEVER THE INPUT: true; the input reads as it did. -/
def monBackSpec : ChangeSpec := { name := "monBack", fn := fun _ => fun
  | [d1, d2, d3] => { results := [.lit (.bool true)], args := [d1, d2, d3] }
  | _ => none }
def monBackRow : OpenClaim := { program := "ytodfomkhhfcnhaadoor", sum := "2d22ccccebc90c70c4d6a51a2f53cc9b7d961118e811bca41fa80099169decd5", func := "colloquy/colloquylaw20.MonBack", spec := "monBack", inPlace := ["internal/reflectlite.ValueOf", "(internal/reflectlite.Value).Type", "(internal/reflectlite.Value).IsNil", "internal/reflectlite.TypeOf", "(internal/reflectlite.Value).Elem", "(internal/reflectlite.Value).Set"], unfollowed := true, recurses := true, named := ["errors.errorType"], apart := false, laid := [("errors.errorType", laid_errors_errorType)] }
def MonBackSaid : Prop := monBackRow.holds Tryd.pinned (OpenSpec.ofChange monBackSpec)

/-- ITS FALSE NEIGHBOUR: 'it returns false'. Refute it at one input. -/
def monBackWrong : ChangeSpec := { name := "monBack", fn := fun _ => fun
  | [d1, d2, d3] => { results := [.lit (.bool false)], args := [d1, d2, d3] }
  | _ => none }
def MonBackWrongFalsely : Prop := monBackRow.holds Tryd.pinned (OpenSpec.ofChange monBackWrong)

/-- 'colloquylaw20.MonRises': WHATEVER THE INPUT: true; the input reads as it did. -/
def monRisesSpec : ChangeSpec := { name := "monRises", fn := fun _ => fun
  | [d1, d2, d3] => { results := [.lit (.bool true)], args := [d1, d2, d3] }
  | _ => none }
def monRisesRow : OpenClaim := { program := "ytodfomkhhfcnhaadoor", sum := "2d22ccccebc90c70c4d6a51a2f53cc9b7d961118e811bca41fa80099169decd5", func := "colloquy/colloquylaw20.MonRises", spec := "monRises", inPlace := ["internal/reflectlite.ValueOf", "(internal/reflectlite.Value).Type", "(internal/reflectlite.Value).IsNil", "internal/reflectlite.TypeOf", "(internal/reflectlite.Value).Elem", "(internal/reflectlite.Value).Set"], unfollowed := true, recurses := true, named := ["errors.errorType"], apart := false, laid := [("errors.errorType", laid_errors_errorType)] }
def MonRisesSaid : Prop := monRisesRow.holds Tryd.pinned (OpenSpec.ofChange monRisesSpec)

/-- ITS FALSE NEIGHBOUR: 'it returns false'. Refute it at one input. -/
def monRisesWrong : ChangeSpec := { name := "monRises", fn := fun _ => fun
  | [d1, d2, d3] => { results := [.lit (.bool false)], args := [d1, d2, d3] }
  | _ => none }
def MonRisesWrongFalsely : Prop := monRisesRow.holds Tryd.pinned (OpenSpec.ofChange monRisesWrong)

/-- 'colloquylaw20.MonJoins': WHATEVER THE INPUT: true; the input reads as it did. -/
def monJoinsSpec : ChangeSpec := { name := "monJoins", fn := fun _ => fun
  | [d1, d2, d3, d4] => { results := [.lit (.bool true)], args := [d1, d2, d3, d4] }
  | _ => none }
def monJoinsRow : OpenClaim := { program := "ytodfomkhhfcnhaadoor", sum := "2d22ccccebc90c70c4d6a51a2f53cc9b7d961118e811bca41fa80099169decd5", func := "colloquy/colloquylaw20.MonJoins", spec := "monJoins", inPlace := ["internal/reflectlite.ValueOf", "(internal/reflectlite.Value).Type", "(internal/reflectlite.Value).IsNil", "internal/reflectlite.TypeOf", "(internal/reflectlite.Value).Elem", "(internal/reflectlite.Value).Set"], unfollowed := true, recurses := true, named := ["errors.errorType"], apart := false, laid := [("errors.errorType", laid_errors_errorType)] }
def MonJoinsSaid : Prop := monJoinsRow.holds Tryd.pinned (OpenSpec.ofChange monJoinsSpec)

/-- ITS FALSE NEIGHBOUR: 'it returns false'. Refute it at one input. -/
def monJoinsWrong : ChangeSpec := { name := "monJoins", fn := fun _ => fun
  | [d1, d2, d3, d4] => { results := [.lit (.bool false)], args := [d1, d2, d3, d4] }
  | _ => none }
def MonJoinsWrongFalsely : Prop := monJoinsRow.holds Tryd.pinned (OpenSpec.ofChange monJoinsWrong)

/- THE SECOND FORM. 'bulk': how many values and letters a reading holds, each counted each time it is reached (what is shared counts as often as it is met; a slice's spare places count too). A statement '..UptoSaid' is the law's where the arguments, and the package variables that the reading takes, are together of bulk at most 1048576: NARROWER than '..Said'. Prove '..Said' where nothing that the law and all that it calls make is longer than what came in: it says more and counts as full. Else prove '..UptoSaid'. A law counts once. -/
mutual
def uptoBulk {H : Type} : DataW H → Nat
  | .lit (.string bytes) => bytes.length + 1
  | .lit _ => 1
  | .nil => 1
  | .ptr d => uptoBulk d + 1
  | .slice elems spare => uptoBulkAll elems + uptoBulkAll spare + 1
  | .agg parts => uptoBulkAll parts + 1
  | .iface _ d => uptoBulk d + 1
  | .map entries => uptoBulkEntries entries + 1
  | .held _ => 1
def uptoBulkAll {H : Type} : List (DataW H) → Nat
  | [] => 0
  | d :: r => uptoBulk d + uptoBulkAll r
def uptoBulkEntries {H : Type} : List (Lit × DataW H) → Nat
  | [] => 0
  | x :: r => uptoBulkEntry x + uptoBulkEntries r
def uptoBulkEntry {H : Type} : Lit × DataW H → Nat
  | (.string bytes, d) => bytes.length + uptoBulk d + 1
  | (_, d) => uptoBulk d + 1
 end
def uptoSmall : (H : Type) → List (DataW H) → Bool := fun _ ds => decide (uptoBulkAll ds ≤ 1048576)
def OpenSpec.upto (s : _root_.Go.ChangeSpec) : _root_.Go.OpenSpec := { _root_.Go.OpenSpec.ofChange s with cond := some uptoSmall }

/-- 'colloquylaw20.MonTells', WHERE WHAT IT READS IS OF BULK AT MOST 1048576: true; the input reads as it did. -/
def monTellsUptoRow : OpenClaim := { program := "ytodfomkhhfcnhaadoor", sum := "2d22ccccebc90c70c4d6a51a2f53cc9b7d961118e811bca41fa80099169decd5", func := "colloquy/colloquylaw20.MonTells", spec := "monTells", inPlace := ["internal/reflectlite.ValueOf", "(internal/reflectlite.Value).Type", "(internal/reflectlite.Value).IsNil", "internal/reflectlite.TypeOf", "(internal/reflectlite.Value).Elem", "(internal/reflectlite.Value).Set"], unfollowed := true, recurses := true, named := ["errors.errorType"], apart := false, laid := [("errors.errorType", laid_errors_errorType)], narrowed := true }
def MonTellsUptoSaid : Prop := monTellsUptoRow.holds Tryd.pinned (OpenSpec.upto monTellsSpec)

/-- 'colloquylaw20.MonBack', WHERE WHAT IT READS IS OF BULK AT MOST 1048576: true; the input reads as it did. -/
def monBackUptoRow : OpenClaim := { program := "ytodfomkhhfcnhaadoor", sum := "2d22ccccebc90c70c4d6a51a2f53cc9b7d961118e811bca41fa80099169decd5", func := "colloquy/colloquylaw20.MonBack", spec := "monBack", inPlace := ["internal/reflectlite.ValueOf", "(internal/reflectlite.Value).Type", "(internal/reflectlite.Value).IsNil", "internal/reflectlite.TypeOf", "(internal/reflectlite.Value).Elem", "(internal/reflectlite.Value).Set"], unfollowed := true, recurses := true, named := ["errors.errorType"], apart := false, laid := [("errors.errorType", laid_errors_errorType)], narrowed := true }
def MonBackUptoSaid : Prop := monBackUptoRow.holds Tryd.pinned (OpenSpec.upto monBackSpec)

/-- 'colloquylaw20.MonRises', WHERE WHAT IT READS IS OF BULK AT MOST 1048576: true; the input reads as it did. -/
def monRisesUptoRow : OpenClaim := { program := "ytodfomkhhfcnhaadoor", sum := "2d22ccccebc90c70c4d6a51a2f53cc9b7d961118e811bca41fa80099169decd5", func := "colloquy/colloquylaw20.MonRises", spec := "monRises", inPlace := ["internal/reflectlite.ValueOf", "(internal/reflectlite.Value).Type", "(internal/reflectlite.Value).IsNil", "internal/reflectlite.TypeOf", "(internal/reflectlite.Value).Elem", "(internal/reflectlite.Value).Set"], unfollowed := true, recurses := true, named := ["errors.errorType"], apart := false, laid := [("errors.errorType", laid_errors_errorType)], narrowed := true }
def MonRisesUptoSaid : Prop := monRisesUptoRow.holds Tryd.pinned (OpenSpec.upto monRisesSpec)

/-- 'colloquylaw20.MonJoins', WHERE WHAT IT READS IS OF BULK AT MOST 1048576: true; the input reads as it did. -/
def monJoinsUptoRow : OpenClaim := { program := "ytodfomkhhfcnhaadoor", sum := "2d22ccccebc90c70c4d6a51a2f53cc9b7d961118e811bca41fa80099169decd5", func := "colloquy/colloquylaw20.MonJoins", spec := "monJoins", inPlace := ["internal/reflectlite.ValueOf", "(internal/reflectlite.Value).Type", "(internal/reflectlite.Value).IsNil", "internal/reflectlite.TypeOf", "(internal/reflectlite.Value).Elem", "(internal/reflectlite.Value).Set"], unfollowed := true, recurses := true, named := ["errors.errorType"], apart := false, laid := [("errors.errorType", laid_errors_errorType)], narrowed := true }
def MonJoinsUptoSaid : Prop := monJoinsUptoRow.holds Tryd.pinned (OpenSpec.upto monJoinsSpec)

end Rows
end Go.Proofs.YtodfomkhhfcnhaaDoor
