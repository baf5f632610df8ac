/-
  NARROWER THAN 'FOR EVERY INPUT', by the rows' own cells (each row's printed sentence says how): SmallWords: laid · SmallProducts: laid · SmallTells: laid · SmallBack: laid · SmallSums: laid.
  DERIVED. THE GIVEN ROWS OF THIS SEAT. 5 by the template 'for every input the law returns true; each argument reads behind the call as it read before'; 0 by the template 'total and deterministic' (their statements: YtibkboljoohdfaaDoorTotals.lean).
  GIVEN WITH THE SEED: the statements are not yours to turn. If you find one false, say at which input.
  Laid BY PROGRAM, IN A SANDBOX (cutbox-rows.mjs): the forced cells as the released guide's own fill.sh prints them over the translation 0791bbcd9a42d066… (all of the seat's roots in one cut). By AI agents, Wed Nov 11 2026. No macro, syntax, notation, axiom, sorry.
-/
import Derived.Test.YtibkboljoohdfaaDoorChecked
import GoSem.Claim
import GoSem.ClaimJoined
import GoSem.ClaimMapViews
import Derived.JoinedTies
import Derived.KernelRfl
namespace Go.Proofs.YtibkboljoohdfaaDoor
/- THE CELL 'sum', in the pinned program and in every row, IS THE sha256 OF THE DUMP (.gsa) THAT YtibkboljoohdfaaDoorProg.lean LOADS. Nothing in Lean hashes anything: it is a label: what it is worth is what the hold of that sum in a sandbox is worth. -/
noncomputable def Tryd.pinned : Pinned := { name := "ytibkboljoohdfaadoor", sum := "0791bbcd9a42d0669997bd397daf0571c6cf356fa8f9563192f05fe7e954d56a", checked := Tryd.checked }
namespace Rows
def none {H : Type} : Left H := { results := [], args := [] }

/- WHAT THE LISTED PACKAGE-LEVEL VARIABLES READ AS WHEN THE CALL BEGINS. Each datum BY PROGRAM (the guide's laid-datum.mjs) off the statement by which the dump's own 'gosem.cut.vars' lays the variable. In a bare row this is a premise. The card (YtibkboljoohdfaaDoorCards.lean) ties it to the program's text. -/
def laid_errors_errorType {H : Type} : DataW H := .iface "internal/reflectlite.rtype" (.agg [.ptr (.lit (.string [101, 114, 114, 111, 114]))])

/-- 'colloquylaw02.SmallWords': WHATEVER THE INPUT: true; the input reads as it did. -/
def smallWordsSpec : ChangeSpec := { name := "smallWords", fn := fun _ => fun
  | [d1, d2] => { results := [.lit (.bool true)], args := [d1, d2] }
  | _ => none }
def smallWordsRow : OpenClaim := { program := "ytibkboljoohdfaadoor", sum := "0791bbcd9a42d0669997bd397daf0571c6cf356fa8f9563192f05fe7e954d56a", func := "colloquy/colloquylaw02.SmallWords", spec := "smallWords", inPlace := ["internal/reflectlite.ValueOf", "(internal/reflectlite.Value).Type", "(internal/reflectlite.Value).IsNil", "internal/reflectlite.TypeOf", "(internal/reflectlite.Value).Elem", "(internal/reflectlite.Value).Set"], unfollowed := true, recurses := true, named := ["errors.errorType"], apart := false, laid := [("errors.errorType", laid_errors_errorType)] }
def SmallWordsSaid : Prop := smallWordsRow.holds Tryd.pinned (OpenSpec.ofChange smallWordsSpec)

/-- ITS FALSE NEIGHBOUR: 'it returns false'. Refute it at one input. -/
def smallWordsWrong : ChangeSpec := { name := "smallWords", fn := fun _ => fun
  | [d1, d2] => { results := [.lit (.bool false)], args := [d1, d2] }
  | _ => none }
def SmallWordsWrongFalsely : Prop := smallWordsRow.holds Tryd.pinned (OpenSpec.ofChange smallWordsWrong)

/-- 'colloquylaw02.SmallProducts': WHATEVER THE INPUT: true; the input reads as it did. -/
def smallProductsSpec : ChangeSpec := { name := "smallProducts", fn := fun _ => fun
  | [d1, d2, d3] => { results := [.lit (.bool true)], args := [d1, d2, d3] }
  | _ => none }
def smallProductsRow : OpenClaim := { program := "ytibkboljoohdfaadoor", sum := "0791bbcd9a42d0669997bd397daf0571c6cf356fa8f9563192f05fe7e954d56a", func := "colloquy/colloquylaw02.SmallProducts", spec := "smallProducts", inPlace := ["internal/reflectlite.ValueOf", "(internal/reflectlite.Value).Type", "(internal/reflectlite.Value).IsNil", "internal/reflectlite.TypeOf", "(internal/reflectlite.Value).Elem", "(internal/reflectlite.Value).Set"], unfollowed := true, recurses := true, named := ["errors.errorType"], apart := false, laid := [("errors.errorType", laid_errors_errorType)] }
def SmallProductsSaid : Prop := smallProductsRow.holds Tryd.pinned (OpenSpec.ofChange smallProductsSpec)

/-- ITS FALSE NEIGHBOUR: 'it returns false'. Refute it at one input. -/
def smallProductsWrong : ChangeSpec := { name := "smallProducts", fn := fun _ => fun
  | [d1, d2, d3] => { results := [.lit (.bool false)], args := [d1, d2, d3] }
  | _ => none }
def SmallProductsWrongFalsely : Prop := smallProductsRow.holds Tryd.pinned (OpenSpec.ofChange smallProductsWrong)

/-- 'colloquylaw02.SmallTells': WHATEVER THE INPUT: true; the input reads as it did. -/
def smallTellsSpec : ChangeSpec := { name := "smallTells", fn := fun _ => fun
  | [d1, d2, d3] => { results := [.lit (.bool true)], args := [d1, d2, d3] }
  | _ => none }
def smallTellsRow : OpenClaim := { program := "ytibkboljoohdfaadoor", sum := "0791bbcd9a42d0669997bd397daf0571c6cf356fa8f9563192f05fe7e954d56a", func := "colloquy/colloquylaw02.SmallTells", spec := "smallTells", inPlace := ["internal/reflectlite.ValueOf", "(internal/reflectlite.Value).Type", "(internal/reflectlite.Value).IsNil", "internal/reflectlite.TypeOf", "(internal/reflectlite.Value).Elem", "(internal/reflectlite.Value).Set"], unfollowed := true, recurses := true, named := ["errors.errorType"], apart := false, laid := [("errors.errorType", laid_errors_errorType)] }
def SmallTellsSaid : Prop := smallTellsRow.holds Tryd.pinned (OpenSpec.ofChange smallTellsSpec)

/-- ITS FALSE NEIGHBOUR: 'it returns false'. Refute it at one input. -/
def smallTellsWrong : ChangeSpec := { name := "smallTells", fn := fun _ => fun
  | [d1, d2, d3] => { results := [.lit (.bool false)], args := [d1, d2, d3] }
  | _ => none }
def SmallTellsWrongFalsely : Prop := smallTellsRow.holds Tryd.pinned (OpenSpec.ofChange smallTellsWrong)

/-- 'colloquylaw02.SmallBack': WHATEVER THE INPUT: true; the input reads as it did. -/
def smallBackSpec : ChangeSpec := { name := "smallBack", fn := fun _ => fun
  | [d1, d2] => { results := [.lit (.bool true)], args := [d1, d2] }
  | _ => none }
def smallBackRow : OpenClaim := { program := "ytibkboljoohdfaadoor", sum := "0791bbcd9a42d0669997bd397daf0571c6cf356fa8f9563192f05fe7e954d56a", func := "colloquy/colloquylaw02.SmallBack", spec := "smallBack", inPlace := ["internal/reflectlite.ValueOf", "(internal/reflectlite.Value).Type", "(internal/reflectlite.Value).IsNil", "internal/reflectlite.TypeOf", "(internal/reflectlite.Value).Elem", "(internal/reflectlite.Value).Set"], unfollowed := true, recurses := true, named := ["errors.errorType"], apart := false, laid := [("errors.errorType", laid_errors_errorType)] }
def SmallBackSaid : Prop := smallBackRow.holds Tryd.pinned (OpenSpec.ofChange smallBackSpec)

/-- ITS FALSE NEIGHBOUR: 'it returns false'. Refute it at one input. -/
def smallBackWrong : ChangeSpec := { name := "smallBack", fn := fun _ => fun
  | [d1, d2] => { results := [.lit (.bool false)], args := [d1, d2] }
  | _ => none }
def SmallBackWrongFalsely : Prop := smallBackRow.holds Tryd.pinned (OpenSpec.ofChange smallBackWrong)

/-- 'colloquylaw02.SmallSums': WHATEVER THE INPUT: true; the input reads as it did. -/
def smallSumsSpec : ChangeSpec := { name := "smallSums", fn := fun _ => fun
  | [d1, d2, d3] => { results := [.lit (.bool true)], args := [d1, d2, d3] }
  | _ => none }
def smallSumsRow : OpenClaim := { program := "ytibkboljoohdfaadoor", sum := "0791bbcd9a42d0669997bd397daf0571c6cf356fa8f9563192f05fe7e954d56a", func := "colloquy/colloquylaw02.SmallSums", spec := "smallSums", inPlace := ["internal/reflectlite.ValueOf", "(internal/reflectlite.Value).Type", "(internal/reflectlite.Value).IsNil", "internal/reflectlite.TypeOf", "(internal/reflectlite.Value).Elem", "(internal/reflectlite.Value).Set"], unfollowed := true, recurses := true, named := ["errors.errorType"], apart := false, laid := [("errors.errorType", laid_errors_errorType)] }
def SmallSumsSaid : Prop := smallSumsRow.holds Tryd.pinned (OpenSpec.ofChange smallSumsSpec)

/-- ITS FALSE NEIGHBOUR: 'it returns false'. Refute it at one input. -/
def smallSumsWrong : ChangeSpec := { name := "smallSums", fn := fun _ => fun
  | [d1, d2, d3] => { results := [.lit (.bool false)], args := [d1, d2, d3] }
  | _ => none }
def SmallSumsWrongFalsely : Prop := smallSumsRow.holds Tryd.pinned (OpenSpec.ofChange smallSumsWrong)

/- THE SECOND FORM. 'bulk': how many values and letters a reading holds, each counted each time it is reached (what is shared counts as often as it is met; a slice's spare places count too). A statement '..UptoSaid' is the law's where the arguments, and the package variables that the reading takes, are together of bulk at most 1048576: NARROWER than '..Said'. Prove '..Said' where nothing that the law and all that it calls make is longer than what came in: it says more and counts as full. Else prove '..UptoSaid'. A law counts once. -/
mutual
def uptoBulk {H : Type} : DataW H → Nat
  | .lit (.string bytes) => bytes.length + 1
  | .lit _ => 1
  | .nil => 1
  | .ptr d => uptoBulk d + 1
  | .slice elems spare => uptoBulkAll elems + uptoBulkAll spare + 1
  | .agg parts => uptoBulkAll parts + 1
  | .iface _ d => uptoBulk d + 1
  | .map entries => uptoBulkEntries entries + 1
  | .held _ => 1
def uptoBulkAll {H : Type} : List (DataW H) → Nat
  | [] => 0
  | d :: r => uptoBulk d + uptoBulkAll r
def uptoBulkEntries {H : Type} : List (Lit × DataW H) → Nat
  | [] => 0
  | x :: r => uptoBulkEntry x + uptoBulkEntries r
def uptoBulkEntry {H : Type} : Lit × DataW H → Nat
  | (.string bytes, d) => bytes.length + uptoBulk d + 1
  | (_, d) => uptoBulk d + 1
 end
def uptoSmall : (H : Type) → List (DataW H) → Bool := fun _ ds => decide (uptoBulkAll ds ≤ 1048576)
def OpenSpec.upto (s : _root_.Go.ChangeSpec) : _root_.Go.OpenSpec := { _root_.Go.OpenSpec.ofChange s with cond := some uptoSmall }

/-- 'colloquylaw02.SmallWords', WHERE WHAT IT READS IS OF BULK AT MOST 1048576: true; the input reads as it did. -/
def smallWordsUptoRow : OpenClaim := { program := "ytibkboljoohdfaadoor", sum := "0791bbcd9a42d0669997bd397daf0571c6cf356fa8f9563192f05fe7e954d56a", func := "colloquy/colloquylaw02.SmallWords", spec := "smallWords", inPlace := ["internal/reflectlite.ValueOf", "(internal/reflectlite.Value).Type", "(internal/reflectlite.Value).IsNil", "internal/reflectlite.TypeOf", "(internal/reflectlite.Value).Elem", "(internal/reflectlite.Value).Set"], unfollowed := true, recurses := true, named := ["errors.errorType"], apart := false, laid := [("errors.errorType", laid_errors_errorType)], narrowed := true }
def SmallWordsUptoSaid : Prop := smallWordsUptoRow.holds Tryd.pinned (OpenSpec.upto smallWordsSpec)

/-- 'colloquylaw02.SmallProducts', WHERE WHAT IT READS IS OF BULK AT MOST 1048576: true; the input reads as it did. -/
def smallProductsUptoRow : OpenClaim := { program := "ytibkboljoohdfaadoor", sum := "0791bbcd9a42d0669997bd397daf0571c6cf356fa8f9563192f05fe7e954d56a", func := "colloquy/colloquylaw02.SmallProducts", spec := "smallProducts", inPlace := ["internal/reflectlite.ValueOf", "(internal/reflectlite.Value).Type", "(internal/reflectlite.Value).IsNil", "internal/reflectlite.TypeOf", "(internal/reflectlite.Value).Elem", "(internal/reflectlite.Value).Set"], unfollowed := true, recurses := true, named := ["errors.errorType"], apart := false, laid := [("errors.errorType", laid_errors_errorType)], narrowed := true }
def SmallProductsUptoSaid : Prop := smallProductsUptoRow.holds Tryd.pinned (OpenSpec.upto smallProductsSpec)

/-- 'colloquylaw02.SmallTells', WHERE WHAT IT READS IS OF BULK AT MOST 1048576: true; the input reads as it did. -/
def smallTellsUptoRow : OpenClaim := { program := "ytibkboljoohdfaadoor", sum := "0791bbcd9a42d0669997bd397daf0571c6cf356fa8f9563192f05fe7e954d56a", func := "colloquy/colloquylaw02.SmallTells", spec := "smallTells", inPlace := ["internal/reflectlite.ValueOf", "(internal/reflectlite.Value).Type", "(internal/reflectlite.Value).IsNil", "internal/reflectlite.TypeOf", "(internal/reflectlite.Value).Elem", "(internal/reflectlite.Value).Set"], unfollowed := true, recurses := true, named := ["errors.errorType"], apart := false, laid := [("errors.errorType", laid_errors_errorType)], narrowed := true }
def SmallTellsUptoSaid : Prop := smallTellsUptoRow.holds Tryd.pinned (OpenSpec.upto smallTellsSpec)

/-- 'colloquylaw02.SmallBack', WHERE WHAT IT READS IS OF BULK AT MOST 1048576: true; the input reads as it did. -/
def smallBackUptoRow : OpenClaim := { program := "ytibkboljoohdfaadoor", sum := "0791bbcd9a42d0669997bd397daf0571c6cf356fa8f9563192f05fe7e954d56a", func := "colloquy/colloquylaw02.SmallBack", spec := "smallBack", inPlace := ["internal/reflectlite.ValueOf", "(internal/reflectlite.Value).Type", "(internal/reflectlite.Value).IsNil", "internal/reflectlite.TypeOf", "(internal/reflectlite.Value).Elem", "(internal/reflectlite.Value).Set"], unfollowed := true, recurses := true, named := ["errors.errorType"], apart := false, laid := [("errors.errorType", laid_errors_errorType)], narrowed := true }
def SmallBackUptoSaid : Prop := smallBackUptoRow.holds Tryd.pinned (OpenSpec.upto smallBackSpec)

/-- 'colloquylaw02.SmallSums', WHERE WHAT IT READS IS OF BULK AT MOST 1048576: true; the input reads as it did. -/
def smallSumsUptoRow : OpenClaim := { program := "ytibkboljoohdfaadoor", sum := "0791bbcd9a42d0669997bd397daf0571c6cf356fa8f9563192f05fe7e954d56a", func := "colloquy/colloquylaw02.SmallSums", spec := "smallSums", inPlace := ["internal/reflectlite.ValueOf", "(internal/reflectlite.Value).Type", "(internal/reflectlite.Value).IsNil", "internal/reflectlite.TypeOf", "(internal/reflectlite.Value).Elem", "(internal/reflectlite.Value).Set"], unfollowed := true, recurses := true, named := ["errors.errorType"], apart := false, laid := [("errors.errorType", laid_errors_errorType)], narrowed := true }
def SmallSumsUptoSaid : Prop := smallSumsUptoRow.holds Tryd.pinned (OpenSpec.upto smallSumsSpec)

end Rows
end Go.Proofs.YtibkboljoohdfaaDoor
