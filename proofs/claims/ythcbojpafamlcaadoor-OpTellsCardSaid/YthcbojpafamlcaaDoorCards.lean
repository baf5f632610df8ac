/-
  DERIVED. GIVEN WITH THE SEED: THE CARDS: each row of YthcbojpafamlcaaDoorRows.lean that lists a variable, with what it lists TIED to the program's text (the seventh form; the later family's looks); each row that meets fmt, with fmt's text TOLD by the authors' own Lean function (tested against real Go, not proved from fmt's source: count such statements apart). THE CARD IS WHAT COUNTS. Prove the row's statement (the work); the ties are given (YthcbojpafamlcaaDoorTie.lean); close each card by the builder's one call (the guide's Derived/Test/ToyasCard.lean, 'card_holds'). Laid BY PROGRAM, IN A SANDBOX (cutbox-door.mjs). By AI agents, Wed Nov 11 2026. No macro, syntax, notation, axiom, sorry.
-/
import Derived.Test.YthcbojpafamlcaaDoorRows
import GoSem.ClaimSeven
namespace Go.Proofs.YthcbojpafamlcaaDoor
namespace Rows

/-- THE TIED CARD OF 'colloquylaw07.OpTells'. -/
def opTellsCard : Claim7 := { stood := { row := opTellsRow, standIns := [], harness := (true, "6ae44965eb105ce75643f5b0123e34fc528abdca5268f9deca69641bb75a5591"), looks := true }, kinds := [], alts := [], laidByText := true, laidKinds := [.handle], laidTests := true, laidLooks := .later }
def OpTellsCardSaid : Prop := Claim7.holds Tryd.pinned (.plain (OpenSpec.ofChange opTellsSpec)) opTellsCard

/-- THE TIED CARD OF 'colloquylaw07.OpBack'. -/
def opBackCard : Claim7 := { stood := { row := opBackRow, standIns := [], harness := (true, "6ae44965eb105ce75643f5b0123e34fc528abdca5268f9deca69641bb75a5591"), looks := true }, kinds := [], alts := [], laidByText := true, laidKinds := [.handle], laidTests := true, laidLooks := .later }
def OpBackCardSaid : Prop := Claim7.holds Tryd.pinned (.plain (OpenSpec.ofChange opBackSpec)) opBackCard

/-- THE TIED CARD OF 'colloquylaw07.OpCut'. -/
def opCutCard : Claim7 := { stood := { row := opCutRow, standIns := [], harness := (true, "6ae44965eb105ce75643f5b0123e34fc528abdca5268f9deca69641bb75a5591"), looks := true }, kinds := [], alts := [], laidByText := true, laidKinds := [.handle], laidTests := true, laidLooks := .later }
def OpCutCardSaid : Prop := Claim7.holds Tryd.pinned (.plain (OpenSpec.ofChange opCutSpec)) opCutCard

/-- THE TIED CARD OF 'colloquylaw07.OpNames'. -/
def opNamesCard : Claim7 := { stood := { row := opNamesRow, standIns := [], harness := (true, "6ae44965eb105ce75643f5b0123e34fc528abdca5268f9deca69641bb75a5591"), looks := true }, kinds := [], alts := [], laidByText := true, laidKinds := [.handle], laidTests := true, laidLooks := .later }
def OpNamesCardSaid : Prop := Claim7.holds Tryd.pinned (.plain (OpenSpec.ofChange opNamesSpec)) opNamesCard

/-- THE SECOND FORM's CARD OF 'colloquylaw07.OpTells'. -/
def opTellsUptoCard : Claim7 := { stood := { row := opTellsUptoRow, standIns := [], harness := (true, "6ae44965eb105ce75643f5b0123e34fc528abdca5268f9deca69641bb75a5591"), looks := true }, kinds := [], alts := [], laidByText := true, laidKinds := [.handle], laidTests := true, laidLooks := .later }
def OpTellsUptoCardSaid : Prop := Claim7.holds Tryd.pinned (.plain (OpenSpec.upto opTellsSpec)) opTellsUptoCard

/-- THE SECOND FORM's CARD OF 'colloquylaw07.OpBack'. -/
def opBackUptoCard : Claim7 := { stood := { row := opBackUptoRow, standIns := [], harness := (true, "6ae44965eb105ce75643f5b0123e34fc528abdca5268f9deca69641bb75a5591"), looks := true }, kinds := [], alts := [], laidByText := true, laidKinds := [.handle], laidTests := true, laidLooks := .later }
def OpBackUptoCardSaid : Prop := Claim7.holds Tryd.pinned (.plain (OpenSpec.upto opBackSpec)) opBackUptoCard

/-- THE SECOND FORM's CARD OF 'colloquylaw07.OpCut'. -/
def opCutUptoCard : Claim7 := { stood := { row := opCutUptoRow, standIns := [], harness := (true, "6ae44965eb105ce75643f5b0123e34fc528abdca5268f9deca69641bb75a5591"), looks := true }, kinds := [], alts := [], laidByText := true, laidKinds := [.handle], laidTests := true, laidLooks := .later }
def OpCutUptoCardSaid : Prop := Claim7.holds Tryd.pinned (.plain (OpenSpec.upto opCutSpec)) opCutUptoCard

/-- THE SECOND FORM's CARD OF 'colloquylaw07.OpNames'. -/
def opNamesUptoCard : Claim7 := { stood := { row := opNamesUptoRow, standIns := [], harness := (true, "6ae44965eb105ce75643f5b0123e34fc528abdca5268f9deca69641bb75a5591"), looks := true }, kinds := [], alts := [], laidByText := true, laidKinds := [.handle], laidTests := true, laidLooks := .later }
def OpNamesUptoCardSaid : Prop := Claim7.holds Tryd.pinned (.plain (OpenSpec.upto opNamesSpec)) opNamesUptoCard
end Rows
end Go.Proofs.YthcbojpafamlcaaDoor
