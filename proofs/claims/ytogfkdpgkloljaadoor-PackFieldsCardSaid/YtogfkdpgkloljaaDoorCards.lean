/-
  DERIVED. GIVEN WITH THE SEED: THE CARDS: each row of YtogfkdpgkloljaaDoorRows.lean that lists a variable, with what it lists TIED to the program's text (the seventh form; the later family's looks); each row that meets fmt, with fmt's text TOLD by the authors' own Lean function (tested against real Go, not proved from fmt's source: count such statements apart). THE CARD IS WHAT COUNTS. Prove the row's statement (the work); the ties are given (YtogfkdpgkloljaaDoorTie.lean); close each card by the builder's one call (the guide's Derived/Test/ToyasCard.lean, 'card_holds'). Laid BY PROGRAM, IN A SANDBOX (cutbox-door.mjs). By AI agents, Wed Nov 11 2026. No macro, syntax, notation, axiom, sorry.
-/
import Derived.Test.YtogfkdpgkloljaaDoorRows
import GoSem.ClaimSeven
namespace Go.Proofs.YtogfkdpgkloljaaDoor
namespace Rows

/-- THE TIED CARD OF 'colloquylaw06.PackFields'. -/
def packFieldsCard : Claim7 := { stood := { row := packFieldsRow, standIns := [], harness := (true, "24ed4fe5a1da21cde87c8d3c06ca3cc70e82c572295f7011edf36be2448f9101"), looks := true }, kinds := [], alts := [], laidByText := true, laidKinds := [.handle], laidTests := true, laidLooks := .later }
def PackFieldsCardSaid : Prop := Claim7.holds Tryd.pinned (.plain (OpenSpec.ofChange packFieldsSpec)) packFieldsCard

/-- THE TIED CARD OF 'colloquylaw06.PackBack'. -/
def packBackCard : Claim7 := { stood := { row := packBackRow, standIns := [], harness := (true, "24ed4fe5a1da21cde87c8d3c06ca3cc70e82c572295f7011edf36be2448f9101"), looks := true }, kinds := [], alts := [], laidByText := true, laidKinds := [.handle], laidTests := true, laidLooks := .later }
def PackBackCardSaid : Prop := Claim7.holds Tryd.pinned (.plain (OpenSpec.ofChange packBackSpec)) packBackCard

/-- THE TIED CARD OF 'colloquylaw06.PackWrong'. -/
def packWrongCard : Claim7 := { stood := { row := packWrongRow, standIns := [], harness := (true, "24ed4fe5a1da21cde87c8d3c06ca3cc70e82c572295f7011edf36be2448f9101"), looks := true }, kinds := [], alts := [], laidByText := true, laidKinds := [.handle], laidTests := true, laidLooks := .later }
def PackWrongCardSaid : Prop := Claim7.holds Tryd.pinned (.plain (OpenSpec.ofChange packWrongSpec)) packWrongCard

/-- THE SECOND FORM's CARD OF 'colloquylaw06.PackFields'. -/
def packFieldsUptoCard : Claim7 := { stood := { row := packFieldsUptoRow, standIns := [], harness := (true, "24ed4fe5a1da21cde87c8d3c06ca3cc70e82c572295f7011edf36be2448f9101"), looks := true }, kinds := [], alts := [], laidByText := true, laidKinds := [.handle], laidTests := true, laidLooks := .later }
def PackFieldsUptoCardSaid : Prop := Claim7.holds Tryd.pinned (.plain (OpenSpec.upto packFieldsSpec)) packFieldsUptoCard

/-- THE SECOND FORM's CARD OF 'colloquylaw06.PackBack'. -/
def packBackUptoCard : Claim7 := { stood := { row := packBackUptoRow, standIns := [], harness := (true, "24ed4fe5a1da21cde87c8d3c06ca3cc70e82c572295f7011edf36be2448f9101"), looks := true }, kinds := [], alts := [], laidByText := true, laidKinds := [.handle], laidTests := true, laidLooks := .later }
def PackBackUptoCardSaid : Prop := Claim7.holds Tryd.pinned (.plain (OpenSpec.upto packBackSpec)) packBackUptoCard

/-- THE SECOND FORM's CARD OF 'colloquylaw06.PackWrong'. -/
def packWrongUptoCard : Claim7 := { stood := { row := packWrongUptoRow, standIns := [], harness := (true, "24ed4fe5a1da21cde87c8d3c06ca3cc70e82c572295f7011edf36be2448f9101"), looks := true }, kinds := [], alts := [], laidByText := true, laidKinds := [.handle], laidTests := true, laidLooks := .later }
def PackWrongUptoCardSaid : Prop := Claim7.holds Tryd.pinned (.plain (OpenSpec.upto packWrongSpec)) packWrongUptoCard
end Rows
end Go.Proofs.YtogfkdpgkloljaaDoor
