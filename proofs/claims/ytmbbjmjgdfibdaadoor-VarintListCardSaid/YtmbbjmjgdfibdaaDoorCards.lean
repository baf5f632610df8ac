/-
  DERIVED. GIVEN WITH THE SEED: THE CARDS: each row of YtmbbjmjgdfibdaaDoorRows.lean that lists a variable, with what it lists TIED to the program's text (the seventh form; the later family's looks); each row that meets fmt, with fmt's text TOLD by the authors' own Lean function (tested against real Go, not proved from fmt's source: count such statements apart). THE CARD IS WHAT COUNTS. Prove the row's statement (the work); the ties are given (YtmbbjmjgdfibdaaDoorTie.lean); close each card by the builder's one call (the guide's Derived/Test/ToyasCard.lean, 'card_holds'). Laid BY PROGRAM, IN A SANDBOX (cutbox-door.mjs). By AI agents, Wed Nov 11 2026. No macro, syntax, notation, axiom, sorry.
-/
import Derived.Test.YtmbbjmjgdfibdaaDoorRows
import GoSem.ClaimSeven
namespace Go.Proofs.YtmbbjmjgdfibdaaDoor
namespace Rows

/-- THE TIED CARD OF 'colloquylaw04.VarintTells'. -/
def varintTellsCard : Claim7 := { stood := { row := varintTellsRow, standIns := [], harness := (true, "9f9e29a586c02d2e01288150fec84d7f2c2ff2d5fefa4f30b471024b1c18aae6"), looks := true }, kinds := [], alts := [], laidByText := true, laidKinds := [.handle], laidTests := true, laidLooks := .later }
def VarintTellsCardSaid : Prop := Claim7.holds Tryd.pinned (.plain (OpenSpec.ofChange varintTellsSpec)) varintTellsCard

/-- THE TIED CARD OF 'colloquylaw04.VarintBack'. -/
def varintBackCard : Claim7 := { stood := { row := varintBackRow, standIns := [], harness := (true, "9f9e29a586c02d2e01288150fec84d7f2c2ff2d5fefa4f30b471024b1c18aae6"), looks := true }, kinds := [], alts := [], laidByText := true, laidKinds := [.handle], laidTests := true, laidLooks := .later }
def VarintBackCardSaid : Prop := Claim7.holds Tryd.pinned (.plain (OpenSpec.ofChange varintBackSpec)) varintBackCard

/-- THE TIED CARD OF 'colloquylaw04.VarintLength'. -/
def varintLengthCard : Claim7 := { stood := { row := varintLengthRow, standIns := [], harness := (true, "9f9e29a586c02d2e01288150fec84d7f2c2ff2d5fefa4f30b471024b1c18aae6"), looks := true }, kinds := [], alts := [], laidByText := true, laidKinds := [.handle], laidTests := true, laidLooks := .later }
def VarintLengthCardSaid : Prop := Claim7.holds Tryd.pinned (.plain (OpenSpec.ofChange varintLengthSpec)) varintLengthCard

/-- THE TIED CARD OF 'colloquylaw04.VarintList'. -/
def varintListCard : Claim7 := { stood := { row := varintListRow, standIns := [], harness := (true, "9f9e29a586c02d2e01288150fec84d7f2c2ff2d5fefa4f30b471024b1c18aae6"), looks := true }, kinds := [], alts := [], laidByText := true, laidKinds := [.handle], laidTests := true, laidLooks := .later }
def VarintListCardSaid : Prop := Claim7.holds Tryd.pinned (.plain (OpenSpec.ofChange varintListSpec)) varintListCard

/-- THE SECOND FORM's CARD OF 'colloquylaw04.VarintTells'. -/
def varintTellsUptoCard : Claim7 := { stood := { row := varintTellsUptoRow, standIns := [], harness := (true, "9f9e29a586c02d2e01288150fec84d7f2c2ff2d5fefa4f30b471024b1c18aae6"), looks := true }, kinds := [], alts := [], laidByText := true, laidKinds := [.handle], laidTests := true, laidLooks := .later }
def VarintTellsUptoCardSaid : Prop := Claim7.holds Tryd.pinned (.plain (OpenSpec.upto varintTellsSpec)) varintTellsUptoCard

/-- THE SECOND FORM's CARD OF 'colloquylaw04.VarintBack'. -/
def varintBackUptoCard : Claim7 := { stood := { row := varintBackUptoRow, standIns := [], harness := (true, "9f9e29a586c02d2e01288150fec84d7f2c2ff2d5fefa4f30b471024b1c18aae6"), looks := true }, kinds := [], alts := [], laidByText := true, laidKinds := [.handle], laidTests := true, laidLooks := .later }
def VarintBackUptoCardSaid : Prop := Claim7.holds Tryd.pinned (.plain (OpenSpec.upto varintBackSpec)) varintBackUptoCard

/-- THE SECOND FORM's CARD OF 'colloquylaw04.VarintLength'. -/
def varintLengthUptoCard : Claim7 := { stood := { row := varintLengthUptoRow, standIns := [], harness := (true, "9f9e29a586c02d2e01288150fec84d7f2c2ff2d5fefa4f30b471024b1c18aae6"), looks := true }, kinds := [], alts := [], laidByText := true, laidKinds := [.handle], laidTests := true, laidLooks := .later }
def VarintLengthUptoCardSaid : Prop := Claim7.holds Tryd.pinned (.plain (OpenSpec.upto varintLengthSpec)) varintLengthUptoCard

/-- THE SECOND FORM's CARD OF 'colloquylaw04.VarintList'. -/
def varintListUptoCard : Claim7 := { stood := { row := varintListUptoRow, standIns := [], harness := (true, "9f9e29a586c02d2e01288150fec84d7f2c2ff2d5fefa4f30b471024b1c18aae6"), looks := true }, kinds := [], alts := [], laidByText := true, laidKinds := [.handle], laidTests := true, laidLooks := .later }
def VarintListUptoCardSaid : Prop := Claim7.holds Tryd.pinned (.plain (OpenSpec.upto varintListSpec)) varintListUptoCard
end Rows
end Go.Proofs.YtmbbjmjgdfibdaaDoor
