/-
  DERIVED. GIVEN WITH THE SEED: THE CARDS: each row of YtdggcbmghmfmkaaDoorRows.lean that lists a variable, with what it lists TIED to the program's text (the seventh form; the later family's looks); each row that meets fmt, with fmt's text TOLD by the authors' own Lean function (tested against real Go, not proved from fmt's source: count such statements apart). THE CARD IS WHAT COUNTS. Prove the row's statement (the work); the ties are given (YtdggcbmghmfmkaaDoorTie.lean); close each card by the builder's one call (the guide's Derived/Test/ToyasCard.lean, 'card_holds'). Laid BY PROGRAM, IN A SANDBOX (cutbox-door.mjs). By AI agents, Wed Nov 11 2026. No macro, syntax, notation, axiom, sorry.
-/
import Derived.Test.YtdggcbmghmfmkaaDoorRows
import GoSem.ClaimSeven
namespace Go.Proofs.YtdggcbmghmfmkaaDoor
namespace Rows

/-- THE TIED CARD OF 'colloquylaw01.LatticeChains'. -/
def latticeChainsCard : Claim7 := { stood := { row := latticeChainsRow, standIns := [], harness := (true, "c25d3ebd89dad8038b94e753a640a15ef5d2bcb9c9b9c545191446ff16519a39"), looks := true }, kinds := [], alts := [], laidByText := true, laidKinds := [.handle], laidTests := true, laidLooks := .later }
def LatticeChainsCardSaid : Prop := Claim7.holds Tryd.pinned (.plain (OpenSpec.ofChange latticeChainsSpec)) latticeChainsCard

/-- THE TIED CARD OF 'colloquylaw01.LatticeLaws'. -/
def latticeLawsCard : Claim7 := { stood := { row := latticeLawsRow, standIns := [], harness := (true, "c25d3ebd89dad8038b94e753a640a15ef5d2bcb9c9b9c545191446ff16519a39"), looks := true }, kinds := [], alts := [], laidByText := true, laidKinds := [.handle], laidTests := true, laidLooks := .later }
def LatticeLawsCardSaid : Prop := Claim7.holds Tryd.pinned (.plain (OpenSpec.ofChange latticeLawsSpec)) latticeLawsCard

/-- THE TIED CARD OF 'colloquylaw01.LatticeLeast'. -/
def latticeLeastCard : Claim7 := { stood := { row := latticeLeastRow, standIns := [], harness := (true, "c25d3ebd89dad8038b94e753a640a15ef5d2bcb9c9b9c545191446ff16519a39"), looks := true }, kinds := [], alts := [], laidByText := true, laidKinds := [.handle], laidTests := true, laidLooks := .later }
def LatticeLeastCardSaid : Prop := Claim7.holds Tryd.pinned (.plain (OpenSpec.ofChange latticeLeastSpec)) latticeLeastCard

/-- THE TIED CARD OF 'colloquylaw01.LatticeOrder'. -/
def latticeOrderCard : Claim7 := { stood := { row := latticeOrderRow, standIns := [], harness := (true, "c25d3ebd89dad8038b94e753a640a15ef5d2bcb9c9b9c545191446ff16519a39"), looks := true }, kinds := [], alts := [], laidByText := true, laidKinds := [.handle], laidTests := true, laidLooks := .later }
def LatticeOrderCardSaid : Prop := Claim7.holds Tryd.pinned (.plain (OpenSpec.ofChange latticeOrderSpec)) latticeOrderCard

/-- THE TIED CARD OF 'colloquylaw01.LatticeSame'. -/
def latticeSameCard : Claim7 := { stood := { row := latticeSameRow, standIns := [], harness := (true, "c25d3ebd89dad8038b94e753a640a15ef5d2bcb9c9b9c545191446ff16519a39"), looks := true }, kinds := [], alts := [], laidByText := true, laidKinds := [.handle], laidTests := true, laidLooks := .later }
def LatticeSameCardSaid : Prop := Claim7.holds Tryd.pinned (.plain (OpenSpec.ofChange latticeSameSpec)) latticeSameCard

/-- THE SECOND FORM's CARD OF 'colloquylaw01.LatticeChains'. -/
def latticeChainsUptoCard : Claim7 := { stood := { row := latticeChainsUptoRow, standIns := [], harness := (true, "c25d3ebd89dad8038b94e753a640a15ef5d2bcb9c9b9c545191446ff16519a39"), looks := true }, kinds := [], alts := [], laidByText := true, laidKinds := [.handle], laidTests := true, laidLooks := .later }
def LatticeChainsUptoCardSaid : Prop := Claim7.holds Tryd.pinned (.plain (OpenSpec.upto latticeChainsSpec)) latticeChainsUptoCard

/-- THE SECOND FORM's CARD OF 'colloquylaw01.LatticeLaws'. -/
def latticeLawsUptoCard : Claim7 := { stood := { row := latticeLawsUptoRow, standIns := [], harness := (true, "c25d3ebd89dad8038b94e753a640a15ef5d2bcb9c9b9c545191446ff16519a39"), looks := true }, kinds := [], alts := [], laidByText := true, laidKinds := [.handle], laidTests := true, laidLooks := .later }
def LatticeLawsUptoCardSaid : Prop := Claim7.holds Tryd.pinned (.plain (OpenSpec.upto latticeLawsSpec)) latticeLawsUptoCard

/-- THE SECOND FORM's CARD OF 'colloquylaw01.LatticeLeast'. -/
def latticeLeastUptoCard : Claim7 := { stood := { row := latticeLeastUptoRow, standIns := [], harness := (true, "c25d3ebd89dad8038b94e753a640a15ef5d2bcb9c9b9c545191446ff16519a39"), looks := true }, kinds := [], alts := [], laidByText := true, laidKinds := [.handle], laidTests := true, laidLooks := .later }
def LatticeLeastUptoCardSaid : Prop := Claim7.holds Tryd.pinned (.plain (OpenSpec.upto latticeLeastSpec)) latticeLeastUptoCard

/-- THE SECOND FORM's CARD OF 'colloquylaw01.LatticeOrder'. -/
def latticeOrderUptoCard : Claim7 := { stood := { row := latticeOrderUptoRow, standIns := [], harness := (true, "c25d3ebd89dad8038b94e753a640a15ef5d2bcb9c9b9c545191446ff16519a39"), looks := true }, kinds := [], alts := [], laidByText := true, laidKinds := [.handle], laidTests := true, laidLooks := .later }
def LatticeOrderUptoCardSaid : Prop := Claim7.holds Tryd.pinned (.plain (OpenSpec.upto latticeOrderSpec)) latticeOrderUptoCard

/-- THE SECOND FORM's CARD OF 'colloquylaw01.LatticeSame'. -/
def latticeSameUptoCard : Claim7 := { stood := { row := latticeSameUptoRow, standIns := [], harness := (true, "c25d3ebd89dad8038b94e753a640a15ef5d2bcb9c9b9c545191446ff16519a39"), looks := true }, kinds := [], alts := [], laidByText := true, laidKinds := [.handle], laidTests := true, laidLooks := .later }
def LatticeSameUptoCardSaid : Prop := Claim7.holds Tryd.pinned (.plain (OpenSpec.upto latticeSameSpec)) latticeSameUptoCard
end Rows
end Go.Proofs.YtdggcbmghmfmkaaDoor
