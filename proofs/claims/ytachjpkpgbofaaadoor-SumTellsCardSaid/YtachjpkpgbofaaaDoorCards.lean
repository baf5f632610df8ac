/-
  DERIVED. GIVEN WITH THE SEED: THE CARDS: each row of YtachjpkpgbofaaaDoorRows.lean that lists a variable, with what it lists TIED to the program's text (the seventh form; the later family's looks); each row that meets fmt, with fmt's text TOLD by the authors' own Lean function (tested against real Go, not proved from fmt's source: count such statements apart). THE CARD IS WHAT COUNTS. Prove the row's statement (the work); the ties are given (YtachjpkpgbofaaaDoorTie.lean); close each card by the builder's one call (the guide's Derived/Test/ToyasCard.lean, 'card_holds'). Laid BY PROGRAM, IN A SANDBOX (cutbox-door.mjs). By AI agents, Wed Nov 11 2026. No macro, syntax, notation, axiom, sorry.
-/
import Derived.Test.YtachjpkpgbofaaaDoorRows
import GoSem.ClaimSeven
namespace Go.Proofs.YtachjpkpgbofaaaDoor
namespace Rows

/-- THE TIED CARD OF 'colloquylaw05.SumTells'. -/
def sumTellsCard : Claim7 := { stood := { row := sumTellsRow, standIns := [], harness := (true, "c27951ae411bc0aeab0bc703a3e05c89fb6173c219e4751abb954b7dd96134ad"), looks := true }, kinds := [], alts := [], laidByText := true, laidKinds := [.handle], laidTests := true, laidLooks := .later }
def SumTellsCardSaid : Prop := Claim7.holds Tryd.pinned (.plain (OpenSpec.ofChange sumTellsSpec)) sumTellsCard

/-- THE TIED CARD OF 'colloquylaw05.SumOne'. -/
def sumOneCard : Claim7 := { stood := { row := sumOneRow, standIns := [], harness := (true, "c27951ae411bc0aeab0bc703a3e05c89fb6173c219e4751abb954b7dd96134ad"), looks := true }, kinds := [], alts := [], laidByText := true, laidKinds := [.handle], laidTests := true, laidLooks := .later }
def SumOneCardSaid : Prop := Claim7.holds Tryd.pinned (.plain (OpenSpec.ofChange sumOneSpec)) sumOneCard

/-- THE TIED CARD OF 'colloquylaw05.SumSwap'. -/
def sumSwapCard : Claim7 := { stood := { row := sumSwapRow, standIns := [], harness := (true, "c27951ae411bc0aeab0bc703a3e05c89fb6173c219e4751abb954b7dd96134ad"), looks := true }, kinds := [], alts := [], laidByText := true, laidKinds := [.handle], laidTests := true, laidLooks := .later }
def SumSwapCardSaid : Prop := Claim7.holds Tryd.pinned (.plain (OpenSpec.ofChange sumSwapSpec)) sumSwapCard

/-- THE SECOND FORM's CARD OF 'colloquylaw05.SumTells'. -/
def sumTellsUptoCard : Claim7 := { stood := { row := sumTellsUptoRow, standIns := [], harness := (true, "c27951ae411bc0aeab0bc703a3e05c89fb6173c219e4751abb954b7dd96134ad"), looks := true }, kinds := [], alts := [], laidByText := true, laidKinds := [.handle], laidTests := true, laidLooks := .later }
def SumTellsUptoCardSaid : Prop := Claim7.holds Tryd.pinned (.plain (OpenSpec.upto sumTellsSpec)) sumTellsUptoCard

/-- THE SECOND FORM's CARD OF 'colloquylaw05.SumOne'. -/
def sumOneUptoCard : Claim7 := { stood := { row := sumOneUptoRow, standIns := [], harness := (true, "c27951ae411bc0aeab0bc703a3e05c89fb6173c219e4751abb954b7dd96134ad"), looks := true }, kinds := [], alts := [], laidByText := true, laidKinds := [.handle], laidTests := true, laidLooks := .later }
def SumOneUptoCardSaid : Prop := Claim7.holds Tryd.pinned (.plain (OpenSpec.upto sumOneSpec)) sumOneUptoCard

/-- THE SECOND FORM's CARD OF 'colloquylaw05.SumSwap'. -/
def sumSwapUptoCard : Claim7 := { stood := { row := sumSwapUptoRow, standIns := [], harness := (true, "c27951ae411bc0aeab0bc703a3e05c89fb6173c219e4751abb954b7dd96134ad"), looks := true }, kinds := [], alts := [], laidByText := true, laidKinds := [.handle], laidTests := true, laidLooks := .later }
def SumSwapUptoCardSaid : Prop := Claim7.holds Tryd.pinned (.plain (OpenSpec.upto sumSwapSpec)) sumSwapUptoCard
end Rows
end Go.Proofs.YtachjpkpgbofaaaDoor
