/-
  DERIVED. GIVEN WITH THE SEED: THE CARDS: each row of YtibkboljoohdfaaDoorRows.lean that lists a variable, with what it lists TIED to the program's text (the seventh form; the later family's looks); each row that meets fmt, with fmt's text TOLD by the authors' own Lean function (tested against real Go, not proved from fmt's source: count such statements apart). THE CARD IS WHAT COUNTS. Prove the row's statement (the work); the ties are given (YtibkboljoohdfaaDoorTie.lean); close each card by the builder's one call (the guide's Derived/Test/ToyasCard.lean, 'card_holds'). Laid BY PROGRAM, IN A SANDBOX (cutbox-door.mjs). By AI agents, Wed Nov 11 2026. No macro, syntax, notation, axiom, sorry.
-/
import Derived.Test.YtibkboljoohdfaaDoorRows
import GoSem.ClaimSeven
namespace Go.Proofs.YtibkboljoohdfaaDoor
namespace Rows

/-- THE TIED CARD OF 'colloquylaw02.SmallWords'. -/
def smallWordsCard : Claim7 := { stood := { row := smallWordsRow, standIns := [], harness := (true, "e134bec58660dc948eb47cfb71e34358a6246b2d45b70b809078b3e75c4ce20c"), looks := true }, kinds := [], alts := [], laidByText := true, laidKinds := [.handle], laidTests := true, laidLooks := .later }
def SmallWordsCardSaid : Prop := Claim7.holds Tryd.pinned (.plain (OpenSpec.ofChange smallWordsSpec)) smallWordsCard

/-- THE TIED CARD OF 'colloquylaw02.SmallProducts'. -/
def smallProductsCard : Claim7 := { stood := { row := smallProductsRow, standIns := [], harness := (true, "e134bec58660dc948eb47cfb71e34358a6246b2d45b70b809078b3e75c4ce20c"), looks := true }, kinds := [], alts := [], laidByText := true, laidKinds := [.handle], laidTests := true, laidLooks := .later }
def SmallProductsCardSaid : Prop := Claim7.holds Tryd.pinned (.plain (OpenSpec.ofChange smallProductsSpec)) smallProductsCard

/-- THE TIED CARD OF 'colloquylaw02.SmallTells'. -/
def smallTellsCard : Claim7 := { stood := { row := smallTellsRow, standIns := [], harness := (true, "e134bec58660dc948eb47cfb71e34358a6246b2d45b70b809078b3e75c4ce20c"), looks := true }, kinds := [], alts := [], laidByText := true, laidKinds := [.handle], laidTests := true, laidLooks := .later }
def SmallTellsCardSaid : Prop := Claim7.holds Tryd.pinned (.plain (OpenSpec.ofChange smallTellsSpec)) smallTellsCard

/-- THE TIED CARD OF 'colloquylaw02.SmallBack'. -/
def smallBackCard : Claim7 := { stood := { row := smallBackRow, standIns := [], harness := (true, "e134bec58660dc948eb47cfb71e34358a6246b2d45b70b809078b3e75c4ce20c"), looks := true }, kinds := [], alts := [], laidByText := true, laidKinds := [.handle], laidTests := true, laidLooks := .later }
def SmallBackCardSaid : Prop := Claim7.holds Tryd.pinned (.plain (OpenSpec.ofChange smallBackSpec)) smallBackCard

/-- THE TIED CARD OF 'colloquylaw02.SmallSums'. -/
def smallSumsCard : Claim7 := { stood := { row := smallSumsRow, standIns := [], harness := (true, "e134bec58660dc948eb47cfb71e34358a6246b2d45b70b809078b3e75c4ce20c"), looks := true }, kinds := [], alts := [], laidByText := true, laidKinds := [.handle], laidTests := true, laidLooks := .later }
def SmallSumsCardSaid : Prop := Claim7.holds Tryd.pinned (.plain (OpenSpec.ofChange smallSumsSpec)) smallSumsCard

/-- THE SECOND FORM's CARD OF 'colloquylaw02.SmallWords'. -/
def smallWordsUptoCard : Claim7 := { stood := { row := smallWordsUptoRow, standIns := [], harness := (true, "e134bec58660dc948eb47cfb71e34358a6246b2d45b70b809078b3e75c4ce20c"), looks := true }, kinds := [], alts := [], laidByText := true, laidKinds := [.handle], laidTests := true, laidLooks := .later }
def SmallWordsUptoCardSaid : Prop := Claim7.holds Tryd.pinned (.plain (OpenSpec.upto smallWordsSpec)) smallWordsUptoCard

/-- THE SECOND FORM's CARD OF 'colloquylaw02.SmallProducts'. -/
def smallProductsUptoCard : Claim7 := { stood := { row := smallProductsUptoRow, standIns := [], harness := (true, "e134bec58660dc948eb47cfb71e34358a6246b2d45b70b809078b3e75c4ce20c"), looks := true }, kinds := [], alts := [], laidByText := true, laidKinds := [.handle], laidTests := true, laidLooks := .later }
def SmallProductsUptoCardSaid : Prop := Claim7.holds Tryd.pinned (.plain (OpenSpec.upto smallProductsSpec)) smallProductsUptoCard

/-- THE SECOND FORM's CARD OF 'colloquylaw02.SmallTells'. -/
def smallTellsUptoCard : Claim7 := { stood := { row := smallTellsUptoRow, standIns := [], harness := (true, "e134bec58660dc948eb47cfb71e34358a6246b2d45b70b809078b3e75c4ce20c"), looks := true }, kinds := [], alts := [], laidByText := true, laidKinds := [.handle], laidTests := true, laidLooks := .later }
def SmallTellsUptoCardSaid : Prop := Claim7.holds Tryd.pinned (.plain (OpenSpec.upto smallTellsSpec)) smallTellsUptoCard

/-- THE SECOND FORM's CARD OF 'colloquylaw02.SmallBack'. -/
def smallBackUptoCard : Claim7 := { stood := { row := smallBackUptoRow, standIns := [], harness := (true, "e134bec58660dc948eb47cfb71e34358a6246b2d45b70b809078b3e75c4ce20c"), looks := true }, kinds := [], alts := [], laidByText := true, laidKinds := [.handle], laidTests := true, laidLooks := .later }
def SmallBackUptoCardSaid : Prop := Claim7.holds Tryd.pinned (.plain (OpenSpec.upto smallBackSpec)) smallBackUptoCard

/-- THE SECOND FORM's CARD OF 'colloquylaw02.SmallSums'. -/
def smallSumsUptoCard : Claim7 := { stood := { row := smallSumsUptoRow, standIns := [], harness := (true, "e134bec58660dc948eb47cfb71e34358a6246b2d45b70b809078b3e75c4ce20c"), looks := true }, kinds := [], alts := [], laidByText := true, laidKinds := [.handle], laidTests := true, laidLooks := .later }
def SmallSumsUptoCardSaid : Prop := Claim7.holds Tryd.pinned (.plain (OpenSpec.upto smallSumsSpec)) smallSumsUptoCard
end Rows
end Go.Proofs.YtibkboljoohdfaaDoor
