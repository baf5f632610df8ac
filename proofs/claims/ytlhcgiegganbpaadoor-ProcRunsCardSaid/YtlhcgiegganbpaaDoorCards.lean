/-
  DERIVED. GIVEN WITH THE SEED: THE CARDS: each row of YtlhcgiegganbpaaDoorRows.lean that lists a variable, with what it lists TIED to the program's text (the seventh form; the later family's looks); each row that meets fmt, with fmt's text TOLD by the authors' own Lean function (tested against real Go, not proved from fmt's source: count such statements apart). THE CARD IS WHAT COUNTS. Prove the row's statement (the work); the ties are given (YtlhcgiegganbpaaDoorTie.lean); close each card by the builder's one call (the guide's Derived/Test/ToyasCard.lean, 'card_holds'). Laid BY PROGRAM, IN A SANDBOX (cutbox-door.mjs). By AI agents, Wed Nov 11 2026. No macro, syntax, notation, axiom, sorry.
-/
import Derived.Test.YtlhcgiegganbpaaDoorRows
import GoSem.ClaimSeven
namespace Go.Proofs.YtlhcgiegganbpaaDoor
namespace Rows

/-- THE TIED CARD OF 'colloquylaw23.ProcRuns'. -/
def procRunsCard : Claim7 := { stood := { row := procRunsRow, standIns := [], harness := (true, "aa909368e18d01b2e0d4e68a791a6ca0f93f19d529bfd1b9d29ba2a17d8fa303"), looks := true }, kinds := [], alts := [], laidByText := true, laidKinds := [.handle], laidTests := true, laidLooks := .later }
def ProcRunsCardSaid : Prop := Claim7.holds Tryd.pinned (.plain (OpenSpec.ofChange procRunsSpec)) procRunsCard

/-- THE TIED CARD OF 'colloquylaw23.ProcKeeps'. -/
def procKeepsCard : Claim7 := { stood := { row := procKeepsRow, standIns := [], harness := (true, "aa909368e18d01b2e0d4e68a791a6ca0f93f19d529bfd1b9d29ba2a17d8fa303"), looks := true }, kinds := [], alts := [], laidByText := true, laidKinds := [.handle], laidTests := true, laidLooks := .later }
def ProcKeepsCardSaid : Prop := Claim7.holds Tryd.pinned (.plain (OpenSpec.ofChange procKeepsSpec)) procKeepsCard

/-- THE TIED CARD OF 'colloquylaw23.ProcApart'. -/
def procApartCard : Claim7 := { stood := { row := procApartRow, standIns := [], harness := (true, "aa909368e18d01b2e0d4e68a791a6ca0f93f19d529bfd1b9d29ba2a17d8fa303"), looks := true }, kinds := [], alts := [], laidByText := true, laidKinds := [.handle], laidTests := true, laidLooks := .later }
def ProcApartCardSaid : Prop := Claim7.holds Tryd.pinned (.plain (OpenSpec.ofChange procApartSpec)) procApartCard

/-- THE SECOND FORM's CARD OF 'colloquylaw23.ProcRuns'. -/
def procRunsUptoCard : Claim7 := { stood := { row := procRunsUptoRow, standIns := [], harness := (true, "aa909368e18d01b2e0d4e68a791a6ca0f93f19d529bfd1b9d29ba2a17d8fa303"), looks := true }, kinds := [], alts := [], laidByText := true, laidKinds := [.handle], laidTests := true, laidLooks := .later }
def ProcRunsUptoCardSaid : Prop := Claim7.holds Tryd.pinned (.plain (OpenSpec.upto procRunsSpec)) procRunsUptoCard

/-- THE SECOND FORM's CARD OF 'colloquylaw23.ProcKeeps'. -/
def procKeepsUptoCard : Claim7 := { stood := { row := procKeepsUptoRow, standIns := [], harness := (true, "aa909368e18d01b2e0d4e68a791a6ca0f93f19d529bfd1b9d29ba2a17d8fa303"), looks := true }, kinds := [], alts := [], laidByText := true, laidKinds := [.handle], laidTests := true, laidLooks := .later }
def ProcKeepsUptoCardSaid : Prop := Claim7.holds Tryd.pinned (.plain (OpenSpec.upto procKeepsSpec)) procKeepsUptoCard

/-- THE SECOND FORM's CARD OF 'colloquylaw23.ProcApart'. -/
def procApartUptoCard : Claim7 := { stood := { row := procApartUptoRow, standIns := [], harness := (true, "aa909368e18d01b2e0d4e68a791a6ca0f93f19d529bfd1b9d29ba2a17d8fa303"), looks := true }, kinds := [], alts := [], laidByText := true, laidKinds := [.handle], laidTests := true, laidLooks := .later }
def ProcApartUptoCardSaid : Prop := Claim7.holds Tryd.pinned (.plain (OpenSpec.upto procApartSpec)) procApartUptoCard
end Rows
end Go.Proofs.YtlhcgiegganbpaaDoor
