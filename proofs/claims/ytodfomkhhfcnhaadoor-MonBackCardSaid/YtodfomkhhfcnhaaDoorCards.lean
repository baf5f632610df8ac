/-
  DERIVED. GIVEN WITH THE SEED: THE CARDS: each row of YtodfomkhhfcnhaaDoorRows.lean that lists a variable, with what it lists TIED to the program's text (the seventh form; the later family's looks); each row that meets fmt, with fmt's text TOLD by the authors' own Lean function (tested against real Go, not proved from fmt's source: count such statements apart). THE CARD IS WHAT COUNTS. Prove the row's statement (the work); the ties are given (YtodfomkhhfcnhaaDoorTie.lean); close each card by the builder's one call (the guide's Derived/Test/ToyasCard.lean, 'card_holds'). Laid BY PROGRAM, IN A SANDBOX (cutbox-door.mjs). By AI agents, Wed Nov 11 2026. No macro, syntax, notation, axiom, sorry.
-/
import Derived.Test.YtodfomkhhfcnhaaDoorRows
import GoSem.ClaimSeven
namespace Go.Proofs.YtodfomkhhfcnhaaDoor
namespace Rows

/-- THE TIED CARD OF 'colloquylaw20.MonTells'. -/
def monTellsCard : Claim7 := { stood := { row := monTellsRow, standIns := [], harness := (true, "a867ecacf9ea7cce418fd67316155c53726ba8083aeea446d74c5bc6f7118f33"), looks := true }, kinds := [], alts := [], laidByText := true, laidKinds := [.handle], laidTests := true, laidLooks := .later }
def MonTellsCardSaid : Prop := Claim7.holds Tryd.pinned (.plain (OpenSpec.ofChange monTellsSpec)) monTellsCard

/-- THE TIED CARD OF 'colloquylaw20.MonBack'. -/
def monBackCard : Claim7 := { stood := { row := monBackRow, standIns := [], harness := (true, "a867ecacf9ea7cce418fd67316155c53726ba8083aeea446d74c5bc6f7118f33"), looks := true }, kinds := [], alts := [], laidByText := true, laidKinds := [.handle], laidTests := true, laidLooks := .later }
def MonBackCardSaid : Prop := Claim7.holds Tryd.pinned (.plain (OpenSpec.ofChange monBackSpec)) monBackCard

/-- THE TIED CARD OF 'colloquylaw20.MonRises'. -/
def monRisesCard : Claim7 := { stood := { row := monRisesRow, standIns := [], harness := (true, "a867ecacf9ea7cce418fd67316155c53726ba8083aeea446d74c5bc6f7118f33"), looks := true }, kinds := [], alts := [], laidByText := true, laidKinds := [.handle], laidTests := true, laidLooks := .later }
def MonRisesCardSaid : Prop := Claim7.holds Tryd.pinned (.plain (OpenSpec.ofChange monRisesSpec)) monRisesCard

/-- THE TIED CARD OF 'colloquylaw20.MonJoins'. -/
def monJoinsCard : Claim7 := { stood := { row := monJoinsRow, standIns := [], harness := (true, "a867ecacf9ea7cce418fd67316155c53726ba8083aeea446d74c5bc6f7118f33"), looks := true }, kinds := [], alts := [], laidByText := true, laidKinds := [.handle], laidTests := true, laidLooks := .later }
def MonJoinsCardSaid : Prop := Claim7.holds Tryd.pinned (.plain (OpenSpec.ofChange monJoinsSpec)) monJoinsCard

/-- THE SECOND FORM's CARD OF 'colloquylaw20.MonTells'. -/
def monTellsUptoCard : Claim7 := { stood := { row := monTellsUptoRow, standIns := [], harness := (true, "a867ecacf9ea7cce418fd67316155c53726ba8083aeea446d74c5bc6f7118f33"), looks := true }, kinds := [], alts := [], laidByText := true, laidKinds := [.handle], laidTests := true, laidLooks := .later }
def MonTellsUptoCardSaid : Prop := Claim7.holds Tryd.pinned (.plain (OpenSpec.upto monTellsSpec)) monTellsUptoCard

/-- THE SECOND FORM's CARD OF 'colloquylaw20.MonBack'. -/
def monBackUptoCard : Claim7 := { stood := { row := monBackUptoRow, standIns := [], harness := (true, "a867ecacf9ea7cce418fd67316155c53726ba8083aeea446d74c5bc6f7118f33"), looks := true }, kinds := [], alts := [], laidByText := true, laidKinds := [.handle], laidTests := true, laidLooks := .later }
def MonBackUptoCardSaid : Prop := Claim7.holds Tryd.pinned (.plain (OpenSpec.upto monBackSpec)) monBackUptoCard

/-- THE SECOND FORM's CARD OF 'colloquylaw20.MonRises'. -/
def monRisesUptoCard : Claim7 := { stood := { row := monRisesUptoRow, standIns := [], harness := (true, "a867ecacf9ea7cce418fd67316155c53726ba8083aeea446d74c5bc6f7118f33"), looks := true }, kinds := [], alts := [], laidByText := true, laidKinds := [.handle], laidTests := true, laidLooks := .later }
def MonRisesUptoCardSaid : Prop := Claim7.holds Tryd.pinned (.plain (OpenSpec.upto monRisesSpec)) monRisesUptoCard

/-- THE SECOND FORM's CARD OF 'colloquylaw20.MonJoins'. -/
def monJoinsUptoCard : Claim7 := { stood := { row := monJoinsUptoRow, standIns := [], harness := (true, "a867ecacf9ea7cce418fd67316155c53726ba8083aeea446d74c5bc6f7118f33"), looks := true }, kinds := [], alts := [], laidByText := true, laidKinds := [.handle], laidTests := true, laidLooks := .later }
def MonJoinsUptoCardSaid : Prop := Claim7.holds Tryd.pinned (.plain (OpenSpec.upto monJoinsSpec)) monJoinsUptoCard
end Rows
end Go.Proofs.YtodfomkhhfcnhaaDoor
