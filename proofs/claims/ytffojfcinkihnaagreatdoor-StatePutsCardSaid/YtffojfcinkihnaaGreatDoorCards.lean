/-
  DERIVED. GIVEN WITH THE SEED: THE CARDS: each row of YtffojfcinkihnaaGreatDoorRows.lean that lists a variable, with what it lists TIED to the program's text (the seventh form; the later family's looks); each row that meets fmt, with fmt's text TOLD by the authors' own Lean function (tested against real Go, not proved from fmt's source: count such statements apart). THE CARD IS WHAT COUNTS. Prove the row's statement (the work); the ties are given (YtffojfcinkihnaaGreatDoorTie.lean); close each card by the builder's one call (the guide's Derived/Test/ToyasCard.lean, 'card_holds'). Laid BY PROGRAM, IN A SANDBOX (cutbox-door.mjs). By AI agents, Wed Nov 11 2026. No macro, syntax, notation, axiom, sorry.
-/
import Derived.Test.YtffojfcinkihnaaGreatDoorRows
import GoSem.ClaimSeven
namespace Go.Proofs.YtffojfcinkihnaaGreatDoor
namespace Rows

/-- THE TIED CARD OF 'treillagelaw30.StatePuts'. -/
def statePutsCard : Claim7 := { stood := { row := statePutsRow, standIns := [], harness := (true, "37e4acc5e16c8c17e93ba356340c25800e2e16945a3412866f17168bdae1d9e1"), looks := false }, kinds := [], alts := [], laidByText := true, laidKinds := [.data], laidTests := true, laidLooks := .later }
def StatePutsCardSaid : Prop := Claim7.holds Tryz.pinned (.plain (OpenSpec.ofChange statePutsSpec)) statePutsCard

/-- THE TIED CARD OF 'treillagelaw30.StateRights'. -/
def stateRightsCard : Claim7 := { stood := { row := stateRightsRow, standIns := [], harness := (true, "37e4acc5e16c8c17e93ba356340c25800e2e16945a3412866f17168bdae1d9e1"), looks := false }, kinds := [], alts := [], laidByText := true, laidKinds := [.data], laidTests := true, laidLooks := .later }
def StateRightsCardSaid : Prop := Claim7.holds Tryz.pinned (.plain (OpenSpec.ofChange stateRightsSpec)) stateRightsCard

/-- THE TIED CARD OF 'treillagelaw35.ApplyDoes'. -/
def applyDoesCard : Claim7 := { stood := { row := applyDoesRow, standIns := [], harness := (true, "37e4acc5e16c8c17e93ba356340c25800e2e16945a3412866f17168bdae1d9e1"), looks := false }, kinds := [], alts := [], laidByText := true, laidKinds := [.data], laidTests := true, laidLooks := .later }
def ApplyDoesCardSaid : Prop := Claim7.holds Tryz.pinned (.plain (OpenSpec.ofChange applyDoesSpec)) applyDoesCard

/-- THE SECOND FORM's CARD OF 'treillagelaw30.StatePuts'. -/
def statePutsUptoCard : Claim7 := { stood := { row := statePutsUptoRow, standIns := [], harness := (true, "37e4acc5e16c8c17e93ba356340c25800e2e16945a3412866f17168bdae1d9e1"), looks := false }, kinds := [], alts := [], laidByText := true, laidKinds := [.data], laidTests := true, laidLooks := .later }
def StatePutsUptoCardSaid : Prop := Claim7.holds Tryz.pinned (.plain (OpenSpec.upto statePutsSpec)) statePutsUptoCard

/-- THE SECOND FORM's CARD OF 'treillagelaw30.StateRights'. -/
def stateRightsUptoCard : Claim7 := { stood := { row := stateRightsUptoRow, standIns := [], harness := (true, "37e4acc5e16c8c17e93ba356340c25800e2e16945a3412866f17168bdae1d9e1"), looks := false }, kinds := [], alts := [], laidByText := true, laidKinds := [.data], laidTests := true, laidLooks := .later }
def StateRightsUptoCardSaid : Prop := Claim7.holds Tryz.pinned (.plain (OpenSpec.upto stateRightsSpec)) stateRightsUptoCard

/-- THE SECOND FORM's CARD OF 'treillagelaw35.ApplyDoes'. -/
def applyDoesUptoCard : Claim7 := { stood := { row := applyDoesUptoRow, standIns := [], harness := (true, "37e4acc5e16c8c17e93ba356340c25800e2e16945a3412866f17168bdae1d9e1"), looks := false }, kinds := [], alts := [], laidByText := true, laidKinds := [.data], laidTests := true, laidLooks := .later }
def ApplyDoesUptoCardSaid : Prop := Claim7.holds Tryz.pinned (.plain (OpenSpec.upto applyDoesSpec)) applyDoesUptoCard
end Rows
end Go.Proofs.YtffojfcinkihnaaGreatDoor
