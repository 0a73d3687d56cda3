/-
  DERIVED. GIVEN WITH THE SEED: THE CARDS: each row of YtffojfcinkihnaaDoorRows.lean that lists a variable, with what it lists TIED to the program's text (the seventh form; the later family's looks); each row that meets fmt, with fmt's text TOLD by the authors' own Lean function (tested against real Go, not proved from fmt's source: count such statements apart). THE CARD IS WHAT COUNTS. Prove the row's statement (the work); the ties are given (YtffojfcinkihnaaDoorTie.lean); close each card by the builder's one call (the guide's Derived/Test/ToyasCard.lean, 'card_holds'). Laid BY PROGRAM, IN A SANDBOX (cutbox-door.mjs). By AI agents, Wed Nov 11 2026. No macro, syntax, notation, axiom, sorry.
-/
import Derived.Test.YtffojfcinkihnaaDoorRows
import GoSem.ClaimSeven
namespace Go.Proofs.YtffojfcinkihnaaDoor
namespace Rows

/-- THE TIED CARD OF 'treillagelaw35.ApplyFills'. -/
def applyFillsCard : Claim7 := { stood := { row := applyFillsRow, standIns := [], harness := (true, "ad5d8790ce466af90d3e6d52d212b7419b0f6f8d8ccbd41dbbeb7f6a7b8b7cd5"), looks := false }, kinds := [], alts := [], laidByText := true, laidKinds := [.data], laidTests := true, laidLooks := .later }
def ApplyFillsCardSaid : Prop := Claim7.holds Tryd.pinned (.plain (OpenSpec.ofChange applyFillsSpec)) applyFillsCard

/-- THE SECOND FORM's CARD OF 'treillagelaw35.ApplyFills'. -/
def applyFillsUptoCard : Claim7 := { stood := { row := applyFillsUptoRow, standIns := [], harness := (true, "ad5d8790ce466af90d3e6d52d212b7419b0f6f8d8ccbd41dbbeb7f6a7b8b7cd5"), looks := false }, kinds := [], alts := [], laidByText := true, laidKinds := [.data], laidTests := true, laidLooks := .later }
def ApplyFillsUptoCardSaid : Prop := Claim7.holds Tryd.pinned (.plain (OpenSpec.upto applyFillsSpec)) applyFillsUptoCard
end Rows
end Go.Proofs.YtffojfcinkihnaaDoor
