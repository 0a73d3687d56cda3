/- The document's order of points. -/
import Derived.Test.YtffojfcinkihnaaGreatDoorLD
import Derived.Test.YtffojfcinkihnaaGreatDoorGB
set_option linter.unusedVariables false
set_option linter.unusedSimpArgs false
set_option linter.unusedSectionVars false
set_option linter.deprecated false
set_option linter.unnecessarySimpa false
namespace Go.Proofs.YtffojfcinkihnaaGreatDoor.Lat
open Go.Proofs.YtffojfcinkihnaaGreatDoor.Abs
set_option linter.unusedVariables false
section
variable (N : List Bs) (E : List (Bs × Bs)) (hN : N.length ≤ 1048576) (hE : E.length ≤ 1048576)
include hN hE
/-- What is out so far. -/
structure OutOK (O : List Bs) : Prop where
  nd : O.Nodup
  sub : ∀ x ∈ O, x ∈ N
  pre : ∀ (i : Nat) (k : Bs), O[i]? = some k → ∀ y, (k, y) ∈ E → y ∈ O.take i
def Stuck (O : List Bs) : Prop := ∀ p ∈ N, p ∉ O → ∃ y, (p, y) ∈ E ∧ y ∉ O
end
end Go.Proofs.YtffojfcinkihnaaGreatDoor.Lat
