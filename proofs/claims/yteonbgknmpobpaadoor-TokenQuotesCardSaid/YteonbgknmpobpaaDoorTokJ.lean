/- The law TokenQuotes: what stands ahead of the quoted text. -/
import Derived.Test.YteonbgknmpobpaaDoorTokI
namespace Go.Proofs.YteonbgknmpobpaaDoor.TQ5
open Go.RowKit Go.Proofs.YteonbgknmpobpaaDoorW.PrintWords Go.Proofs.YteonbgknmpobpaaDoorW.PrintLast Go.Proofs.YteonbgknmpobpaaDoorW.PrintMore
open Go.Proofs.YteonbgknmpobpaaDoor
open Go.Proofs.YteonbgknmpobpaaDoor.TQ2 (blankF whole)
set_option linter.unusedVariables false

abbrev B := ByteArray
abbrev L8 := List UInt8
def spS : B := ⟨#[32, 9, 10]⟩
def frontB : Nat → B
  | 0 => ⟨#[]⟩
  | n + 1 => frontB n ++ spS.extract (n % 3) (n % 3 + 1)
theorem front_blank (n : Nat) (h : n ≤ 4) : blankF (frontB n).data.toList ∧ (frontB n).data.toList.length = n := by
  rcases (by omega : n = 0 ∨ n = 1 ∨ n = 2 ∨ n = 3 ∨ n = 4) with rfl | rfl | rfl | rfl | rfl
  all_goals (refine ⟨?_, by decide +kernel⟩; unfold blankF; decide +kernel)
end Go.Proofs.YteonbgknmpobpaaDoor.TQ5
