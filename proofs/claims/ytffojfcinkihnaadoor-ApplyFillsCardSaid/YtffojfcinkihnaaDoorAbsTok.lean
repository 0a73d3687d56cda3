/- The tables of this seat hold (printed by gen.py). -/
import Derived.Test.YtffojfcinkihnaaDoorAbsT
import Derived.Test.YtffojfcinkihnaaDoorMD
import Derived.Test.YtffojfcinkihnaaDoorAbsPc
set_option linter.unusedVariables false
set_option linter.unusedSimpArgs false
set_option linter.unusedSectionVars false
set_option linter.deprecated false
set_option linter.unnecessarySimpa false
namespace Go.Proofs.YtffojfcinkihnaaDoor.Abs
set_option maxRecDepth 100000
theorem tabs : tabChk Tryd.prog TT 108 = true := by kernel_rfl
theorem sysOK : SysOK Tryd.prog S := ⟨tabOK_of rfl tabs, by kernel_rfl, orOK, fun f d h => by
  obtain ⟨fn, h1, h2⟩ := Option.bind_eq_some_iff.1 h
  exact ⟨fn, h1, h2⟩⟩
theorem calls {f : Nat} {l : List AV} {r : AV} (h : ωκ S f l = some r) : PC Tryd.prog τ f l r := contract sysOK h
end Go.Proofs.YtffojfcinkihnaaDoor.Abs
