/- What functions that the interpreter does not cover come to. -/
import Derived.Test.YtffojfcinkihnaaGreatDoorNT
import Derived.Test.YtffojfcinkihnaaGreatDoorAbsC
import Derived.Lib.Bytealg
set_option linter.unusedVariables false
set_option linter.unusedSimpArgs false
set_option linter.unusedSectionVars false
set_option linter.deprecated false
set_option linter.unnecessarySimpa false
namespace Go.Proofs.YtffojfcinkihnaaGreatDoor.Abs
set_option linter.unusedVariables false
def wordsL : List AV := [.str [97, 110, 121], .str [98, 111, 111, 108], .str [99, 111, 109, 112, 117, 116, 101, 100], .str [102, 97, 108, 115, 101], .str [105, 110, 116], .str [110, 111, 110, 101], .str [114, 101, 115, 111, 117, 114, 99, 101], .str [115, 116, 114, 105, 110, 103], .str [116, 114, 117, 101]]
def oNumText : List AV → Option AV
  | [.int .i64 n] => if -9223372036854775808 ≤ n ∧ n ≤ 9223372036854775807 then some (.str (Lib.itoa n)) else none
  | _ => none
def oNameRight : List AV → Option AV
  | [.str s] => some (.bool (Nam.rightV s))
  | _ => none
def oCmp : List AV → Option AV
  | [.str a, .str b] => some (.int .i64 (Lib.compareBytes a b))
  | _ => none
def oNone : List AV → Option AV := fun _ => none
end Go.Proofs.YtffojfcinkihnaaGreatDoor.Abs
