-- PRINTED BY print.sh 35421559b90ae4d0a3588c463048766b98c2df88dd9212a6774a882060cdf62d: not written by this session
import Derived.Test.YteonbgknmpobpaaProg
import Derived.Below
import Derived.Deep.Draws
import Derived.Deep.AppendLies
import Derived.Maps.AppendAt
import Derived.OwnWalk
import Derived.Laws.BytesArg
import Derived.Laws.MakeOwn
import Derived.Laws.OwnMore
import Derived.Deep.OwnRows
import Derived.Tactics
import Derived.Lib.ConvBytes
import Derived.Laws.Slices
import Derived.WalkKit
import Derived.KernelRfl
import Derived.RowKit3
import Derived.Deep.LoopGhost
import Derived.Deep.QuietTactic
import Derived.BigQuiet
import Derived.WideLaws
import Derived.Deep.DeepCutAuto
import Derived.Deep.CutBlock
import Derived.Deep.RegionHeld3
import Derived.Laws.Rows
import Derived.Lib.AppendStr
import Derived.ArgAppend
import Derived.Laws.IdiomCopy
import Derived.OrdersHeld
import Derived.Laws.BitsLemmas
import Derived.RowKit
import Derived.Test.YteonbgknmpobpaaWWords
import Derived.Test.YteonbgknmpobpaaWLast
import Derived.Test.YteonbgknmpobpaaWTab
import Derived.Test.YteonbgknmpobpaaWFour
import Derived.Test.YteonbgknmpobpaaWQPut
import Derived.Test.YteonbgknmpobpaaWApart
import Derived.Test.YteonbgknmpobpaaWArr
import Derived.Test.YteonbgknmpobpaaWZeros
import Derived.Test.YteonbgknmpobpaaWFoot
import Derived.Test.YteonbgknmpobpaaWKept
import Derived.Test.YteonbgknmpobpaaWShare
import Derived.Test.YteonbgknmpobpaaWN
import Derived.Test.YteonbgknmpobpaaWFootNe
import Derived.Test.YteonbgknmpobpaaWAt
import Derived.Test.YteonbgknmpobpaaWEqStruct
import Derived.Test.YteonbgknmpobpaaWRepsOne
import Derived.Test.YteonbgknmpobpaaWInv
import Derived.Test.YteonbgknmpobpaaWInvWords
import Derived.Test.YteonbgknmpobpaaWGuard
import Derived.Test.YteonbgknmpobpaaWNEv
import Derived.Test.YteonbgknmpobpaaWMore
namespace Go.Proofs.Yteonbgknmpobpaa.PDiceRolls
open Go.RowKit Go.Proofs.YteonbgknmpobpaaW.PrintWords Go.Proofs.YteonbgknmpobpaaW.PrintLast Go.Proofs.YteonbgknmpobpaaW.PrintMore
attribute [local go_sem] max2_int min2_int max_two min_two max_three min_three max_four min_four   -- for this text's walks alone
set_option linter.unusedVariables false
set_option linter.unusedSimpArgs false



def errW : Option Int → Value
  | none => .nilIface
  | some c => .iface 0 (.int .i64 c)
theorem errW_none : errW none = .nilIface := rfl
theorem errW_some (c : Int) : errW (some c) = .iface 0 (.int .i64 c) := rfl

-- the values' own types

end Go.Proofs.Yteonbgknmpobpaa.PDiceRolls
