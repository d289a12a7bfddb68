-- PRINTED BY print.sh 35421559b90ae4d0a3588c463048766b98c2df88dd9212a6774a882060cdf62d: not written by this session
import Derived.Test.YtpplljcblgnnhaaProg
import Derived.Below
import Derived.Deep.Draws
import Derived.Deep.AppendLies
import Derived.Maps.AppendAt
import Derived.OwnWalk
import Derived.Laws.BytesArg
import Derived.Laws.MakeOwn
import Derived.Laws.OwnMore
import Derived.Deep.OwnRows
import Derived.Tactics
import Derived.Lib.ConvBytes
import Derived.Laws.Slices
import Derived.WalkKit
import Derived.KernelRfl
import Derived.RowKit3
import Derived.Deep.LoopGhost
import Derived.Deep.QuietTactic
import Derived.BigQuiet
import Derived.WideLaws
import Derived.Deep.DeepCutAuto
import Derived.Deep.CutBlock
import Derived.Deep.RegionHeld3
import Derived.Laws.Rows
import Derived.Lib.AppendStr
import Derived.ArgAppend
import Derived.Laws.IdiomCopy
import Derived.OrdersHeld
import Derived.Laws.BitsLemmas
import Derived.RowKit
import Derived.Test.YtpplljcblgnnhaaWWords
import Derived.Test.YtpplljcblgnnhaaWLast
import Derived.Test.YtpplljcblgnnhaaWTab
import Derived.Test.YtpplljcblgnnhaaWFour
import Derived.Test.YtpplljcblgnnhaaWQPut
import Derived.Test.YtpplljcblgnnhaaWApart
import Derived.Test.YtpplljcblgnnhaaWArr
import Derived.Test.YtpplljcblgnnhaaWZeros
import Derived.Test.YtpplljcblgnnhaaWFoot
import Derived.Test.YtpplljcblgnnhaaWKept
import Derived.Test.YtpplljcblgnnhaaWShare
import Derived.Test.YtpplljcblgnnhaaWN
import Derived.Test.YtpplljcblgnnhaaWFootNe
import Derived.Test.YtpplljcblgnnhaaWAt
import Derived.Test.YtpplljcblgnnhaaWEqStruct
import Derived.Test.YtpplljcblgnnhaaWRepsOne
import Derived.Test.YtpplljcblgnnhaaWInv
import Derived.Test.YtpplljcblgnnhaaWInvWords
import Derived.Test.YtpplljcblgnnhaaWGuard
import Derived.Test.YtpplljcblgnnhaaWNEv
import Derived.Test.YtpplljcblgnnhaaWMore
namespace Go.Proofs.Ytpplljcblgnnhaa.PFnExactConstants
open Go.RowKit Go.Proofs.YtpplljcblgnnhaaW.PrintWords Go.Proofs.YtpplljcblgnnhaaW.PrintLast Go.Proofs.YtpplljcblgnnhaaW.PrintMore
attribute [local go_sem] max2_int min2_int max_two min_two max_three min_three max_four min_four   -- for this text's walks alone
set_option linter.unusedVariables false
set_option linter.unusedSimpArgs false



def errW : Option Int → Value
  | none => .nilIface
  | some c => .iface 0 (.int .i64 c)
theorem errW_none : errW none = .nilIface := rfl
theorem errW_some (c : Int) : errW (some c) = .iface 0 (.int .i64 c) := rfl

-- the values' own types

end Go.Proofs.Ytpplljcblgnnhaa.PFnExactConstants
