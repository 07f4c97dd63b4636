-- PRINTED BY print.sh 35421559b90ae4d0a3588c463048766b98c2df88dd9212a6774a882060cdf62d: not written by this session
import Derived.Test.YtdlhegdigcdffaaProg
import Derived.Below
import Derived.Deep.Draws
import Derived.Deep.AppendLies
import Derived.Maps.AppendAt
import Derived.OwnWalk
import Derived.Laws.BytesArg
import Derived.Laws.MakeOwn
import Derived.Laws.OwnMore
import Derived.Deep.OwnRows
import Derived.Tactics
import Derived.Lib.ConvBytes
import Derived.Laws.Slices
import Derived.WalkKit
import Derived.KernelRfl
import Derived.RowKit3
import Derived.Deep.LoopGhost
import Derived.Deep.QuietTactic
import Derived.BigQuiet
import Derived.WideLaws
import Derived.Deep.DeepCutAuto
import Derived.Deep.CutBlock
import Derived.Deep.RegionHeld3
import Derived.Laws.Rows
import Derived.Lib.AppendStr
import Derived.ArgAppend
import Derived.Laws.IdiomCopy
import Derived.OrdersHeld
import Derived.Laws.BitsLemmas
import Derived.RowKit
import Derived.Test.YtdlhegdigcdffaaWWords
import Derived.Test.YtdlhegdigcdffaaWLast
import Derived.Test.YtdlhegdigcdffaaWTab
import Derived.Test.YtdlhegdigcdffaaWFour
import Derived.Test.YtdlhegdigcdffaaWQPut
import Derived.Test.YtdlhegdigcdffaaWApart
import Derived.Test.YtdlhegdigcdffaaWArr
import Derived.Test.YtdlhegdigcdffaaWZeros
import Derived.Test.YtdlhegdigcdffaaWFoot
import Derived.Test.YtdlhegdigcdffaaWKept
import Derived.Test.YtdlhegdigcdffaaWShare
import Derived.Test.YtdlhegdigcdffaaWN
import Derived.Test.YtdlhegdigcdffaaWFootNe
import Derived.Test.YtdlhegdigcdffaaWAt
import Derived.Test.YtdlhegdigcdffaaWEqStruct
import Derived.Test.YtdlhegdigcdffaaWRepsOne
import Derived.Test.YtdlhegdigcdffaaWInv
import Derived.Test.YtdlhegdigcdffaaWInvWords
import Derived.Test.YtdlhegdigcdffaaWGuard
import Derived.Test.YtdlhegdigcdffaaWNEv
import Derived.Test.YtdlhegdigcdffaaWMore
namespace Go.Proofs.Ytdlhegdigcdffaa.PFnExactIsPrime
open Go.RowKit Go.Proofs.YtdlhegdigcdffaaW.PrintWords Go.Proofs.YtdlhegdigcdffaaW.PrintLast Go.Proofs.YtdlhegdigcdffaaW.PrintMore
attribute [local go_sem] max2_int min2_int max_two min_two max_three min_three max_four min_four   -- for this text's walks alone
set_option linter.unusedVariables false
set_option linter.unusedSimpArgs false



def errW : Option Int → Value
  | none => .nilIface
  | some c => .iface 0 (.int .i64 c)
theorem errW_none : errW none = .nilIface := rfl
theorem errW_some (c : Int) : errW (some c) = .iface 0 (.int .i64 c) := rfl

-- the values' own types

end Go.Proofs.Ytdlhegdigcdffaa.PFnExactIsPrime
