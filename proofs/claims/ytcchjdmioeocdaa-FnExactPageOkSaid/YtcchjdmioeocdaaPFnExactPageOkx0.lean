-- PRINTED BY print.sh 35421559b90ae4d0a3588c463048766b98c2df88dd9212a6774a882060cdf62d: not written by this session
import Derived.Test.YtcchjdmioeocdaaProg
import Derived.Below
import Derived.Deep.Draws
import Derived.Deep.AppendLies
import Derived.Maps.AppendAt
import Derived.OwnWalk
import Derived.Laws.BytesArg
import Derived.Laws.MakeOwn
import Derived.Laws.OwnMore
import Derived.Deep.OwnRows
import Derived.Tactics
import Derived.Lib.ConvBytes
import Derived.Laws.Slices
import Derived.WalkKit
import Derived.KernelRfl
import Derived.RowKit3
import Derived.Deep.LoopGhost
import Derived.Deep.QuietTactic
import Derived.BigQuiet
import Derived.WideLaws
import Derived.Deep.DeepCutAuto
import Derived.Deep.CutBlock
import Derived.Deep.RegionHeld3
import Derived.Laws.Rows
import Derived.Lib.AppendStr
import Derived.ArgAppend
import Derived.Laws.IdiomCopy
import Derived.OrdersHeld
import Derived.Laws.BitsLemmas
import Derived.RowKit
import Derived.Test.YtcchjdmioeocdaaWWords
import Derived.Test.YtcchjdmioeocdaaWLast
import Derived.Test.YtcchjdmioeocdaaWTab
import Derived.Test.YtcchjdmioeocdaaWFour
import Derived.Test.YtcchjdmioeocdaaWQPut
import Derived.Test.YtcchjdmioeocdaaWApart
import Derived.Test.YtcchjdmioeocdaaWArr
import Derived.Test.YtcchjdmioeocdaaWZeros
import Derived.Test.YtcchjdmioeocdaaWFoot
import Derived.Test.YtcchjdmioeocdaaWKept
import Derived.Test.YtcchjdmioeocdaaWShare
import Derived.Test.YtcchjdmioeocdaaWN
import Derived.Test.YtcchjdmioeocdaaWFootNe
import Derived.Test.YtcchjdmioeocdaaWAt
import Derived.Test.YtcchjdmioeocdaaWEqStruct
import Derived.Test.YtcchjdmioeocdaaWRepsOne
import Derived.Test.YtcchjdmioeocdaaWInv
import Derived.Test.YtcchjdmioeocdaaWInvWords
import Derived.Test.YtcchjdmioeocdaaWGuard
import Derived.Test.YtcchjdmioeocdaaWNEv
import Derived.Test.YtcchjdmioeocdaaWMore
namespace Go.Proofs.Ytcchjdmioeocdaa.PFnExactPageOk
open Go.RowKit Go.Proofs.YtcchjdmioeocdaaW.PrintWords Go.Proofs.YtcchjdmioeocdaaW.PrintLast Go.Proofs.YtcchjdmioeocdaaW.PrintMore
attribute [local go_sem] max2_int min2_int max_two min_two max_three min_three max_four min_four   -- for this text's walks alone
set_option linter.unusedVariables false
set_option linter.unusedSimpArgs false



def errW : Option Int → Value
  | none => .nilIface
  | some c => .iface 0 (.int .i64 c)
theorem errW_none : errW none = .nilIface := rfl
theorem errW_some (c : Int) : errW (some c) = .iface 0 (.int .i64 c) := rfl

-- the values' own types

end Go.Proofs.Ytcchjdmioeocdaa.PFnExactPageOk
