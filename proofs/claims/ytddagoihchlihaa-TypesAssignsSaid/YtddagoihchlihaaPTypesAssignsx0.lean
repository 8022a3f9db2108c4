-- PRINTED BY print.sh 35421559b90ae4d0a3588c463048766b98c2df88dd9212a6774a882060cdf62d: not written by this session
import Derived.Test.YtddagoihchlihaaProg
import Derived.Below
import Derived.Deep.Draws
import Derived.Deep.AppendLies
import Derived.Maps.AppendAt
import Derived.OwnWalk
import Derived.Laws.BytesArg
import Derived.Laws.MakeOwn
import Derived.Laws.OwnMore
import Derived.Deep.OwnRows
import Derived.Tactics
import Derived.Lib.ConvBytes
import Derived.Laws.Slices
import Derived.WalkKit
import Derived.KernelRfl
import Derived.RowKit3
import Derived.Deep.LoopGhost
import Derived.Deep.QuietTactic
import Derived.BigQuiet
import Derived.WideLaws
import Derived.Deep.DeepCutAuto
import Derived.Deep.CutBlock
import Derived.Deep.RegionHeld3
import Derived.Laws.Rows
import Derived.Lib.AppendStr
import Derived.ArgAppend
import Derived.Laws.IdiomCopy
import Derived.OrdersHeld
import Derived.Laws.BitsLemmas
import Derived.RowKit
import Derived.Test.YtddagoihchlihaaWWords
import Derived.Test.YtddagoihchlihaaWLast
import Derived.Test.YtddagoihchlihaaWTab
import Derived.Test.YtddagoihchlihaaWFour
import Derived.Test.YtddagoihchlihaaWQPut
import Derived.Test.YtddagoihchlihaaWApart
import Derived.Test.YtddagoihchlihaaWArr
import Derived.Test.YtddagoihchlihaaWZeros
import Derived.Test.YtddagoihchlihaaWFoot
import Derived.Test.YtddagoihchlihaaWKept
import Derived.Test.YtddagoihchlihaaWShare
import Derived.Test.YtddagoihchlihaaWN
import Derived.Test.YtddagoihchlihaaWFootNe
import Derived.Test.YtddagoihchlihaaWAt
import Derived.Test.YtddagoihchlihaaWEqStruct
import Derived.Test.YtddagoihchlihaaWRepsOne
import Derived.Test.YtddagoihchlihaaWInv
import Derived.Test.YtddagoihchlihaaWInvWords
import Derived.Test.YtddagoihchlihaaWGuard
import Derived.Test.YtddagoihchlihaaWNEv
import Derived.Test.YtddagoihchlihaaWMore
namespace Go.Proofs.Ytddagoihchlihaa.PTypesAssigns
open Go.RowKit Go.Proofs.YtddagoihchlihaaW.PrintWords Go.Proofs.YtddagoihchlihaaW.PrintLast Go.Proofs.YtddagoihchlihaaW.PrintMore
attribute [local go_sem] max2_int min2_int max_two min_two max_three min_three max_four min_four   -- for this text's walks alone
set_option linter.unusedVariables false
set_option linter.unusedSimpArgs false



def errW : Option Int → Value
  | none => .nilIface
  | some c => .iface 0 (.int .i64 c)
theorem errW_none : errW none = .nilIface := rfl
theorem errW_some (c : Int) : errW (some c) = .iface 0 (.int .i64 c) := rfl

-- the values' own types

end Go.Proofs.Ytddagoihchlihaa.PTypesAssigns
