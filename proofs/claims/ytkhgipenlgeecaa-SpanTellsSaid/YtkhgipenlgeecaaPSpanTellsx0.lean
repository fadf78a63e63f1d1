-- Out of a turned copy of the kit's print.
import Derived.Test.YtkhgipenlgeecaaProg
import Derived.Below
import Derived.Deep.Draws
import Derived.Deep.AppendLies
import Derived.Maps.AppendAt
import Derived.OwnWalk
import Derived.Laws.BytesArg
import Derived.Laws.MakeOwn
import Derived.Laws.OwnMore
import Derived.Deep.OwnRows
import Derived.Tactics
import Derived.Lib.ConvBytes
import Derived.Laws.Slices
import Derived.WalkKit
import Derived.KernelRfl
import Derived.RowKit3
import Derived.Deep.LoopGhost
import Derived.Deep.QuietTactic
import Derived.BigQuiet
import Derived.WideLaws
import Derived.Deep.DeepCutAuto
import Derived.Deep.CutBlock
import Derived.Deep.RegionHeld3
import Derived.Laws.Rows
import Derived.Lib.AppendStr
import Derived.ArgAppend
import Derived.Laws.IdiomCopy
import Derived.OrdersHeld
import Derived.Laws.BitsLemmas
import Derived.RowKit
import Derived.Test.YtkhgipenlgeecaaWWords
import Derived.Test.YtkhgipenlgeecaaWLast
import Derived.Test.YtkhgipenlgeecaaWTab
import Derived.Test.YtkhgipenlgeecaaWFour
import Derived.Test.YtkhgipenlgeecaaWQPut
import Derived.Test.YtkhgipenlgeecaaWApart
import Derived.Test.YtkhgipenlgeecaaWArr
import Derived.Test.YtkhgipenlgeecaaWZeros
import Derived.Test.YtkhgipenlgeecaaWFoot
import Derived.Test.YtkhgipenlgeecaaWKept
import Derived.Test.YtkhgipenlgeecaaWShare
import Derived.Test.YtkhgipenlgeecaaWN
import Derived.Test.YtkhgipenlgeecaaWFootNe
import Derived.Test.YtkhgipenlgeecaaWAt
import Derived.Test.YtkhgipenlgeecaaWEqStruct
import Derived.Test.YtkhgipenlgeecaaWRepsOne
import Derived.Test.YtkhgipenlgeecaaWInv
import Derived.Test.YtkhgipenlgeecaaWInvWords
import Derived.Test.YtkhgipenlgeecaaWGuard
import Derived.Test.YtkhgipenlgeecaaWNEv
import Derived.Test.YtkhgipenlgeecaaWMore
namespace Go.Proofs.Ytkhgipenlgeecaa.PSpanTells
open Go.RowKit Go.Proofs.YtkhgipenlgeecaaW.PrintWords Go.Proofs.YtkhgipenlgeecaaW.PrintLast Go.Proofs.YtkhgipenlgeecaaW.PrintMore
attribute [local go_sem] max2_int min2_int max_two min_two max_three min_three max_four min_four   -- for this text's walks alone
set_option linter.unusedVariables false
set_option linter.unusedSimpArgs false



def errW : Option Int → Value
  | none => .nilIface
  | some c => .iface 0 (.int .i64 c)
theorem errW_none : errW none = .nilIface := rfl
theorem errW_some (c : Int) : errW (some c) = .iface 0 (.int .i64 c) := rfl

-- the values' own types

end Go.Proofs.Ytkhgipenlgeecaa.PSpanTells
