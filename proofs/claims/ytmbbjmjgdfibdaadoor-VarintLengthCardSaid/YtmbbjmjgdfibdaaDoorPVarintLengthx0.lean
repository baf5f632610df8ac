/- The functions that the law reaches, as plain functions of lists and numbers, and that a call of the Go code comes to just their answers; laid by this repo's own program over the seat's translation. Conditions: each contract's own premises. -/
import Derived.Test.YtmbbjmjgdfibdaaDoorProg
import Derived.Test.YtmbbjmjgdfibdaaDoorAs
import Derived.Below
import Derived.Deep.Draws
import Derived.Deep.AppendLies
import Derived.Maps.AppendAt
import Derived.OwnWalk
import Derived.Laws.BytesArg
import Derived.Laws.MakeOwn
import Derived.Laws.OwnMore
import Derived.Deep.OwnRows
import Derived.Tactics
import Derived.Lib.ConvBytes
import Derived.Laws.Slices
import Derived.WalkKit
import Derived.KernelRfl
import Derived.RowKit3
import Derived.Deep.LoopGhost
import Derived.Deep.QuietTactic
import Derived.BigQuiet
import Derived.WideLaws
import Derived.Deep.DeepCutAuto
import Derived.Deep.CutBlock
import Derived.Deep.RegionHeld3
import Derived.Laws.Rows
import Derived.Lib.AppendStr
import Derived.ArgAppend
import Derived.Laws.IdiomCopy
import Derived.OrdersHeld
import Derived.Laws.BitsLemmas
import Derived.RowKit
import Derived.Lib.SliceRun
import Derived.Test.YtmbbjmjgdfibdaaDoorWWords
import Derived.Test.YtmbbjmjgdfibdaaDoorWLast
import Derived.Test.YtmbbjmjgdfibdaaDoorWTab
import Derived.Test.YtmbbjmjgdfibdaaDoorWFour
import Derived.Test.YtmbbjmjgdfibdaaDoorWQPut
import Derived.Test.YtmbbjmjgdfibdaaDoorWApart
import Derived.Test.YtmbbjmjgdfibdaaDoorWArr
import Derived.Test.YtmbbjmjgdfibdaaDoorWZeros
import Derived.Test.YtmbbjmjgdfibdaaDoorWFoot
import Derived.Test.YtmbbjmjgdfibdaaDoorWKept
import Derived.Test.YtmbbjmjgdfibdaaDoorWShare
import Derived.Test.YtmbbjmjgdfibdaaDoorWN
import Derived.Test.YtmbbjmjgdfibdaaDoorWFootNe
import Derived.Test.YtmbbjmjgdfibdaaDoorWAt
import Derived.Test.YtmbbjmjgdfibdaaDoorWEqStruct
import Derived.Test.YtmbbjmjgdfibdaaDoorWRepsOne
import Derived.Test.YtmbbjmjgdfibdaaDoorWInv
import Derived.Test.YtmbbjmjgdfibdaaDoorWInvWords
import Derived.Test.YtmbbjmjgdfibdaaDoorWGuard
import Derived.Test.YtmbbjmjgdfibdaaDoorWNEv
import Derived.Test.YtmbbjmjgdfibdaaDoorWMore
namespace Go.Proofs.YtmbbjmjgdfibdaaDoor.PVarintLength
open Go.RowKit Go.Proofs.YtmbbjmjgdfibdaaDoorW.PrintWords Go.Proofs.YtmbbjmjgdfibdaaDoorW.PrintLast Go.Proofs.YtmbbjmjgdfibdaaDoorW.PrintMore
attribute [local go_sem] max2_int min2_int max_two min_two max_three min_three max_four min_four   -- for this text's walks alone
set_option linter.unusedVariables false
set_option linter.unusedSimpArgs false



def errW : Option Int → Value
  | none => .nilIface
  | some c => .iface 39 (.int .i64 c)
theorem errW_none : errW none = .nilIface := rfl
theorem errW_some (c : Int) : errW (some c) = .iface 39 (.int .i64 c) := rfl

theorem info5 : (Tryd.prog.info? 5).map (fun i => (i.zero, i.size, i.bytes)) = some (some (.int .u8 0), 1, 1) := by kernel_rfl
-- the values' own types

end Go.Proofs.YtmbbjmjgdfibdaaDoor.PVarintLength
