/- The functions that the law reaches, as plain functions of lists and numbers, and that a call of the Go code comes to just their answers; laid by this repo's own program over the seat's translation. Conditions: each contract's own premises. -/
import Derived.Test.YtibkboljoohdfaaDoorProg
import Derived.Test.YtibkboljoohdfaaDoorAs
import Derived.Below
import Derived.Deep.Draws
import Derived.Deep.AppendLies
import Derived.Maps.AppendAt
import Derived.OwnWalk
import Derived.Laws.BytesArg
import Derived.Laws.MakeOwn
import Derived.Laws.OwnMore
import Derived.Deep.OwnRows
import Derived.Tactics
import Derived.Lib.ConvBytes
import Derived.Laws.Slices
import Derived.WalkKit
import Derived.KernelRfl
import Derived.RowKit3
import Derived.Deep.LoopGhost
import Derived.Deep.QuietTactic
import Derived.BigQuiet
import Derived.WideLaws
import Derived.Deep.DeepCutAuto
import Derived.Deep.CutBlock
import Derived.Deep.RegionHeld3
import Derived.Laws.Rows
import Derived.Lib.AppendStr
import Derived.ArgAppend
import Derived.Laws.IdiomCopy
import Derived.OrdersHeld
import Derived.Laws.BitsLemmas
import Derived.RowKit
import Derived.Lib.SliceRun
import Derived.Test.YtibkboljoohdfaaDoorWWords
import Derived.Test.YtibkboljoohdfaaDoorWLast
import Derived.Test.YtibkboljoohdfaaDoorWTab
import Derived.Test.YtibkboljoohdfaaDoorWFour
import Derived.Test.YtibkboljoohdfaaDoorWQPut
import Derived.Test.YtibkboljoohdfaaDoorWApart
import Derived.Test.YtibkboljoohdfaaDoorWArr
import Derived.Test.YtibkboljoohdfaaDoorWZeros
import Derived.Test.YtibkboljoohdfaaDoorWFoot
import Derived.Test.YtibkboljoohdfaaDoorWKept
import Derived.Test.YtibkboljoohdfaaDoorWShare
import Derived.Test.YtibkboljoohdfaaDoorWN
import Derived.Test.YtibkboljoohdfaaDoorWFootNe
import Derived.Test.YtibkboljoohdfaaDoorWAt
import Derived.Test.YtibkboljoohdfaaDoorWEqStruct
import Derived.Test.YtibkboljoohdfaaDoorWRepsOne
import Derived.Test.YtibkboljoohdfaaDoorWInv
import Derived.Test.YtibkboljoohdfaaDoorWInvWords
import Derived.Test.YtibkboljoohdfaaDoorWGuard
import Derived.Test.YtibkboljoohdfaaDoorWNEv
import Derived.Test.YtibkboljoohdfaaDoorWMore
namespace Go.Proofs.YtibkboljoohdfaaDoor.PSmallSums
open Go.RowKit Go.Proofs.YtibkboljoohdfaaDoorW.PrintWords Go.Proofs.YtibkboljoohdfaaDoorW.PrintLast Go.Proofs.YtibkboljoohdfaaDoorW.PrintMore
attribute [local go_sem] max2_int min2_int max_two min_two max_three min_three max_four min_four   -- for this text's walks alone
set_option linter.unusedVariables false
set_option linter.unusedSimpArgs false



def errW : Option Int → Value
  | none => .nilIface
  | some c => .iface 46 (.int .i64 c)
theorem errW_none : errW none = .nilIface := rfl
theorem errW_some (c : Int) : errW (some c) = .iface 46 (.int .i64 c) := rfl

-- the values' own types

end Go.Proofs.YtibkboljoohdfaaDoor.PSmallSums
