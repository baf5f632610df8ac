/- The functions that the law reaches, as plain functions of lists and numbers, and that a call of the Go code comes to just their answers; laid by this repo's own program over the seat's translation. Conditions: each contract's own premises. -/
import Derived.Test.YtdggcbmghmfmkaaDoorProg
import Derived.Test.YtdggcbmghmfmkaaDoorAs
import Derived.Test.YtdggcbmghmfmkaaDoorIdx
import Derived.Below
import Derived.Deep.Draws
import Derived.Deep.AppendLies
import Derived.Maps.AppendAt
import Derived.OwnWalk
import Derived.Laws.BytesArg
import Derived.Laws.MakeOwn
import Derived.Laws.OwnMore
import Derived.Deep.OwnRows
import Derived.Tactics
import Derived.Lib.ConvBytes
import Derived.Laws.Slices
import Derived.WalkKit
import Derived.KernelRfl
import Derived.RowKit3
import Derived.Deep.LoopGhost
import Derived.Deep.QuietTactic
import Derived.BigQuiet
import Derived.WideLaws
import Derived.Deep.DeepCutAuto
import Derived.Deep.CutBlock
import Derived.Deep.RegionHeld3
import Derived.Laws.Rows
import Derived.Lib.AppendStr
import Derived.ArgAppend
import Derived.Laws.IdiomCopy
import Derived.OrdersHeld
import Derived.Laws.BitsLemmas
import Derived.RowKit
import Derived.Lib.SliceRun
import Derived.Test.YtdggcbmghmfmkaaDoorWWords
import Derived.Test.YtdggcbmghmfmkaaDoorWLast
import Derived.Test.YtdggcbmghmfmkaaDoorWTab
import Derived.Test.YtdggcbmghmfmkaaDoorWFour
import Derived.Test.YtdggcbmghmfmkaaDoorWQPut
import Derived.Test.YtdggcbmghmfmkaaDoorWApart
import Derived.Test.YtdggcbmghmfmkaaDoorWArr
import Derived.Test.YtdggcbmghmfmkaaDoorWZeros
import Derived.Test.YtdggcbmghmfmkaaDoorWFoot
import Derived.Test.YtdggcbmghmfmkaaDoorWKept
import Derived.Test.YtdggcbmghmfmkaaDoorWShare
import Derived.Test.YtdggcbmghmfmkaaDoorWN
import Derived.Test.YtdggcbmghmfmkaaDoorWFootNe
import Derived.Test.YtdggcbmghmfmkaaDoorWAt
import Derived.Test.YtdggcbmghmfmkaaDoorWEqStruct
import Derived.Test.YtdggcbmghmfmkaaDoorWRepsOne
import Derived.Test.YtdggcbmghmfmkaaDoorWInv
import Derived.Test.YtdggcbmghmfmkaaDoorWInvWords
import Derived.Test.YtdggcbmghmfmkaaDoorWGuard
import Derived.Test.YtdggcbmghmfmkaaDoorWNEv
import Derived.Test.YtdggcbmghmfmkaaDoorWMore
namespace Go.Proofs.YtdggcbmghmfmkaaDoor.PLatticeSame
open Go.RowKit Go.Proofs.YtdggcbmghmfmkaaDoorW.PrintWords Go.Proofs.YtdggcbmghmfmkaaDoorW.PrintLast Go.Proofs.YtdggcbmghmfmkaaDoorW.PrintMore
attribute [local go_sem] max2_int min2_int max_two min_two max_three min_three max_four min_four   -- for this text's walks alone
set_option linter.unusedVariables false
set_option linter.unusedSimpArgs false



def errW : Option Int → Value
  | none => .nilIface
  | some c => .iface 41 (.int .i64 c)
theorem errW_none : errW none = .nilIface := rfl
theorem errW_some (c : Int) : errW (some c) = .iface 41 (.int .i64 c) := rfl

theorem info5 : (Tryd.prog.info? 5).map (fun i => (i.zero, i.size, i.bytes)) = some (some (.int .u8 0), 1, 1) := by kernel_rfl
-- the values' own types

end Go.Proofs.YtdggcbmghmfmkaaDoor.PLatticeSame
