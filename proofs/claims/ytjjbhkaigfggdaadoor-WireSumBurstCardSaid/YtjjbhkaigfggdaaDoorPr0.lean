/- The contracts of functions, written by this session's program (wip/pp.py): what the list functions answer, the code comes to. No condition. -/
import Derived.Test.YtjjbhkaigfggdaaDoorProg
import Derived.Below
import Derived.Deep.Draws
import Derived.Deep.AppendLies
import Derived.Maps.AppendAt
import Derived.OwnWalk
import Derived.Laws.BytesArg
import Derived.Laws.MakeOwn
import Derived.Laws.OwnMore
import Derived.Deep.OwnRows
import Derived.Tactics
import Derived.Lib.ConvBytes
import Derived.Laws.Slices
import Derived.WalkKit
import Derived.KernelRfl
import Derived.RowKit3
import Derived.Deep.LoopGhost
import Derived.Deep.QuietTactic
import Derived.BigQuiet
import Derived.WideLaws
import Derived.Deep.DeepCutAuto
import Derived.Deep.CutBlock
import Derived.Deep.RegionHeld3
import Derived.Laws.Rows
import Derived.Lib.AppendStr
import Derived.ArgAppend
import Derived.Laws.IdiomCopy
import Derived.OrdersHeld
import Derived.Laws.BitsLemmas
import Derived.RowKit
import Derived.Test.YtjjbhkaigfggdaaDoorWire3
import Derived.Test.YtjjbhkaigfggdaaDoorWWords
import Derived.Test.YtjjbhkaigfggdaaDoorWLast
import Derived.Test.YtjjbhkaigfggdaaDoorWTab
import Derived.Test.YtjjbhkaigfggdaaDoorWFour
import Derived.Test.YtjjbhkaigfggdaaDoorWQPut
import Derived.Test.YtjjbhkaigfggdaaDoorWApart
import Derived.Test.YtjjbhkaigfggdaaDoorWArr
import Derived.Test.YtjjbhkaigfggdaaDoorWZeros
import Derived.Test.YtjjbhkaigfggdaaDoorWFoot
import Derived.Test.YtjjbhkaigfggdaaDoorWKept
import Derived.Test.YtjjbhkaigfggdaaDoorWShare
import Derived.Test.YtjjbhkaigfggdaaDoorWN
import Derived.Test.YtjjbhkaigfggdaaDoorWFootNe
import Derived.Test.YtjjbhkaigfggdaaDoorWAt
import Derived.Test.YtjjbhkaigfggdaaDoorWEqStruct
import Derived.Test.YtjjbhkaigfggdaaDoorWRepsOne
import Derived.Test.YtjjbhkaigfggdaaDoorWInv
import Derived.Test.YtjjbhkaigfggdaaDoorWInvWords
import Derived.Test.YtjjbhkaigfggdaaDoorWGuard
import Derived.Test.YtjjbhkaigfggdaaDoorWNEv
import Derived.Test.YtjjbhkaigfggdaaDoorWMore
namespace Go.Proofs.YtjjbhkaigfggdaaDoor.Pr
open Go.RowKit Go.Proofs.YtjjbhkaigfggdaaDoor.Wire Go.Proofs.YtjjbhkaigfggdaaDoorW.PrintWords Go.Proofs.YtjjbhkaigfggdaaDoorW.PrintLast Go.Proofs.YtjjbhkaigfggdaaDoorW.PrintMore
attribute [local go_sem] max2_int min2_int max_two min_two max_three min_three max_four min_four   -- for this text's walks alone
set_option linter.unusedVariables false
set_option linter.unusedSimpArgs false



def errW : Option Int → Value
  | none => .nilIface
  | some c => .iface 0 (.int .i64 c)
theorem errW_none : errW none = .nilIface := rfl
theorem errW_some (c : Int) : errW (some c) = .iface 0 (.int .i64 c) := rfl

theorem info3 : (Tryd.prog.info? 3).map (fun i => (i.zero, i.size, i.bytes)) = some (some (.int .i64 0), 1, 8) := by kernel_rfl
theorem info5 : (Tryd.prog.info? 5).map (fun i => (i.zero, i.size, i.bytes)) = some (some (.int .u8 0), 1, 1) := by kernel_rfl
-- the values' own types

end Go.Proofs.YtjjbhkaigfggdaaDoor.Pr
