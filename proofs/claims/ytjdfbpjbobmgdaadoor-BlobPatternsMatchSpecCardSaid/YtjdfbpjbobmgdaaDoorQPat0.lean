-- Written by this session's program (wip/tools/pp.py) out of the translation; Lean checks it.
import Derived.Test.YtjdfbpjbobmgdaaDoorProg
import Derived.Below
import Derived.Deep.Draws
import Derived.Deep.AppendLies
import Derived.Maps.AppendAt
import Derived.OwnWalk
import Derived.Laws.BytesArg
import Derived.Laws.MakeOwn
import Derived.Laws.OwnMore
import Derived.Deep.OwnRows
import Derived.Tactics
import Derived.Lib.ConvBytes
import Derived.Laws.Slices
import Derived.WalkKit
import Derived.KernelRfl
import Derived.RowKit3
import Derived.Deep.LoopGhost
import Derived.Deep.QuietTactic
import Derived.BigQuiet
import Derived.WideLaws
import Derived.Deep.DeepCutAuto
import Derived.Deep.CutBlock
import Derived.Deep.RegionHeld3
import Derived.Laws.Rows
import Derived.Lib.AppendStr
import Derived.ArgAppend
import Derived.Laws.IdiomCopy
import Derived.OrdersHeld
import Derived.Laws.BitsLemmas
import Derived.RowKit
import Derived.Lib.SliceRun
import Derived.Test.YtjdfbpjbobmgdaaDoorConv
import Derived.Test.YtjdfbpjbobmgdaaDoorShelf
import Derived.Test.YtjdfbpjbobmgdaaDoorStrOps
import Derived.Test.YtjdfbpjbobmgdaaDoorVars
import Derived.Test.YtjdfbpjbobmgdaaDoorWWords
import Derived.Test.YtjdfbpjbobmgdaaDoorWLast
import Derived.Test.YtjdfbpjbobmgdaaDoorWTab
import Derived.Test.YtjdfbpjbobmgdaaDoorWFour
import Derived.Test.YtjdfbpjbobmgdaaDoorWQPut
import Derived.Test.YtjdfbpjbobmgdaaDoorWApart
import Derived.Test.YtjdfbpjbobmgdaaDoorWArr
import Derived.Test.YtjdfbpjbobmgdaaDoorWZeros
import Derived.Test.YtjdfbpjbobmgdaaDoorWFoot
import Derived.Test.YtjdfbpjbobmgdaaDoorWKept
import Derived.Test.YtjdfbpjbobmgdaaDoorWShare
import Derived.Test.YtjdfbpjbobmgdaaDoorWN
import Derived.Test.YtjdfbpjbobmgdaaDoorWFootNe
import Derived.Test.YtjdfbpjbobmgdaaDoorWAt
import Derived.Test.YtjdfbpjbobmgdaaDoorWEqStruct
import Derived.Test.YtjdfbpjbobmgdaaDoorWRepsOne
import Derived.Test.YtjdfbpjbobmgdaaDoorWInv
import Derived.Test.YtjdfbpjbobmgdaaDoorWInvWords
import Derived.Test.YtjdfbpjbobmgdaaDoorWGuard
import Derived.Test.YtjdfbpjbobmgdaaDoorWNEv
import Derived.Test.YtjdfbpjbobmgdaaDoorWMore
namespace Go.Proofs.YtjdfbpjbobmgdaaDoor.QPat
open Go.RowKit Go.Proofs.YtjdfbpjbobmgdaaDoorW.PrintWords Go.Proofs.YtjdfbpjbobmgdaaDoorW.PrintLast Go.Proofs.YtjdfbpjbobmgdaaDoorW.PrintMore
attribute [local go_sem] max2_int min2_int max_two min_two max_three min_three max_four min_four   -- for this text's walks alone
attribute [local go_sem] Go.Proofs.YtjdfbpjbobmgdaaDoor.StrOps.str_gtr Go.Proofs.YtjdfbpjbobmgdaaDoor.StrOps.str_leq Go.Proofs.YtjdfbpjbobmgdaaDoor.StrOps.str_geq
set_option linter.unusedVariables false
set_option linter.unusedSimpArgs false



def errW : Option Int → Value
  | none => .nilIface
  | some c => .iface 0 (.int .i64 c)
theorem errW_none : errW none = .nilIface := rfl
theorem errW_some (c : Int) : errW (some c) = .iface 0 (.int .i64 c) := rfl

theorem info4 : (Tryd.prog.info? 4).map (fun i => (i.zero, i.size, i.bytes)) = some (some (.bool false), 1, 1) := by kernel_rfl
theorem info5 : (Tryd.prog.info? 5).map (fun i => (i.zero, i.size, i.bytes)) = some (some (.int .u8 0), 1, 1) := by kernel_rfl
-- the values' own types

end Go.Proofs.YtjdfbpjbobmgdaaDoor.QPat
