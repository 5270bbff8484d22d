-- Written by this session's program (wip/tools/pp.py) out of the translation; Lean checks it.
import Derived.Test.YtjdfbpjbobmgdaaProg
import Derived.Below
import Derived.Deep.Draws
import Derived.Deep.AppendLies
import Derived.Maps.AppendAt
import Derived.OwnWalk
import Derived.Laws.BytesArg
import Derived.Laws.MakeOwn
import Derived.Laws.OwnMore
import Derived.Deep.OwnRows
import Derived.Tactics
import Derived.Lib.ConvBytes
import Derived.Laws.Slices
import Derived.WalkKit
import Derived.KernelRfl
import Derived.RowKit3
import Derived.Deep.LoopGhost
import Derived.Deep.QuietTactic
import Derived.BigQuiet
import Derived.WideLaws
import Derived.Deep.DeepCutAuto
import Derived.Deep.CutBlock
import Derived.Deep.RegionHeld3
import Derived.Laws.Rows
import Derived.Lib.AppendStr
import Derived.ArgAppend
import Derived.Laws.IdiomCopy
import Derived.OrdersHeld
import Derived.Laws.BitsLemmas
import Derived.RowKit
import Derived.Lib.SliceRun
import Derived.Test.YtjdfbpjbobmgdaaMaps
import Derived.Test.YtjdfbpjbobmgdaaWWords
import Derived.Test.YtjdfbpjbobmgdaaWLast
import Derived.Test.YtjdfbpjbobmgdaaWTab
import Derived.Test.YtjdfbpjbobmgdaaWFour
import Derived.Test.YtjdfbpjbobmgdaaWQPut
import Derived.Test.YtjdfbpjbobmgdaaWApart
import Derived.Test.YtjdfbpjbobmgdaaWArr
import Derived.Test.YtjdfbpjbobmgdaaWZeros
import Derived.Test.YtjdfbpjbobmgdaaWFoot
import Derived.Test.YtjdfbpjbobmgdaaWKept
import Derived.Test.YtjdfbpjbobmgdaaWShare
import Derived.Test.YtjdfbpjbobmgdaaWN
import Derived.Test.YtjdfbpjbobmgdaaWFootNe
import Derived.Test.YtjdfbpjbobmgdaaWAt
import Derived.Test.YtjdfbpjbobmgdaaWEqStruct
import Derived.Test.YtjdfbpjbobmgdaaWRepsOne
import Derived.Test.YtjdfbpjbobmgdaaWInv
import Derived.Test.YtjdfbpjbobmgdaaWInvWords
import Derived.Test.YtjdfbpjbobmgdaaWGuard
import Derived.Test.YtjdfbpjbobmgdaaWNEv
import Derived.Test.YtjdfbpjbobmgdaaWMore
namespace Go.Proofs.Ytjdfbpjbobmgdaa.QSharedAll
open Go.RowKit Go.Proofs.YtjdfbpjbobmgdaaW.PrintWords Go.Proofs.YtjdfbpjbobmgdaaW.PrintLast Go.Proofs.YtjdfbpjbobmgdaaW.PrintMore
attribute [local go_sem] max2_int min2_int max_two min_two max_three min_three max_four min_four   -- for this text's walks alone
set_option linter.unusedVariables false
set_option linter.unusedSimpArgs false



def errW : Option Int → Value
  | none => .nilIface
  | some c => .iface 0 (.int .i64 c)
theorem errW_none : errW none = .nilIface := rfl
theorem errW_some (c : Int) : errW (some c) = .iface 0 (.int .i64 c) := rfl

theorem info3 : (Try.prog.info? 3).map (fun i => (i.zero, i.size, i.bytes)) = some (some (.int .i64 0), 1, 8) := by kernel_rfl
theorem info5 : (Try.prog.info? 5).map (fun i => (i.zero, i.size, i.bytes)) = some (some (.int .u8 0), 1, 1) := by kernel_rfl
-- the values' own types

end Go.Proofs.Ytjdfbpjbobmgdaa.QSharedAll
