-- Written by this session's program (wip/ev/evrow.py): the statement that is left to prove of BlobSelectsFit.
import Derived.Test.YtjdfbpjbobmgdaaDoorFSel
import Derived.Test.YtjdfbpjbobmgdaaDoorEv5
namespace Go.Proofs.YtjdfbpjbobmgdaaDoor.Ev
open Go Go.RowKit
/-- THE ONE PURE STATEMENT. -/
def BlobSelectsFitStated : Prop := ∀ (x0 : (.slice (.agg (.pair (.str) (.pair (.bool) (.slice (.int .u8))))) : Kd).T) (x1 : (.str : Kd).T), (WfS 48 (fun x => (fun s => s.size ≤ 140737488351232) x.1 ∧ (fun x => (fun _ => True) x.1 ∧ (WfS 1 (fun n => (Lit.int .u8 n).wf = true)) x.2) x.2)) x0 → (fun s => s.size ≤ 140737488351232) x1 → ∃ k, S4 k (x0, x1, ()) = some true
end Go.Proofs.YtjdfbpjbobmgdaaDoor.Ev
