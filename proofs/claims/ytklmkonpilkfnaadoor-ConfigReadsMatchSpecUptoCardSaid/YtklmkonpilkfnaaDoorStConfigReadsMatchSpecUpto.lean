-- Written by this session's program (wip/ev/evrow.py): the statement that is left to prove of ConfigReadsMatchSpec.
import Derived.Test.YtklmkonpilkfnaaDoorFCfa
import Derived.Test.YtklmkonpilkfnaaDoorEv5
import Derived.Test.YtklmkonpilkfnaaDoorEvU9
namespace Go.Proofs.YtklmkonpilkfnaaDoor.Ev
open Go Go.RowKit
/-- THE ONE PURE STATEMENT. -/
def ConfigReadsMatchSpecUptoStated : Prop := ∀ (x0 : (.slice (.agg (.pair (.str) (.slice (.str)))) : Kd).T) (x1 : (.str : Kd).T), (WfS 40 (fun x => (fun s => s.size ≤ 140737488351232) x.1 ∧ (WfS 16 (fun s => s.size ≤ 140737488351232)) x.2)) x0 → (fun s => s.size ≤ 140737488351232) x1 → kbulk (.slice (.agg (.pair (.str) (.slice (.str))))) x0 + kbulk (.str) x1 ≤ 1048576 → ∃ k, S9 k (x0, x1, ()) = some true
end Go.Proofs.YtklmkonpilkfnaaDoor.Ev
