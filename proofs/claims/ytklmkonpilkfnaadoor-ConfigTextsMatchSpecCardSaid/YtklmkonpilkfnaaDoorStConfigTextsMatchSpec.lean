-- Written by this session's program (wip/ev/evrow.py): the statement that is left to prove of ConfigTextsMatchSpec.
import Derived.Test.YtklmkonpilkfnaaDoorFCfa
import Derived.Test.YtklmkonpilkfnaaDoorEv5
namespace Go.Proofs.YtklmkonpilkfnaaDoor.Ev
open Go Go.RowKit
/-- THE ONE PURE STATEMENT. -/
def ConfigTextsMatchSpecStated : Prop := ∀ (x0 : (.slice (.agg (.pair (.str) (.slice (.str)))) : Kd).T) (x1 : (.slice (.agg (.pair (.str) (.str))) : Kd).T), (WfS 40 (fun x => (fun s => s.size ≤ 140737488351232) x.1 ∧ (WfS 16 (fun s => s.size ≤ 140737488351232)) x.2)) x0 → (WfS 32 (fun x => (fun s => s.size ≤ 140737488351232) x.1 ∧ (fun s => s.size ≤ 140737488351232) x.2)) x1 → ∃ k, S8 k (x0, x1, ()) = some true
end Go.Proofs.YtklmkonpilkfnaaDoor.Ev
