-- Written by this session's program (wip/tools/rows.py): the statement that is left to prove of BlobTogetherMatchSpec.
import Derived.Test.YtjdfbpjbobmgdaaQTogether7
import Derived.Test.YtjdfbpjbobmgdaaReads
namespace Go.Proofs.Ytjdfbpjbobmgdaa.QTogether
open Go.RowKit
/-- THE ONE PURE STATEMENT. -/
def smithyardlaw1_BlobTogetherMatchSpec.Pure : Prop := ∀ (l0 : List (List Int)) (l1 : List Int) (l2 : List Int) (a3 : Int) (a4 : Int) (a5 : Int), (Reads.WfS 24 (Reads.WfS 1 (fun n => (Lit.int .u8 n).wf = true))) l0 → (Reads.WfS 1 (fun n => (Lit.int .u8 n).wf = true)) l1 → (Reads.WfS 1 (fun n => (Lit.int .u8 n).wf = true)) l2 → (fun n => (Lit.int .i64 n).wf = true) a3 → (fun n => (Lit.int .i64 n).wf = true) a4 → (fun n => (Lit.int .i64 n).wf = true) a5 → ∃ k, smithyardlaw1_BlobTogetherMatchSpec.f k l0 l1 l2 a3 a4 a5 = some true
end Go.Proofs.Ytjdfbpjbobmgdaa.QTogether
