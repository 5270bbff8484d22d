-- Written by this session's program (wip/tools/rows.py): the statement that is left to prove of BlobPatternsMatchSpec.
import Derived.Test.YtjdfbpjbobmgdaaDoorQPat9
import Derived.Test.YtjdfbpjbobmgdaaDoorReads
namespace Go.Proofs.YtjdfbpjbobmgdaaDoor.QPat
open Go.RowKit
/-- THE ONE PURE STATEMENT. -/
def smithyardlaw1_BlobPatternsMatchSpec.Stated : Prop := ∀ (a0 : ByteArray) (a1 : ByteArray), (fun s => s.size ≤ 140737488351232) a0 → (fun s => s.size ≤ 140737488351232) a1 → ∃ k, smithyardlaw1_BlobPatternsMatchSpec.f k a0 a1 = some true
end Go.Proofs.YtjdfbpjbobmgdaaDoor.QPat
