/- The library's functions that the laws of BlobSelects reach, as functions of the evaluator (this session's own; from the shelf's contracts). -/
import Derived.Test.YtjdfbpjbobmgdaaDoorEv6
import Derived.Test.YtjdfbpjbobmgdaaDoorProg
import Derived.Test.YtjdfbpjbobmgdaaDoorShelf
namespace Go.Proofs.YtjdfbpjbobmgdaaDoor.Ev
open Go Go.Proofs Go.RowKit
abbrev JS : Inv := cellInv 0
def S21 (_ : Nat) (x : PT [.val .str, .val .str]) : Option (OT [.val (.slice .str)]) := if x.1.size < 4294967281 ∧ 1 ≤ x.2.1.size then some (Lib.splitB x.2.1 0 (Lib.countB x.1 x.2.1) x.1) else none
def F21 : Fn := ⟨[.val .str, .val .str], [.val (.slice .str)], S21⟩
theorem ok21 : FnOK Tryd.prog JS 21 F21 := fnOK_split ⟨Tryd.f21, rfl, rfl, by decide⟩ Tryd.strings_Split
def S22 (_ : Nat) (x : PT [.val .str, .val .str]) : Option (OT [.val .bool]) := if x.1.size < 4294967281 then some (Lib.contains x.1.data.toList x.2.1.data.toList) else none
def F22 : Fn := ⟨[.val .str, .val .str], [.val .bool], S22⟩
theorem ok22 : FnOK Tryd.prog JS 22 F22 := fnOK_contains ⟨Tryd.f22, rfl, rfl, by decide⟩ Tryd.strings_Contains
def S43 (_ : Nat) (x : PT [.val .str, .val (.int .u8)]) : Option (OT [.val (.int .i64)]) := some (Lib.indexByte x.1.data.toList x.2.1.toNat.toUInt8)
def F43 : Fn := ⟨[.val .str, .val (.int .u8)], [.val (.int .i64)], S43⟩
theorem ok43 : FnOK Tryd.prog JS 43 F43 := fnOK_indexByte ⟨Tryd.f43, rfl, rfl, by decide⟩ Tryd.strings_IndexByte
def S13 (_ : Nat) (x : PT [.val (.slice .str)]) : Option (OT [.val (.slice .str)]) := if x.1.length * 16 ≤ 140737488355328 then some x.1 else none
def F13 : Fn := ⟨[.val (.slice .str)], [.val (.slice .str)], S13⟩
theorem ok13 : FnOK Tryd.prog JS 13 F13 := fnOK_cloneS ⟨Tryd.f13, rfl, rfl, by decide⟩ Tryd.slices_Clone_string_nil Tryd.slices_Clone_string_zero Tryd.slices_Clone_string
end Go.Proofs.YtjdfbpjbobmgdaaDoor.Ev
