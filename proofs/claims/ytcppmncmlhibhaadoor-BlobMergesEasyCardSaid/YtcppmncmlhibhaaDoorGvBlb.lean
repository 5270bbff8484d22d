/- The library's functions that these laws reach, as functions of the evaluator (this session's own; from the shelf's contracts; printed by wip/ev/gv.py). No condition. -/
import Derived.Test.YtcppmncmlhibhaaDoorEv6
import Derived.Test.YtcppmncmlhibhaaDoorEv8
import Derived.Test.YtcppmncmlhibhaaDoorProg
import Derived.Test.YtcppmncmlhibhaaDoorShelf
namespace Go.Proofs.YtcppmncmlhibhaaDoor.Ev
open Go Go.Proofs Go.RowKit
set_option maxRecDepth 100000
abbrev JS : Inv := cellInv 0
abbrev KPair : Kd := .agg (.pair .str .str)
def S76 (_ : Nat) (x : PT [.val .str, .val .str]) : Option (OT [.val (.slice .str)]) := if x.1.size < 4294967281 ∧ 1 ≤ x.2.1.size then some (Lib.splitB x.2.1 0 (Lib.countB x.1 x.2.1) x.1) else none
def F76 : Fn := ⟨[.val .str, .val .str], [.val (.slice .str)], S76⟩
theorem ok76 : FnOK Tryd.prog JS 76 F76 := fnOK_split ⟨Tryd.f76, rfl, rfl, by decide⟩ Tryd.strings_Split
def S77 (_ : Nat) (x : PT [.val .str, .val .str]) : Option (OT [.val .bool]) := if x.1.size < 4294967281 then some (Lib.contains x.1.data.toList x.2.1.data.toList) else none
def F77 : Fn := ⟨[.val .str, .val .str], [.val .bool], S77⟩
theorem ok77 : FnOK Tryd.prog JS 77 F77 := fnOK_contains ⟨Tryd.f77, rfl, rfl, by decide⟩ Tryd.strings_Contains
def S112 (_ : Nat) (x : PT [.val .str, .val (.int .u8)]) : Option (OT [.val (.int .i64)]) := some (Lib.indexByte x.1.data.toList x.2.1.toNat.toUInt8)
def F112 : Fn := ⟨[.val .str, .val (.int .u8)], [.val (.int .i64)], S112⟩
theorem ok112 : FnOK Tryd.prog JS 112 F112 := fnOK_indexByte ⟨Tryd.f112, rfl, rfl, by decide⟩ Tryd.strings_IndexByte
def S72 (_ : Nat) (x : PT [.val .str, .val .str]) : Option (OT [.val (.int .i64)]) := some (Lib.compareBytes x.1.data.toList x.2.1.data.toList)
def F72 : Fn := ⟨[.val .str, .val .str], [.val (.int .i64)], S72⟩
theorem ok72 : FnOK Tryd.prog JS 72 F72 := fnOK_compare ⟨Tryd.f72, rfl, rfl, by decide⟩ Tryd.strings_Compare
def ren13 : Go.Shelf.Ren := ⟨fun | 41 => 13 | n => n, fun | 22 => 23 | 23 => 9 | 4 => 4 | n => n, fun | n => n⟩
theorem lay13 : Go.Proofs.SlLaysE0.n41 Tryd.prog ren13 := { mixed := by kernel_rfl, f41 := ⟨Tryd.f13.name, by decide, Tryd.func13.trans (congrArg some (by kernel_rfl))⟩, t4 := Tryd.underlying4, a4 := Tryd.isAgg4, z4 := Tryd.sizeOf4, v4 := Tryd.zeroValue4, t22 := Tryd.underlying23, a22 := Tryd.isAgg23, z22 := Tryd.sizeOf23, v22 := Tryd.zeroValue23 }
def S13 (_ : Nat) (x : PT [.val (.slice (.str))]) : Option (OT [.own (.str)]) := if x.1.length * 16 ≤ 140737488355328 then some x.1 else none
def F13 : Fn := ⟨[.val (.slice (.str))], [.own (.str)], S13⟩
theorem ok13 : FnOK Tryd.prog JS 13 F13 := fnOK_clone (ρ := ren13) (e := (.str)) (bytes := 16) lay13 ⟨Tryd.f13, rfl, rfl, by decide⟩ ⟨rfl, rfl, ⟨_, rfl, rfl, _, rfl, rfl⟩, ⟨_, rfl, rfl⟩⟩ (fun i h => by cases h; rfl) (by decide) (by decide)
def ren87 : Go.Shelf.Ren := ⟨fun | 41 => 87 | n => n, fun | 22 => 22 | 23 => 46 | 4 => 4 | n => n, fun | n => n⟩
theorem lay87 : Go.Proofs.SlLaysE0.n41 Tryd.prog ren87 := { mixed := by kernel_rfl, f41 := ⟨Tryd.f87.name, by decide, Tryd.func87.trans (congrArg some (by kernel_rfl))⟩, t4 := Tryd.underlying4, a4 := Tryd.isAgg4, z4 := Tryd.sizeOf4, v4 := Tryd.zeroValue4, t22 := Tryd.underlying22, a22 := Tryd.isAgg22, z22 := Tryd.sizeOf22, v22 := Tryd.zeroValue22 }
def S87 (_ : Nat) (x : PT [.val (.slice (.agg (.pair (.str) (.pair (.bool) (.slice (.int .u8))))))]) : Option (OT [.own (.agg (.pair (.str) (.pair (.bool) (.slice (.int .u8)))))]) := if x.1.length * 48 ≤ 140737488355328 then some x.1 else none
def F87 : Fn := ⟨[.val (.slice (.agg (.pair (.str) (.pair (.bool) (.slice (.int .u8))))))], [.own (.agg (.pair (.str) (.pair (.bool) (.slice (.int .u8)))))], S87⟩
theorem ok87 : FnOK Tryd.prog JS 87 F87 := fnOK_clone (ρ := ren87) (e := (.agg (.pair (.str) (.pair (.bool) (.slice (.int .u8)))))) (bytes := 48) lay87 ⟨Tryd.f87, rfl, rfl, by decide⟩ ⟨trivial, rfl, ⟨_, rfl, rfl, _, rfl, rfl⟩, ⟨_, rfl, rfl⟩⟩ (fun i h => by cases h; rfl) (by decide) (by decide)
def ren88 : Go.Shelf.Ren := ⟨fun | 41 => 88 | n => n, fun | 22 => 44 | 23 => 5 | 4 => 4 | n => n, fun | n => n⟩
theorem lay88 : Go.Proofs.SlLaysE0.n41 Tryd.prog ren88 := { mixed := by kernel_rfl, f41 := ⟨Tryd.f88.name, by decide, Tryd.func88.trans (congrArg some (by kernel_rfl))⟩, t4 := Tryd.underlying4, a4 := Tryd.isAgg4, z4 := Tryd.sizeOf4, v4 := Tryd.zeroValue4, t22 := Tryd.underlying44, a22 := Tryd.isAgg44, z22 := Tryd.sizeOf44, v22 := Tryd.zeroValue44 }
def S88 (_ : Nat) (x : PT [.val (.slice (.int .u8))]) : Option (OT [.own (.int .u8)]) := if x.1.length * 1 ≤ 140737488355328 then some x.1 else none
def F88 : Fn := ⟨[.val (.slice (.int .u8))], [.own (.int .u8)], S88⟩
theorem ok88 : FnOK Tryd.prog JS 88 F88 := fnOK_clone (ρ := ren88) (e := (.int .u8)) (bytes := 1) lay88 ⟨Tryd.f88, rfl, rfl, by decide⟩ ⟨rfl, rfl, ⟨_, rfl, rfl, _, rfl, rfl⟩, ⟨_, rfl, rfl⟩⟩ (fun i h => by cases h; rfl) (by decide) (by decide)
end Go.Proofs.YtcppmncmlhibhaaDoor.Ev
