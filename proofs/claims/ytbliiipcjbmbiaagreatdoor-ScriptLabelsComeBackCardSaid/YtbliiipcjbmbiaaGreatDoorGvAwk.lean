/- The library's functions that these laws reach, as functions of the evaluator (this session's own; from the shelf's contracts; printed by wip/ev/gv.py). No condition. -/
import Derived.Test.YtbliiipcjbmbiaaGreatDoorGc
import Derived.Test.YtbliiipcjbmbiaaGreatDoorProg
import Derived.Test.YtbliiipcjbmbiaaGreatDoorShelf
namespace Go.Proofs.YtbliiipcjbmbiaaGreatDoor.Ev
open Go Go.Proofs Go.RowKit
set_option maxRecDepth 100000
abbrev JS : Inv := cellInv 0
abbrev KPair : Kd := .agg (.pair .str .str)
def S75 (_ : Nat) (x : PT [.val .str, .val .str]) : Option (OT [.val (.int .i64)]) := some (Lib.compareBytes x.1.data.toList x.2.1.data.toList)
def F75 : Fn := ⟨[.val .str, .val .str], [.val (.int .i64)], S75⟩
theorem ok75 : FnOK Tryz.prog JS 75 F75 := fnOK_compare ⟨Tryz.f75, rfl, rfl, by decide⟩ Tryz.strings_Compare
def S94 (_ : Nat) (x : PT [.val .str, .val .str]) : Option (OT [.val (.slice .str)]) := if x.1.size < 4294967281 ∧ 1 ≤ x.2.1.size then some (Lib.splitB x.2.1 0 (Lib.countB x.1 x.2.1) x.1) else none
def F94 : Fn := ⟨[.val .str, .val .str], [.val (.slice .str)], S94⟩
theorem ok94 : FnOK Tryz.prog JS 94 F94 := fnOK_split ⟨Tryz.f94, rfl, rfl, by decide⟩ Tryz.strings_Split
def S130 (_ : Nat) (x : PT [.val .str, .val (.int .u8)]) : Option (OT [.val (.int .i64)]) := some (Lib.indexByte x.1.data.toList x.2.1.toNat.toUInt8)
def F130 : Fn := ⟨[.val .str, .val (.int .u8)], [.val (.int .i64)], S130⟩
theorem ok130 : FnOK Tryz.prog JS 130 F130 := fnOK_indexByte ⟨Tryz.f130, rfl, rfl, by decide⟩ Tryz.strings_IndexByte
def S61 (_ : Nat) (x : PT [.val .str, .val .str]) : Option (OT [.val .str, .val .str, .val .bool]) := cutF x.1 x.2.1
def F61 : Fn := ⟨[.val .str, .val .str], [.val .str, .val .str, .val .bool], S61⟩
theorem ok61 : FnOK Tryz.prog JS 61 F61 := fnOK_cut ⟨Tryz.f61, rfl, rfl, by decide⟩ fun s p m w h1 h2 => Tryz.strings_Cut s p m w h1 h2
def ren45 : Go.Shelf.Ren := ⟨fun | 41 => 45 | n => n, fun | 22 => 22 | 23 => 9 | 4 => 4 | n => n, fun | n => n⟩
theorem lay45 : Go.Proofs.SlLaysE0.n41 Tryz.prog ren45 := { mixed := by kernel_rfl, f41 := ⟨Tryz.f45.name, by decide, Tryz.func45.trans (congrArg some (by kernel_rfl))⟩, t4 := Tryz.underlying4, a4 := Tryz.isAgg4, z4 := Tryz.sizeOf4, v4 := Tryz.zeroValue4, t22 := Tryz.underlying22, a22 := Tryz.isAgg22, z22 := Tryz.sizeOf22, v22 := Tryz.zeroValue22 }
def S45 (_ : Nat) (x : PT [.val (.slice (.str))]) : Option (OT [.own (.str)]) := if x.1.length * 16 ≤ 140737488355328 then some x.1 else none
def F45 : Fn := ⟨[.val (.slice (.str))], [.own (.str)], S45⟩
theorem ok45 : FnOK Tryz.prog JS 45 F45 := fnOK_clone (ρ := ren45) (e := (.str)) (bytes := 16) lay45 ⟨Tryz.f45, rfl, rfl, by decide⟩ ⟨rfl, rfl, ⟨_, rfl, rfl, _, rfl, rfl⟩, ⟨_, rfl, rfl⟩⟩ (fun i h => by cases h; rfl) (by decide) (by decide)
end Go.Proofs.YtbliiipcjbmbiaaGreatDoor.Ev
