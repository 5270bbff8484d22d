/- The library's functions that these laws reach, as functions of the evaluator (this session's own; from the shelf's contracts; printed by wip/ev/gv.py). No condition. -/
import Derived.Test.YtonfimidgbppeaaGreatDoorEv8
import Derived.Test.YtonfimidgbppeaaGreatDoorProg
import Derived.Test.YtonfimidgbppeaaGreatDoorShelf
import Derived.Test.YtonfimidgbppeaaGreatDoorEvVl
namespace Go.Proofs.YtonfimidgbppeaaGreatDoor.Ev
open Go Go.Proofs Go.RowKit
set_option maxRecDepth 100000
abbrev JS : Inv := cellInv 0
abbrev KPair : Kd := .agg (.pair .str .str)
def S157 (_ : Nat) (x : PT [.val .str, .val .str]) : Option (OT [.val .str]) := trimF x.1 x.2.1
def F157 : Fn := ⟨[.val .str, .val .str], [.val .str], S157⟩
theorem ok157 : FnOK Tryz.prog JS 157 F157 := fnOK_trim ⟨Tryz.f157, rfl, rfl, by decide⟩ fun s c w h1 h2 h3 => Any.strings_Trim_laid Tryz.lays160 (by kernel_rfl) s c w h1 h2 h3
def S82 (_ : Nat) (x : PT [.val (.slice .str), .val .str]) : Option (OT [.val .str]) := joinF x.1 x.2.1
def F82 : Fn := ⟨[.val (.slice .str), .val .str], [.val .str], S82⟩
theorem ok82 : FnOK Tryz.prog JS 82 F82 := fnOK_join ⟨Tryz.f82, rfl, rfl, by decide⟩ Tryz.strings_Join_none Tryz.strings_Join
def S111 (_ : Nat) (x : PT [.val .str, .val .str]) : Option (OT [.val (.int .i64)]) := some (Lib.compareBytes x.1.data.toList x.2.1.data.toList)
def F111 : Fn := ⟨[.val .str, .val .str], [.val (.int .i64)], S111⟩
theorem ok111 : FnOK Tryz.prog JS 111 F111 := fnOK_compare ⟨Tryz.f111, rfl, rfl, by decide⟩ Tryz.strings_Compare
def S89 (_ : Nat) (x : PT [.val .str, .val .str]) : Option (OT [.val (.slice .str)]) := if x.1.size < 4294967281 ∧ 1 ≤ x.2.1.size then some (Lib.splitB x.2.1 0 (Lib.countB x.1 x.2.1) x.1) else none
def F89 : Fn := ⟨[.val .str, .val .str], [.val (.slice .str)], S89⟩
theorem ok89 : FnOK Tryz.prog JS 89 F89 := fnOK_split ⟨Tryz.f89, rfl, rfl, by decide⟩ Tryz.strings_Split
def S145 (_ : Nat) (x : PT [.val .str, .val (.int .u8)]) : Option (OT [.val (.int .i64)]) := some (Lib.indexByte x.1.data.toList x.2.1.toNat.toUInt8)
def F145 : Fn := ⟨[.val .str, .val (.int .u8)], [.val (.int .i64)], S145⟩
theorem ok145 : FnOK Tryz.prog JS 145 F145 := fnOK_indexByte ⟨Tryz.f145, rfl, rfl, by decide⟩ Tryz.strings_IndexByte
def ren38 : Go.Shelf.Ren := ⟨fun | 41 => 38 | n => n, fun | 22 => 29 | 23 => 9 | 4 => 4 | n => n, fun | n => n⟩
theorem lay38 : Go.Proofs.SlLaysE0.n41 Tryz.prog ren38 := { mixed := by kernel_rfl, f41 := ⟨Tryz.f38.name, by decide, Tryz.func38.trans (congrArg some (by kernel_rfl))⟩, t4 := Tryz.underlying4, a4 := Tryz.isAgg4, z4 := Tryz.sizeOf4, v4 := Tryz.zeroValue4, t22 := Tryz.underlying29, a22 := Tryz.isAgg29, z22 := Tryz.sizeOf29, v22 := Tryz.zeroValue29 }
def S38 (_ : Nat) (x : PT [.val (.slice (.str))]) : Option (OT [.own (.str)]) := if x.1.length * 16 ≤ 140737488355328 then some x.1 else none
def F38 : Fn := ⟨[.val (.slice (.str))], [.own (.str)], S38⟩
theorem ok38 : FnOK Tryz.prog JS 38 F38 := fnOK_clone (ρ := ren38) (e := (.str)) (bytes := 16) lay38 ⟨Tryz.f38, rfl, rfl, by decide⟩ ⟨rfl, rfl, ⟨_, rfl, rfl, _, rfl, rfl⟩, ⟨_, rfl, rfl⟩⟩ (fun i h => by cases h; rfl) (by decide) (by decide)
def ren7 : Go.Shelf.Ren := ⟨fun | 41 => 7 | n => n, fun | 22 => 33 | 23 => 39 | 4 => 4 | n => n, fun | n => n⟩
theorem lay7 : Go.Proofs.SlLaysE0.n41 Tryz.prog ren7 := { mixed := by kernel_rfl, f41 := ⟨Tryz.f7.name, by decide, Tryz.func7.trans (congrArg some (by kernel_rfl))⟩, t4 := Tryz.underlying4, a4 := Tryz.isAgg4, z4 := Tryz.sizeOf4, v4 := Tryz.zeroValue4, t22 := Tryz.underlying33, a22 := Tryz.isAgg33, z22 := Tryz.sizeOf33, v22 := Tryz.zeroValue33 }
def S7 (_ : Nat) (x : PT [.val (.slice (.agg (.pair (.str) (.str))))]) : Option (OT [.own (.agg (.pair (.str) (.str)))]) := if x.1.length * 32 ≤ 140737488355328 then some x.1 else none
def F7 : Fn := ⟨[.val (.slice (.agg (.pair (.str) (.str))))], [.own (.agg (.pair (.str) (.str)))], S7⟩
theorem ok7 : FnOK Tryz.prog JS 7 F7 := fnOK_clone (ρ := ren7) (e := (.agg (.pair (.str) (.str)))) (bytes := 32) lay7 ⟨Tryz.f7, rfl, rfl, by decide⟩ ⟨trivial, rfl, ⟨_, rfl, rfl, _, rfl, rfl⟩, ⟨_, rfl, rfl⟩⟩ (fun i h => by cases h; rfl) (by decide) (by decide)
def ren125 : Go.Shelf.Ren := ⟨fun | 41 => 125 | n => n, fun | 22 => 30 | 23 => 86 | 4 => 4 | n => n, fun | n => n⟩
theorem lay125 : Go.Proofs.SlLaysE0.n41 Tryz.prog ren125 := { mixed := by kernel_rfl, f41 := ⟨Tryz.f125.name, by decide, Tryz.func125.trans (congrArg some (by kernel_rfl))⟩, t4 := Tryz.underlying4, a4 := Tryz.isAgg4, z4 := Tryz.sizeOf4, v4 := Tryz.zeroValue4, t22 := Tryz.underlying30, a22 := Tryz.isAgg30, z22 := Tryz.sizeOf30, v22 := Tryz.zeroValue30 }
def S125 (_ : Nat) (x : PT [.val (.oslice 0)]) : Option (OT [.val (.oslice 0)]) := match Nat.beq x.1 0 with | true => some (0 : Nat) | false => none
def F125 : Fn := ⟨[.val (.oslice 0)], [.val (.oslice 0)], S125⟩
theorem ok125 : FnOK Tryz.prog JS 125 F125 := FnOK.cloneO (fnOK_clone (ρ := ren125) (e := (.agg (.pair (.str) (.agg (.pair (.int .i64) (.pair (.str) (.pair (.int .i64) (.pair (.slice (.str)) (.oslice 0))))))))) (bytes := 96) lay125 ⟨Tryz.f125, rfl, rfl, by decide⟩ ⟨trivial, rfl, ⟨_, rfl, rfl, _, rfl, rfl⟩, ⟨_, rfl, rfl⟩⟩ (fun i h => by cases h; rfl) (by decide) (by decide)) fun k => by simp
end Go.Proofs.YtonfimidgbppeaaGreatDoor.Ev
