/- The library's functions that these laws reach, as functions of the evaluator (this session's own; from the shelf's contracts; printed by wip/ev/gv.py). No condition. -/
import Derived.Test.YtcbkiipcfdcdgaaGreatDoorEv8
import Derived.Test.YtcbkiipcfdcdgaaGreatDoorProg
import Derived.Test.YtcbkiipcfdcdgaaGreatDoorShelf
namespace Go.Proofs.YtcbkiipcfdcdgaaGreatDoor.Ev
open Go Go.Proofs Go.RowKit
set_option maxRecDepth 100000
abbrev JS : Inv := cellInv 0
abbrev KPair : Kd := .agg (.pair .str .str)
def S104 (_ : Nat) (x : PT [.val .str, .val .str]) : Option (OT [.val .str]) := trimF x.1 x.2.1
def F104 : Fn := ⟨[.val .str, .val .str], [.val .str], S104⟩
theorem ok104 : FnOK Tryz.prog JS 104 F104 := fnOK_trim ⟨Tryz.f104, rfl, rfl, by decide⟩ fun s c w h1 h2 h3 => Any.strings_Trim_laid Tryz.lays160 (by kernel_rfl) s c w h1 h2 h3
def S111 (_ : Nat) (x : PT [.val (.slice .str), .val .str]) : Option (OT [.val .str]) := joinF x.1 x.2.1
def F111 : Fn := ⟨[.val (.slice .str), .val .str], [.val .str], S111⟩
theorem ok111 : FnOK Tryz.prog JS 111 F111 := fnOK_join ⟨Tryz.f111, rfl, rfl, by decide⟩ Tryz.strings_Join_none Tryz.strings_Join
def S100 (_ : Nat) (x : PT [.val .str, .val .str]) : Option (OT [.val (.int .i64)]) := some (Lib.compareBytes x.1.data.toList x.2.1.data.toList)
def F100 : Fn := ⟨[.val .str, .val .str], [.val (.int .i64)], S100⟩
theorem ok100 : FnOK Tryz.prog JS 100 F100 := fnOK_compare ⟨Tryz.f100, rfl, rfl, by decide⟩ Tryz.strings_Compare
def ren45 : Go.Shelf.Ren := ⟨fun | 41 => 45 | n => n, fun | 22 => 30 | 23 => 9 | 4 => 4 | n => n, fun | n => n⟩
theorem lay45 : Go.Proofs.SlLaysE0.n41 Tryz.prog ren45 := { mixed := by kernel_rfl, f41 := ⟨Tryz.f45.name, by decide, Tryz.func45.trans (congrArg some (by kernel_rfl))⟩, t4 := Tryz.underlying4, a4 := Tryz.isAgg4, z4 := Tryz.sizeOf4, v4 := Tryz.zeroValue4, t22 := Tryz.underlying30, a22 := Tryz.isAgg30, z22 := Tryz.sizeOf30, v22 := Tryz.zeroValue30 }
def S45 (_ : Nat) (x : PT [.val (.slice (.str))]) : Option (OT [.own (.str)]) := if x.1.length * 16 ≤ 140737488355328 then some x.1 else none
def F45 : Fn := ⟨[.val (.slice (.str))], [.own (.str)], S45⟩
theorem ok45 : FnOK Tryz.prog JS 45 F45 := fnOK_clone (ρ := ren45) (e := (.str)) (bytes := 16) lay45 ⟨Tryz.f45, rfl, rfl, by decide⟩ ⟨rfl, rfl, ⟨_, rfl, rfl, _, rfl, rfl⟩, ⟨_, rfl, rfl⟩⟩ (fun i h => by cases h; rfl) (by decide) (by decide)
def ren10 : Go.Shelf.Ren := ⟨fun | 41 => 10 | n => n, fun | 22 => 29 | 23 => 37 | 4 => 4 | n => n, fun | n => n⟩
theorem lay10 : Go.Proofs.SlLaysE0.n41 Tryz.prog ren10 := { mixed := by kernel_rfl, f41 := ⟨Tryz.f10.name, by decide, Tryz.func10.trans (congrArg some (by kernel_rfl))⟩, t4 := Tryz.underlying4, a4 := Tryz.isAgg4, z4 := Tryz.sizeOf4, v4 := Tryz.zeroValue4, t22 := Tryz.underlying29, a22 := Tryz.isAgg29, z22 := Tryz.sizeOf29, v22 := Tryz.zeroValue29 }
def S10 (_ : Nat) (x : PT [.val (.slice (.agg (.pair (.str) (.str))))]) : Option (OT [.own (.agg (.pair (.str) (.str)))]) := if x.1.length * 32 ≤ 140737488355328 then some x.1 else none
def F10 : Fn := ⟨[.val (.slice (.agg (.pair (.str) (.str))))], [.own (.agg (.pair (.str) (.str)))], S10⟩
theorem ok10 : FnOK Tryz.prog JS 10 F10 := fnOK_clone (ρ := ren10) (e := (.agg (.pair (.str) (.str)))) (bytes := 32) lay10 ⟨Tryz.f10, rfl, rfl, by decide⟩ ⟨trivial, rfl, ⟨_, rfl, rfl, _, rfl, rfl⟩, ⟨_, rfl, rfl⟩⟩ (fun i h => by cases h; rfl) (by decide) (by decide)
end Go.Proofs.YtcbkiipcfdcdgaaGreatDoor.Ev
