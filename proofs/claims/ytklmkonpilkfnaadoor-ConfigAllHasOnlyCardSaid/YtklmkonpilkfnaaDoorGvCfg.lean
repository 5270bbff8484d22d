/- The library's functions that the laws of Config reach, as functions of the evaluator (this session's own; from the shelf's contracts). No condition. -/
import Derived.Test.YtklmkonpilkfnaaDoorEv8
import Derived.Test.YtklmkonpilkfnaaDoorProg
import Derived.Test.YtklmkonpilkfnaaDoorShelf
namespace Go.Proofs.YtklmkonpilkfnaaDoor.Ev
open Go Go.Proofs Go.RowKit
set_option maxRecDepth 100000
abbrev JS : Inv := cellInv 0
abbrev KPair : Kd := .agg (.pair .str .str)
def S98 (_ : Nat) (x : PT [.val .str, .val .str]) : Option (OT [.val .str]) := trimF x.1 x.2.1
def F98 : Fn := ⟨[.val .str, .val .str], [.val .str], S98⟩
theorem ok98 : FnOK Tryd.prog JS 98 F98 := fnOK_trim ⟨Tryd.f98, rfl, rfl, by decide⟩ fun s c w h1 h2 h3 => Any.strings_Trim_laid Tryd.lays160 (by kernel_rfl) s c w h1 h2 h3
def S83 (_ : Nat) (x : PT [.val (.slice .str), .val .str]) : Option (OT [.val .str]) := joinF x.1 x.2.1
def F83 : Fn := ⟨[.val (.slice .str), .val .str], [.val .str], S83⟩
theorem ok83 : FnOK Tryd.prog JS 83 F83 := fnOK_join ⟨Tryd.f83, rfl, rfl, by decide⟩ Tryd.strings_Join_none Tryd.strings_Join
def S85 (_ : Nat) (x : PT [.val .str, .val .str]) : Option (OT [.val .str, .val .str, .val .bool]) := cutF x.1 x.2.1
def F85 : Fn := ⟨[.val .str, .val .str], [.val .str, .val .str, .val .bool], S85⟩
theorem ok85 : FnOK Tryd.prog JS 85 F85 := fnOK_cut ⟨Tryd.f85, rfl, rfl, by decide⟩ fun s p m w h1 h2 => Tryd.strings_Cut s p m w h1 h2
def S84 (_ : Nat) (x : PT [.val .str, .val .str]) : Option (OT [.val (.slice .str)]) := if x.1.size < 4294967281 ∧ 1 ≤ x.2.1.size then some (Lib.splitB x.2.1 0 (Lib.countB x.1 x.2.1) x.1) else none
def F84 : Fn := ⟨[.val .str, .val .str], [.val (.slice .str)], S84⟩
theorem ok84 : FnOK Tryd.prog JS 84 F84 := fnOK_split ⟨Tryd.f84, rfl, rfl, by decide⟩ Tryd.strings_Split
def S110 (_ : Nat) (x : PT [.val .str, .val .str]) : Option (OT [.val (.int .i64)]) := some (Lib.compareBytes x.1.data.toList x.2.1.data.toList)
def F110 : Fn := ⟨[.val .str, .val .str], [.val (.int .i64)], S110⟩
theorem ok110 : FnOK Tryd.prog JS 110 F110 := fnOK_compare ⟨Tryd.f110, rfl, rfl, by decide⟩ Tryd.strings_Compare
def ren25 : Go.Shelf.Ren := ⟨fun | 41 => 25 | n => n, fun | 22 => 43 | 23 => 9 | 4 => 4 | n => n, fun | n => n⟩
theorem lay25 : Go.Proofs.SlLaysE0.n41 Tryd.prog ren25 := { mixed := by kernel_rfl, f41 := ⟨Tryd.f25.name, by decide, Tryd.func25.trans (congrArg some (by kernel_rfl))⟩, t4 := Tryd.underlying4, a4 := Tryd.isAgg4, z4 := Tryd.sizeOf4, v4 := Tryd.zeroValue4, t22 := Tryd.underlying43, a22 := Tryd.isAgg43, z22 := Tryd.sizeOf43, v22 := Tryd.zeroValue43 }
def S25 (_ : Nat) (x : PT [.val (.slice .str)]) : Option (OT [.own .str]) := if x.1.length * 16 ≤ 140737488355328 then some x.1 else none
def F25 : Fn := ⟨[.val (.slice .str)], [.own .str], S25⟩
theorem ok25 : FnOK Tryd.prog JS 25 F25 := fnOK_clone (ρ := ren25) (e := .str) (bytes := 16) lay25 ⟨Tryd.f25, rfl, rfl, by decide⟩ ⟨rfl, rfl, ⟨_, rfl, rfl, _, rfl, rfl⟩, ⟨_, rfl, rfl⟩⟩ (fun i h => by cases h; rfl) (by decide) (by decide)
def ren14 : Go.Shelf.Ren := ⟨fun | 41 => 14 | n => n, fun | 22 => 23 | 23 => 27 | 4 => 4 | n => n, fun | n => n⟩
theorem lay14 : Go.Proofs.SlLaysE0.n41 Tryd.prog ren14 := { mixed := by kernel_rfl, f41 := ⟨Tryd.f14.name, by decide, Tryd.func14.trans (congrArg some (by kernel_rfl))⟩, t4 := Tryd.underlying4, a4 := Tryd.isAgg4, z4 := Tryd.sizeOf4, v4 := Tryd.zeroValue4, t22 := Tryd.underlying23, a22 := Tryd.isAgg23, z22 := Tryd.sizeOf23, v22 := Tryd.zeroValue23 }
def S14 (_ : Nat) (x : PT [.val (.slice KPair)]) : Option (OT [.own KPair]) := if x.1.length * 32 ≤ 140737488355328 then some x.1 else none
def F14 : Fn := ⟨[.val (.slice KPair)], [.own KPair], S14⟩
theorem ok14 : FnOK Tryd.prog JS 14 F14 := fnOK_clone (ρ := ren14) (e := KPair) (bytes := 32) lay14 ⟨Tryd.f14, rfl, rfl, by decide⟩ ⟨trivial, rfl, ⟨_, rfl, rfl, _, rfl, rfl⟩, ⟨_, rfl, rfl⟩⟩ (fun i h => by cases h; rfl) (by decide) (by decide)
end Go.Proofs.YtklmkonpilkfnaaDoor.Ev
