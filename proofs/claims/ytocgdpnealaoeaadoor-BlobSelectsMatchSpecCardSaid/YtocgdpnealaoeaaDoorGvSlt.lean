/- The library's functions that these laws reach, as functions of the evaluator (this session's own; from the shelf's contracts; printed by wip/ev/gv.py). No condition. -/
import Derived.Test.YtocgdpnealaoeaaDoorEv6
import Derived.Test.YtocgdpnealaoeaaDoorEv8
import Derived.Test.YtocgdpnealaoeaaDoorProg
import Derived.Test.YtocgdpnealaoeaaDoorShelf
namespace Go.Proofs.YtocgdpnealaoeaaDoor.Ev
open Go Go.Proofs Go.RowKit
set_option maxRecDepth 100000
abbrev JS : Inv := cellInv 0
abbrev KPair : Kd := .agg (.pair .str .str)
def S35 (_ : Nat) (x : PT [.val .str, .val .str]) : Option (OT [.val (.slice .str)]) := if x.1.size < 4294967281 ∧ 1 ≤ x.2.1.size then some (Lib.splitB x.2.1 0 (Lib.countB x.1 x.2.1) x.1) else none
def F35 : Fn := ⟨[.val .str, .val .str], [.val (.slice .str)], S35⟩
theorem ok35 : FnOK Tryd.prog JS 35 F35 := fnOK_split ⟨Tryd.f35, rfl, rfl, by decide⟩ Tryd.strings_Split
def S36 (_ : Nat) (x : PT [.val .str, .val .str]) : Option (OT [.val .bool]) := if x.1.size < 4294967281 then some (Lib.contains x.1.data.toList x.2.1.data.toList) else none
def F36 : Fn := ⟨[.val .str, .val .str], [.val .bool], S36⟩
theorem ok36 : FnOK Tryd.prog JS 36 F36 := fnOK_contains ⟨Tryd.f36, rfl, rfl, by decide⟩ Tryd.strings_Contains
def S62 (_ : Nat) (x : PT [.val .str, .val (.int .u8)]) : Option (OT [.val (.int .i64)]) := some (Lib.indexByte x.1.data.toList x.2.1.toNat.toUInt8)
def F62 : Fn := ⟨[.val .str, .val (.int .u8)], [.val (.int .i64)], S62⟩
theorem ok62 : FnOK Tryd.prog JS 62 F62 := fnOK_indexByte ⟨Tryd.f62, rfl, rfl, by decide⟩ Tryd.strings_IndexByte
def ren6 : Go.Shelf.Ren := ⟨fun | 41 => 6 | n => n, fun | 22 => 23 | 23 => 9 | 4 => 4 | n => n, fun | n => n⟩
theorem lay6 : Go.Proofs.SlLaysE0.n41 Tryd.prog ren6 := { mixed := by kernel_rfl, f41 := ⟨Tryd.f6.name, by decide, Tryd.func6.trans (congrArg some (by kernel_rfl))⟩, t4 := Tryd.underlying4, a4 := Tryd.isAgg4, z4 := Tryd.sizeOf4, v4 := Tryd.zeroValue4, t22 := Tryd.underlying23, a22 := Tryd.isAgg23, z22 := Tryd.sizeOf23, v22 := Tryd.zeroValue23 }
def S6 (_ : Nat) (x : PT [.val (.slice (.str))]) : Option (OT [.own (.str)]) := if x.1.length * 16 ≤ 140737488355328 then some x.1 else none
def F6 : Fn := ⟨[.val (.slice (.str))], [.own (.str)], S6⟩
theorem ok6 : FnOK Tryd.prog JS 6 F6 := fnOK_clone (ρ := ren6) (e := (.str)) (bytes := 16) lay6 ⟨Tryd.f6, rfl, rfl, by decide⟩ ⟨rfl, rfl, ⟨_, rfl, rfl, _, rfl, rfl⟩, ⟨_, rfl, rfl⟩⟩ (fun i h => by cases h; rfl) (by decide) (by decide)
end Go.Proofs.YtocgdpnealaoeaaDoor.Ev
