/- The library's functions that these laws reach, as functions of the evaluator (this session's own; from the shelf's contracts; printed by wip/ev/gv.py). No condition. -/
import Derived.Test.YtocgdpnealaoeaaDoorEv8
import Derived.Test.YtocgdpnealaoeaaDoorProg
import Derived.Test.YtocgdpnealaoeaaDoorShelf
namespace Go.Proofs.YtocgdpnealaoeaaDoor.Ev
open Go Go.Proofs Go.RowKit
set_option maxRecDepth 100000
abbrev JS : Inv := cellInv 0
abbrev KPair : Kd := .agg (.pair .str .str)
def S70 (_ : Nat) (x : PT [.val .str, .val .str]) : Option (OT [.val .str]) := trimF x.1 x.2.1
def F70 : Fn := ⟨[.val .str, .val .str], [.val .str], S70⟩
theorem ok70 : FnOK Tryd.prog JS 70 F70 := fnOK_trim ⟨Tryd.f70, rfl, rfl, by decide⟩ fun s c w h1 h2 h3 => Any.strings_Trim_laid Tryd.lays160 (by kernel_rfl) s c w h1 h2 h3
def S58 (_ : Nat) (x : PT [.val (.slice .str), .val .str]) : Option (OT [.val .str]) := joinF x.1 x.2.1
def F58 : Fn := ⟨[.val (.slice .str), .val .str], [.val .str], S58⟩
theorem ok58 : FnOK Tryd.prog JS 58 F58 := fnOK_join ⟨Tryd.f58, rfl, rfl, by decide⟩ Tryd.strings_Join_none Tryd.strings_Join
def ren6 : Go.Shelf.Ren := ⟨fun | 41 => 6 | n => n, fun | 22 => 23 | 23 => 9 | 4 => 4 | n => n, fun | n => n⟩
theorem lay6 : Go.Proofs.SlLaysE0.n41 Tryd.prog ren6 := { mixed := by kernel_rfl, f41 := ⟨Tryd.f6.name, by decide, Tryd.func6.trans (congrArg some (by kernel_rfl))⟩, t4 := Tryd.underlying4, a4 := Tryd.isAgg4, z4 := Tryd.sizeOf4, v4 := Tryd.zeroValue4, t22 := Tryd.underlying23, a22 := Tryd.isAgg23, z22 := Tryd.sizeOf23, v22 := Tryd.zeroValue23 }
def S6 (_ : Nat) (x : PT [.val (.slice (.str))]) : Option (OT [.own (.str)]) := if x.1.length * 16 ≤ 140737488355328 then some x.1 else none
def F6 : Fn := ⟨[.val (.slice (.str))], [.own (.str)], S6⟩
theorem ok6 : FnOK Tryd.prog JS 6 F6 := fnOK_clone (ρ := ren6) (e := (.str)) (bytes := 16) lay6 ⟨Tryd.f6, rfl, rfl, by decide⟩ ⟨rfl, rfl, ⟨_, rfl, rfl, _, rfl, rfl⟩, ⟨_, rfl, rfl⟩⟩ (fun i h => by cases h; rfl) (by decide) (by decide)
end Go.Proofs.YtocgdpnealaoeaaDoor.Ev
