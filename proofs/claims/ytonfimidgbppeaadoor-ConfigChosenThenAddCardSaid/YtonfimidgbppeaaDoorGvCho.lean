/- The library's functions that these laws reach, as functions of the evaluator (this session's own; from the shelf's contracts; printed by wip/ev/gv.py). No condition. -/
import Derived.Test.YtonfimidgbppeaaDoorEv8
import Derived.Test.YtonfimidgbppeaaDoorProg
import Derived.Test.YtonfimidgbppeaaDoorShelf
import Derived.Test.YtonfimidgbppeaaDoorEvVl
namespace Go.Proofs.YtonfimidgbppeaaDoor.Ev
open Go Go.Proofs Go.RowKit
set_option maxRecDepth 100000
abbrev JS : Inv := cellInv 0
abbrev KPair : Kd := .agg (.pair .str .str)
def S62 (_ : Nat) (x : PT [.val .str, .val .str]) : Option (OT [.val .str]) := trimF x.1 x.2.1
def F62 : Fn := ⟨[.val .str, .val .str], [.val .str], S62⟩
theorem ok62 : FnOK Tryd.prog JS 62 F62 := fnOK_trim ⟨Tryd.f62, rfl, rfl, by decide⟩ fun s c w h1 h2 h3 => Any.strings_Trim_laid Tryd.lays160 (by kernel_rfl) s c w h1 h2 h3
def S32 (_ : Nat) (x : PT [.val (.slice .str), .val .str]) : Option (OT [.val .str]) := joinF x.1 x.2.1
def F32 : Fn := ⟨[.val (.slice .str), .val .str], [.val .str], S32⟩
theorem ok32 : FnOK Tryd.prog JS 32 F32 := fnOK_join ⟨Tryd.f32, rfl, rfl, by decide⟩ Tryd.strings_Join_none Tryd.strings_Join
def ren47 : Go.Shelf.Ren := ⟨fun | 41 => 47 | n => n, fun | 22 => 29 | 23 => 9 | 4 => 4 | n => n, fun | n => n⟩
theorem lay47 : Go.Proofs.SlLaysE0.n41 Tryd.prog ren47 := { mixed := by kernel_rfl, f41 := ⟨Tryd.f47.name, by decide, Tryd.func47.trans (congrArg some (by kernel_rfl))⟩, t4 := Tryd.underlying4, a4 := Tryd.isAgg4, z4 := Tryd.sizeOf4, v4 := Tryd.zeroValue4, t22 := Tryd.underlying29, a22 := Tryd.isAgg29, z22 := Tryd.sizeOf29, v22 := Tryd.zeroValue29 }
def S47 (_ : Nat) (x : PT [.val (.slice (.str))]) : Option (OT [.own (.str)]) := if x.1.length * 16 ≤ 140737488355328 then some x.1 else none
def F47 : Fn := ⟨[.val (.slice (.str))], [.own (.str)], S47⟩
theorem ok47 : FnOK Tryd.prog JS 47 F47 := fnOK_clone (ρ := ren47) (e := (.str)) (bytes := 16) lay47 ⟨Tryd.f47, rfl, rfl, by decide⟩ ⟨rfl, rfl, ⟨_, rfl, rfl, _, rfl, rfl⟩, ⟨_, rfl, rfl⟩⟩ (fun i h => by cases h; rfl) (by decide) (by decide)
def ren48 : Go.Shelf.Ren := ⟨fun | 41 => 48 | n => n, fun | 22 => 30 | 23 => 42 | 4 => 4 | n => n, fun | n => n⟩
theorem lay48 : Go.Proofs.SlLaysE0.n41 Tryd.prog ren48 := { mixed := by kernel_rfl, f41 := ⟨Tryd.f48.name, by decide, Tryd.func48.trans (congrArg some (by kernel_rfl))⟩, t4 := Tryd.underlying4, a4 := Tryd.isAgg4, z4 := Tryd.sizeOf4, v4 := Tryd.zeroValue4, t22 := Tryd.underlying30, a22 := Tryd.isAgg30, z22 := Tryd.sizeOf30, v22 := Tryd.zeroValue30 }
def S48 (_ : Nat) (x : PT [.val (.oslice 0)]) : Option (OT [.val (.oslice 0)]) := match Nat.beq x.1 0 with | true => some (0 : Nat) | false => none
def F48 : Fn := ⟨[.val (.oslice 0)], [.val (.oslice 0)], S48⟩
theorem ok48 : FnOK Tryd.prog JS 48 F48 := FnOK.cloneO (fnOK_clone (ρ := ren48) (e := (.agg (.pair (.str) (.agg (.pair (.int .i64) (.pair (.str) (.pair (.int .i64) (.pair (.slice (.str)) (.oslice 0))))))))) (bytes := 96) lay48 ⟨Tryd.f48, rfl, rfl, by decide⟩ ⟨trivial, rfl, ⟨_, rfl, rfl, _, rfl, rfl⟩, ⟨_, rfl, rfl⟩⟩ (fun i h => by cases h; rfl) (by decide) (by decide)) fun k => by simp
end Go.Proofs.YtonfimidgbppeaaDoor.Ev
