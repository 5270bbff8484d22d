/- maps.Keys, slices.Sorted, slices.Sort and slices.Compact at strings as functions of the evaluator (this session's own). No condition. -/
import Derived.Test.YtonfimidgbppeaaGreatDoorEvIt
import Derived.Test.YtonfimidgbppeaaGreatDoorEvSs
import Derived.Test.YtonfimidgbppeaaGreatDoorEvCo
import Derived.Test.YtonfimidgbppeaaGreatDoorGvCho
import Derived.Test.YtonfimidgbppeaaGreatDoorGvChf
import Derived.Test.YtonfimidgbppeaaGreatDoorShelfI
namespace Go.Proofs.YtonfimidgbppeaaGreatDoor.Ev
open Go Go.Proofs Go.Shelf Go.RowKit Go.Lib Go.Sort
set_option maxRecDepth 100000
set_option linter.unusedVariables false
set_option linter.unusedSimpArgs false
def S58 (_ : Nat) (x : PT [.val (.map .str .bool)]) : Option (OT [.val (.iter 102 .str .bool)]) := some (some x.1)
def F58 : Fn := ⟨[.val (.map .str .bool)], [.val (.iter 102 .str .bool)], S58⟩
theorem ok58 : FnOK Tryz.prog JS 58 F58 := fnOK_keys (ρ := Tryz.keys_ren) Tryz.keys ⟨Tryz.f58, rfl, rfl, by decide⟩
def S57 (_ : Nat) (x : PT [.val (.iter 102 .str .bool)]) : Option (OT [.own .str]) := sortedKeys x.1
def F57 : Fn := ⟨[.val (.iter 102 .str .bool)], [.own .str], S57⟩
theorem ok57 : FnOK Tryz.prog JS 57 F57 :=
  fnOK_sorted (ρ := Tryz.keys_ren) (ρ6 := Tryz.sortedS_ren) (ρM := Tryz.sortStr_ren) Tryz.keys Tryz.sortedS Tryz.sortStr { Tryz.keys with } rfl (enters_of Tryz.func49 (by kernel_rfl) rfl) (enters_of Tryz.func102 (by kernel_rfl) rfl) ⟨Tryz.f57, rfl, rfl, by decide⟩
def S49 (_ : Nat) (l : List ByteArray) (gs : List Nat) : Option (List ByteArray) := match gs with
  | [] => sortStr l
  | _ => none
def IO49 : IoFn := ⟨.str, S49⟩
theorem okIO49 : IoOK Tryz.prog JS 49 IO49 := ioOK_sortStr (ρ := Tryz.sortStr_ren) Tryz.sortStr ⟨Tryz.f49, rfl, rfl, by decide⟩
def S50 (_ : Nat) (x : PT [.own .str]) : Option (OT [.own .str]) := if x.1.length ≤ 9223372036854775807 then some (cmpB x.1) else none
def F50 : Fn := ⟨[.own .str], [.own .str], S50⟩
theorem ok50 : FnOK Tryz.prog JS 50 F50 := fnOK_compactS (ρ := Tryz.compactS_ren) Tryz.compactS ⟨Tryz.f50, rfl, rfl, by decide⟩
end Go.Proofs.YtonfimidgbppeaaGreatDoor.Ev
