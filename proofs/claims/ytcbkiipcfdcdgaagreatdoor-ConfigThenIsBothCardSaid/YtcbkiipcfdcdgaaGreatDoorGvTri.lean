/- slices.Sort and slices.SortFunc of config.Then as functions of the evaluator that write in place (this session's own). No condition. -/
import Derived.Test.YtcbkiipcfdcdgaaGreatDoorEvSs
import Derived.Test.YtcbkiipcfdcdgaaGreatDoorEv9
import Derived.Test.YtcbkiipcfdcdgaaGreatDoorGvTra
import Derived.Test.YtcbkiipcfdcdgaaGreatDoorShelfG
import Derived.Test.YtcbkiipcfdcdgaaGreatDoorGvIns
import Derived.WalkKit
namespace Go.Proofs.YtcbkiipcfdcdgaaGreatDoor.Ev
open Go Go.Proofs Go.Shelf Go.RowKit Go.Lib Go.Sort
set_option maxRecDepth 100000
set_option linter.unusedVariables false
set_option linter.unusedSimpArgs false
def cfName (x y : ByteArray × ByteArray) : Int := if Op.bytesLess x.1.toList y.1.toList = true then -1 else 1
set_option maxHeartbeats 1000000 in
theorem walk66 (a1 a2 b1 b2 : ByteArray) (W : World) : Calls Tryz.prog 66 #[.agg #[.string a1, .string a2], .agg #[.string b1, .string b2]] W fun e w' => e = .returned (.int .i64 (if Op.bytesLess a1.toList b1.toList = true then -1 else 1)) ∧ ∃ q os', w' = grow (W.drewN q) os' := by
  cases hlt : Op.bytesLess a1.toList b1.toList with
  | true =>
    go_enter Tryz.func66, Tryz.ntmps66
    go_wp2
    go_ret
    exact ⟨rfl, 0, _, by rw [alloc_eq_grow, alloc_eq_grow, grow_grow]; rfl⟩
  | false =>
    go_enter Tryz.func66, Tryz.ntmps66
    go_wp2
    go_ret
    exact ⟨rfl, 0, _, by rw [alloc_eq_grow, alloc_eq_grow, grow_grow]; rfl⟩
theorem ltOf_name (x y : ByteArray × ByteArray) : ltOf cfName x y = decide (x.1.toList < y.1.toList) := by
  unfold ltOf cfName
  rw [bytesLess_eq]
  by_cases h : x.1.toList < y.1.toList
  · simp [h]
  · simp [h]
theorem swoName : SWO (ltOf cfName) where
  irrefl x := by rw [ltOf_name]; simp [List.lt_irrefl]
  trans x y z h1 h2 := by
    rw [ltOf_name] at *
    exact decide_eq_true (List.lt_trans (of_decide_eq_true h1) (of_decide_eq_true h2))
  ntrans x y z h1 h2 := by
    rw [ltOf_name] at *
    have h1 := of_decide_eq_false h1
    have h2 := of_decide_eq_false h2
    exact decide_eq_false fun h => by
      have a1 : y.1.toList ≤ x.1.toList := List.not_lt.1 h1
      have a2 : z.1.toList ≤ y.1.toList := List.not_lt.1 h2
      exact absurd (List.le_trans a2 a1) (List.not_le.2 h)
theorem cmpOK66 : CmpOK Tryz.prog 66 KPair cfName := ⟨swoName, enters_of Tryz.func66 (by kernel_rfl) rfl, fun w0 F c1 c2 x y w h1 h2 => by
  rw [rd_pair h1, rd_pair h2]
  exact walk66 x.1 x.2 y.1 y.2 w⟩
def tab65 (g : Nat) : Option (KPair.T → KPair.T → Int) := if g = 66 then some cfName else none
def S65 (_ : Nat) (l : List KPair.T) (gs : List Nat) : Option (List KPair.T) := match gs with
  | [g] => (tab65 g).bind fun cf => sortF cf l
  | _ => none
def IO65 : IoFn := ⟨KPair, S65⟩
theorem okIO65 : IoOK Tryz.prog JS 65 IO65 := ioOK_sortFunc (ρ := Tryz.sortPair_ren) (e := KPair) Tryz.sortPair Tryz.isAgg37 Tryz.sizeOf37 (by decide) ⟨Tryz.f65, rfl, rfl, by decide⟩ tab65 fun g cf h => by
  unfold tab65 at h
  split at h
  · rename_i e
    cases h
    rw [e]; exact cmpOK66
  · cases h
def S64 (_ : Nat) (l : List ByteArray) (gs : List Nat) : Option (List ByteArray) := match gs with
  | [] => sortStr l
  | _ => none
def IO64 : IoFn := ⟨.str, S64⟩
theorem okIO64 : IoOK Tryz.prog JS 64 IO64 := ioOK_sortStr (ρ := Tryz.sortStr_ren) Tryz.sortStr ⟨Tryz.f64, rfl, rfl, by decide⟩
end Go.Proofs.YtcbkiipcfdcdgaaGreatDoor.Ev
