/- slices.Sort of two strings, or of none, as a function of the evaluator (this session's own; out of XEvSs). No condition. -/
import Derived.Test.YtbliiipcjbmbiaaGreatDoorGc
import Derived.Test.YtbliiipcjbmbiaaGreatDoorGvAwk
import Derived.Test.YtbliiipcjbmbiaaGreatDoorShelfW
namespace Go.Proofs.YtbliiipcjbmbiaaGreatDoor.Ev
open Go Go.Proofs Go.RowKit Go.Shelf
set_option linter.unusedVariables false
set_option linter.unusedSimpArgs false
set_option maxRecDepth 100000
theorem IoOK.sub {P : Program} {J : Inv} {g : Nat} {e : Kd} {f f' : Nat → List e.T → List Nat → Option (List e.T)} (h : IoOK P J g ⟨e, f⟩) (hs : ∀ k l gs r, f' k l gs = some r → f k l gs = some r) : IoOK P J g ⟨e, f'⟩ :=
  ⟨h.enters, fun k B F0 v l gs l' a b c d hy => h.ok k B F0 v l gs l' a b c d (hs _ _ _ _ hy)⟩
def sortTwo (l : List ByteArray) : Option (List ByteArray) := match l with
  | [] => some []
  | [a, b] => match decide (a.data.toList ≤ b.data.toList) with
    | true => some [a, b]
    | false => some [b, a]
  | _ => none
theorem sortTwo_of {l r : List ByteArray} (h : sortTwo l = some r) : sortStr l = some r := by
  match l, h with
  | [], h => cases h; simp [sortStr]
  | [a, b], h =>
    unfold sortTwo at h
    dsimp only at h
    split at h
    · rename_i q
      cases h
      simp only [decide_eq_true_eq] at q
      have q' : a.data ≤ b.data := by simpa using q
      simp [sortStr, List.mergeSort, List.MergeSort.Internal.splitInTwo, List.merge, q']
    · rename_i q
      cases h
      simp only [decide_eq_false_iff_not] at q
      have q' : ¬ a.data ≤ b.data := by simpa using q
      simp [sortStr, List.mergeSort, List.MergeSort.Internal.splitInTwo, List.merge, q']
def S67 (_ : Nat) (l : List ByteArray) (gs : List Nat) : Option (List ByteArray) := match gs with
  | [] => sortTwo l
  | _ => none
def IO67 : IoFn := ⟨.str, S67⟩
theorem okIO67 : IoOK Tryz.prog JS 67 IO67 :=
  (ioOK_sortStr (ρ := Tryz.sortStr_ren) Tryz.sortStr ⟨Tryz.f67, rfl, rfl, by decide⟩).sub fun k l gs r h => by
    cases gs with
    | nil => exact sortTwo_of h
    | cons _ _ => cases h
end Go.Proofs.YtbliiipcjbmbiaaGreatDoor.Ev
