/- slices.Sort at strings as a function of the evaluator that writes in place (this session's own; from the shelf's contract). The conditions stand in each statement. -/
import Derived.Test.YtonfimidgbppeaaGreatDoorEv2
import Derived.Test.YtonfimidgbppeaaGreatDoorEv9
import Derived.Shelf.SortM.Plain
import Derived.Shelf.SortM.SortNone
namespace Go.Proofs.YtonfimidgbppeaaGreatDoor.Ev
open Go.Shelf Go.RowKit Go.Lib Go.Sort
set_option linter.unusedVariables false
set_option linter.unusedSimpArgs false
variable {P : Program} {J : Inv} {ρ : Ren}
def sortStr (l : List ByteArray) : Option (List ByteArray) := if l.length < 4611686018427387904 then some (l.mergeSort fun a b => decide (a.data.toList ≤ b.data.toList)) else none
theorem ioOK_sortStr (L : SlLaysM.n6 P ρ) (hent : ∃ fn, P.funcs[ρ.f 6]? = some fn ∧ fn.body.isSome = true ∧ (fn.name == "runtime.NumGoroutine") = false) :
    IoOK P J (ρ.f 6) ⟨.str, fun _ l gs => match gs with
      | [] => sortStr l
      | _ => none⟩ := by
  refine ⟨hent, fun k B F0 v l gs l' hB hF0 hob hG hf => ?_⟩
  dsimp only at hf hob l'
  cases gs with
  | cons g gr => cases hf
  | nil =>
  dsimp only at hf
  unfold sortStr at hf
  split at hf
  rotate_left
  · cases hf
  rename_i hcond
  cases hf
  rcases hob with ⟨rfl, rfl⟩ | ⟨b, off, cap, c, t, fr, rfl, h2, h3, h4, h5, h6⟩
  · refine (AnyM.slices_Sort_string_none L none 0 B.w0).mono fun e' w' ⟨q1, q2⟩ => ?_
    subst q2
    refine ⟨q1, ⟨rfl, rfl, rfl, Nat.le_refl _, fun _ _ _ => rfl⟩, .inl ⟨rfl, by simp⟩⟩
  have hbG := hG b rfl
  have hlt : b < B.w0.heap.size := hbG.2
  let ss : List (List UInt8) := l.map fun s => s.data.toList
  have hsl : ss.length = l.length := by simp [ss]
  have henc : ∀ s : ByteArray, encStr s.data.toList = .string s := fun s => by
    unfold encStr
    congr 1
  have hcell : ∀ i (hi : i < l.length), c[off + i]? = some (.string l[i]) := fun i hi => by
    obtain ⟨cs, e1, e2, e3⟩ := h6 i hi
    have := e2 0 (by show 0 < 1; omega)
    rw [show Kd.sz .str = 1 from rfl, Nat.mul_one, Nat.add_zero] at this
    rw [this, show cs = _ from e3]; rfl
  have h4 : off + cap ≤ c.size := by
    have := h4
    rw [show Kd.sz .str = 1 from rfl, Nat.mul_one] at this
    exact this
  have hH : Holds encStr B.w0 b off ss.toArray := fun j hj => by
    have hj' : j < l.length := by simpa [ss] using hj
    refine ⟨?_, ?_⟩
    · unfold World.cell?
      rw [h2]
      dsimp only
      rw [hcell j hj', getElem!_pos ss.toArray j hj]
      simp only [List.getElem_toArray, ss, List.getElem_map, henc]
      rfl
    · unfold World.frozen?
      rw [h2]
      exact h3 (off + j) (by omega)
  have hcall := AnyM.slices_Sort_string L b off cap ss B.w0 hH hlt (by rw [hsl]; exact hcond)
  rw [hsl] at hcall
  refine hcall.mono fun e' w' ⟨q1, n, os, hw⟩ => ?_
  have hl' : (l.mergeSort fun a b => decide (a.data.toList ≤ b.data.toList)).length = l.length := List.length_mergeSort _
  have hmap : (ss.mergeSort fun x y => decide (x ≤ y)) = (l.mergeSort fun a b => decide (a.data.toList ≤ b.data.toList)).map fun s => s.data.toList := by
    rw [List.map_mergeSort (r := fun a b : ByteArray => decide (a.data.toList ≤ b.data.toList)) (s := fun x y : List UInt8 => decide (x ≤ y)) (f := fun s : ByteArray => s.data.toList) (fun a _ b _ => rfl)]
  rw [hmap] at hw
  have hbl : w'.heap[b]? = some (.cells (Go.Sort.putCells encStr off ((l.mergeSort fun a b => decide (a.data.toList ≤ b.data.toList)).map fun s => s.data.toList).toArray c) t fr) := by
    rw [hw]
    unfold grow putRow mapBlock
    dsimp only
    rw [Array.getElem?_append_left (by simp [Sort.ahead]; exact hlt), Array.getElem?_modify, if_pos rfl]
    show Option.map _ (B.w0.heap[b]?) = _
    rw [h2]; rfl
  refine ⟨q1, ⟨by rw [hw]; rfl, by rw [hw]; rfl, by rw [hw]; rfl, by rw [hw]; simp [grow, Sort.ahead, Base.n0], fun b' hb' hn => ?_⟩, .inr ⟨b, off, cap, _, t, fr, by rw [hl'], hbl, ?_, ?_, by rw [hl']; exact h5, fun i hi => ?_⟩⟩
  · have hne : b ≠ b' := fun q => hn (q ▸ hbG.1)
    rw [hw]
    unfold grow putRow mapBlock
    dsimp only
    rw [Array.getElem?_append_left (by simp [Sort.ahead]; exact hb'), Array.getElem?_modify, if_neg hne]
    rfl
  · simp only [Go.Sort.putCells, Array.size_mapIdx]; exact h3
  · simp only [Go.Sort.putCells, Array.size_mapIdx]
    rw [show Kd.sz .str = 1 from rfl, Nat.mul_one]; exact h4
  · refine ⟨[.string (l.mergeSort fun a b => decide (a.data.toList ≤ b.data.toList))[i]], rfl, fun j hj => ?_, rfl⟩
    have hj : j = 0 := by
      have : j < 1 := hj
      omega
    subst hj
    rw [show Kd.sz .str = 1 from rfl, Nat.mul_one, Nat.add_zero]
    have hi2 : i < l.length := by rw [hl'] at hi; exact hi
    have h5' : l.length ≤ cap := h5
    have hin : off + i < c.size := by omega
    simp only [Go.Sort.putCells, Array.getElem?_mapIdx]
    rw [Array.getElem?_eq_getElem hin]
    simp only [Option.map_some, List.size_toArray, List.length_map]
    rw [if_pos ⟨by omega, by rw [hl']; omega⟩, show off + i - off = i by omega, getElem!_pos _ _ (by simpa using hi)]
    simp only [List.getElem_toArray, List.getElem_map, henc]
    rfl
end Go.Proofs.YtonfimidgbppeaaGreatDoor.Ev
