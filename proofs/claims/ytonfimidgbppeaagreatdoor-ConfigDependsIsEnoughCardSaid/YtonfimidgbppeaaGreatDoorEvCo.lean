/- slices.Compact at strings as a function of the evaluator (this session's own; from the shelf's contract). The conditions stand in each statement. -/
import Derived.Test.YtonfimidgbppeaaGreatDoorEv2
import Derived.Test.YtonfimidgbppeaaGreatDoorEv9
import Derived.Shelf.SlicesG.CompactS
namespace Go.Proofs.YtonfimidgbppeaaGreatDoor.Ev
open Go.Shelf Go.RowKit Go.Lib Go.Sort
set_option linter.unusedVariables false
set_option linter.unusedSimpArgs false
variable {P : Program} {J : Inv} {ρ : Ren}
def cmpB (l : List ByteArray) : List ByteArray := (Lib.compact (l.map fun s => s.data.toList)).map fun s => ⟨s.toArray⟩
theorem compact_len (zs : List (List UInt8)) : (Lib.compact zs).length ≤ zs.length := by
  unfold Lib.compact Lib.compactUpTo
  rw [List.length_map]
  have := List.length_filter_le (Lib.keeps zs.toArray) (List.range zs.length)
  simpa using this
theorem fnOK_compactS (L : SlLaysN.n44 P ρ) (hent : ∃ fn, P.funcs[ρ.f 44]? = some fn ∧ fn.body.isSome = true ∧ (fn.name == "runtime.NumGoroutine") = false) :
    FnOK P J (ρ.f 44) ⟨[.own .str], [.own .str], fun _ x => if x.1.length ≤ 9223372036854775807 then some (cmpB x.1) else none⟩ := by
  refine ⟨hent, fun k B vals x y hB hA hnd hG hf => ?_⟩
  obtain ⟨l, u⟩ := x
  dsimp only at hf
  split at hf
  rotate_left
  · cases hf
  rename_i hcond
  cases hf
  obtain ⟨v, r, rfl, hv, rfl⟩ := hA
  have hob : ObRep B.w0 B.F0 [] v (.arr .str l) := hv
  rcases hob with ⟨rfl, rfl⟩ | ⟨b, off, cap, c, t, fr, rfl, h2, h3, h4, h5, h6⟩
  · refine (AnyG.slices_Compact_string_empty L none 0 B.w0).mono fun e' w' ⟨q1, q2⟩ => ?_
    subst q2
    refine ⟨[.slice none 0 0], q1, ⟨_, rfl, .inl ⟨rfl, rfl⟩⟩, List.nodup_nil, fun b hb => (by cases hb), ⟨rfl, rfl, rfl, Nat.le_refl _, fun _ _ _ => rfl⟩⟩
  have hbG : B.G b ∧ b < B.n0 := hG b (by simp [ownBs, bOf])
  have hlt : b < B.w0.heap.size := hbG.2
  let ss : List (List UInt8) := l.map fun s => s.data.toList
  have hsl : ss.length = l.length := by simp [ss]
  have henc : ∀ s : ByteArray, encStr s.data.toList = .string s := fun s => by
    unfold encStr
    congr 1
  have hcell : ∀ i (hi : i < l.length), c[off + i]? = some (.string l[i]) := fun i hi => by
    obtain ⟨cs, e1, e2, e3⟩ := h6 i hi
    have := e2 0 (by show 0 < 1; omega)
    rw [show Kd.sz .str = 1 from rfl, Nat.mul_one, Nat.add_zero] at this
    rw [this, show cs = _ from e3]; rfl
  have h4 : off + cap ≤ c.size := by
    have := h4
    rw [show Kd.sz .str = 1 from rfl, Nat.mul_one] at this
    exact this
  have hH : Holds encStr B.w0 b off ss.toArray := fun j hj => by
    have hj' : j < l.length := by simpa [ss] using hj
    refine ⟨?_, ?_⟩
    · unfold World.cell?
      rw [h2]
      dsimp only
      rw [hcell j hj', getElem!_pos ss.toArray j hj]
      simp only [List.getElem_toArray, ss, List.getElem_map, henc]
      rfl
    · unfold World.frozen?
      rw [h2]
      exact h3 (off + j) (by omega)
  have hcall := AnyG.slices_Compact_string L b off cap ss B.w0 hH (by rw [hsl]; exact hcond) (by rw [hsl]; exact h5)
  rw [hsl] at hcall
  refine hcall.mono fun e' w' ⟨q1, n, hw⟩ => ?_
  have hcl : (Lib.compact ss).length ≤ l.length := by rw [← hsl]; exact compact_len ss
  have hyl : (cmpB l).length = (Lib.compact ss).length := by simp [cmpB, ss]
  have hal : (Lib.compact ss ++ List.replicate (l.length - (Lib.compact ss).length) []).length = l.length := by simp; omega
  generalize har : Lib.compact ss ++ List.replicate (l.length - (Lib.compact ss).length) ([] : List UInt8) = ar at hw hal
  have hbl : w'.heap[b]? = some (.cells (Go.Sort.putCells encStr off ar.toArray c) t fr) := by
    rw [hw]
    unfold putRow mapBlock
    dsimp only
    rw [Array.getElem?_modify, if_pos rfl]
    show Option.map _ (B.w0.heap[b]?) = _
    rw [h2]; rfl
  have hsz : w'.heap.size = B.w0.heap.size := by rw [hw]; simp [putRow, mapBlock, Sort.ahead]
  refine ⟨[.slice (some ⟨b, off, none⟩) (cmpB l).length cap], by rw [q1, hyl]; rfl, ⟨_, rfl, .inr ⟨b, off, cap, _, t, fr, rfl, hbl, ?_, ?_, by rw [hyl]; omega, fun i hi => ?_⟩⟩, ?_, ?_, ⟨by rw [hw]; rfl, by rw [hw]; rfl, by rw [hw]; rfl, by rw [hsz]; exact Nat.le_refl _, fun b' hb' hn => ?_⟩⟩
  · simp only [Go.Sort.putCells, Array.size_mapIdx]; exact h3
  · simp only [Go.Sort.putCells, Array.size_mapIdx]
    rw [show Kd.sz .str = 1 from rfl, Nat.mul_one]; exact h4
  · refine ⟨[.string (cmpB l)[i]], rfl, fun j hj => ?_, rfl⟩
    have hj : j = 0 := by
      have : j < 1 := hj
      omega
    subst hj
    rw [show Kd.sz .str = 1 from rfl, Nat.mul_one, Nat.add_zero]
    have hi2 : i < (Lib.compact ss).length := by rw [← hyl]; exact hi
    have h5' : l.length ≤ cap := h5
    have hin : off + i < c.size := by omega
    simp only [Go.Sort.putCells, Array.getElem?_mapIdx]
    rw [Array.getElem?_eq_getElem hin]
    simp only [Option.map_some, List.size_toArray]
    rw [if_pos ⟨by omega, by omega⟩, show off + i - off = i by omega, getElem!_pos _ _ (by simp only [List.size_toArray]; omega)]
    simp only [List.getElem_toArray]
    subst har
    rw [List.getElem_append_left hi2]
    simp only [cmpB, List.getElem_map]
    rfl
  · simp [ownRs, bOf]
  · intro b' hb'
    have : b' = b := by simpa [ownRs, bOf] using hb'
    subst this
    exact ⟨Or.inr hbG.1, by rw [hsz]; exact hlt⟩
  · have hne : b ≠ b' := fun q => hn (q ▸ hbG.1)
    rw [hw]
    unfold putRow mapBlock
    dsimp only
    rw [Array.getElem?_modify, if_neg hne]
    rfl
end Go.Proofs.YtonfimidgbppeaaGreatDoor.Ev
