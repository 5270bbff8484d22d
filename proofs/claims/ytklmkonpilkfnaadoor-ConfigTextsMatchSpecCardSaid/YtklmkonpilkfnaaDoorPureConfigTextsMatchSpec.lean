/- ConfigTextsMatchSpec: the plain law (this session's own). No condition but those in the statement. -/
import Derived.Test.YtklmkonpilkfnaaDoorPcG
import Derived.Test.YtklmkonpilkfnaaDoorStConfigTextsMatchSpec
namespace Go.Proofs.YtklmkonpilkfnaaDoor.Ev
open Go Go.RowKit
set_option linter.unusedVariables false
theorem setSz_of {L : List Setting} (h : WfS 40 (fun x : Setting => x.1.size ≤ 140737488351232 ∧ WfS 16 (fun s : ByteArray => s.size ≤ 140737488351232) x.2) L) : SetSz L :=
  ⟨h.2.1, fun s hs => ⟨(h.2.2 s hs).1, (h.2.2 s hs).2.2.1, (h.2.2 s hs).2.2.2⟩⟩
theorem pairSz_of {L : List Pair} (h : WfS 32 (fun x : Pair => x.1.size ≤ 140737488351232 ∧ x.2.size ≤ 140737488351232) L) : PairSz L := ⟨h.2.1, h.2.2⟩
theorem Ultk.some {f : Nat → Option Bool} (h : Ultk f true) : ∃ k, f k = Option.some true := by
  obtain ⟨K, h⟩ := h
  exact ⟨K, h K (Nat.le_refl _)⟩
theorem word_no {s : ByteArray} (h : isWord s = true) (c : UInt8) (hc : wc (c.toNat : Int) = false) : c ∉ s.data.toList := fun hm => by
  have := isWord_all h
  unfold allW at this
  rw [List.all_eq_true] at this
  rw [this c hm] at hc; cases hc
theorem partOf_data (p : Pair) : (partOf p).data.toList = p.1.data.toList ++ 61 :: p.2.data.toList := by
  unfold partOf
  simp [ByteArray.data_append]
theorem cut_part {p : Pair} (h1 : isWord p.1 = true) : cutB (partOf p) = (p.1, p.2, true) := by
  unfold cutB
  rw [partOf_data, cut_first _ (word_no h1 61 (by decide))]
  simp only [mkB_of]
theorem readGo_parts {L : List Setting} : ∀ (r acc : List Pair) (n : Int), (∀ p ∈ r, isWord p.1 = true ∧ isWord p.2 = true) → chkSet L true none (acc ++ r) = 0 → readGo L acc n (r.map partOf) = (acc ++ r, 0, 0)
  | [], acc, n, _, h => by
    rw [List.append_nil] at h ⊢
    rw [List.map_nil, readGo, if_neg (by rw [h]; simp)]
  | p :: r, acc, n, hw, h => by
    obtain ⟨w1, w2⟩ := hw p (by simp)
    have hc := cut_part w1
    have hwr : wrongPart (partOf p) = false := by unfold wrongPart; rw [hc, w1, w2]; rfl
    rw [List.map_cons, readGo, if_neg (by rw [hwr]; simp), hc]
    have := readGo_parts r (acc ++ [(p.1, p.2)]) (iadd .i64 n (iadd .i64 (ssz (partOf p)) 1)) (fun q hq => hw q (by simp [hq])) (by simpa using h)
    rw [this]
    simp
theorem read_text {L : List Setting} {C : List Pair} (h : chkConfig L C = 0) : (cfgText L C).1.size < 4294967281 ∧ readCfg L (cfgText L C).1 = (C, 0, 0) := by
  obtain ⟨h1, h2⟩ := chkConfig_ok h
  have hw := cfg_words h1 h2
  obtain ⟨h30, hp⟩ := part_small h
  have hr : ∀ s, readCfg L s = if s = ⟨#[45]⟩ then ([], 0, 0) else readGo L [] 0 (partsB s) := fun s => by unfold readCfg; rw [if_neg (by rw [h1]; simp)]
  have ht : cfgText L C = if C = [] then (⟨#[45]⟩, 0) else (joinB (C.map partOf), 0) := by unfold cfgText; rw [if_neg (by rw [h]; simp)]
  rw [hr, ht]
  cases C with
  | nil => exact ⟨by decide, by rw [if_pos rfl, if_pos rfl]⟩
  | cons p r =>
    rw [if_neg (by simp)]
    have hd : (joinB ((p :: r).map partOf)).data.toList = Lib.join ((partOf p).data.toList :: r.map fun q => (partOf q).data.toList) [44] := by
      unfold joinB
      simp [Function.comp_def]
    have hno : ∀ q ∈ p :: r, (44 : UInt8) ∉ (partOf q).data.toList := fun q hq hm => by
      rw [partOf_data] at hm
      obtain ⟨w1, w2⟩ := hw q hq
      rcases List.mem_append.1 hm with m | m
      · exact word_no w1 44 (by decide) m
      · rcases List.mem_cons.1 m with m | m
        · cases m
        · exact word_no w2 44 (by decide) m
    have hsp : partsB (joinB ((p :: r).map partOf)) = (p :: r).map partOf := by
      unfold partsB
      rw [hd, splitL_join _ _ (hno p (by simp)) fun y hy => by
        obtain ⟨q, hq, rfl⟩ := List.mem_map.1 hy
        exact hno q (by simp [hq])]
      simp [mkB_of, Function.comp_def]
    have hlen := join_len [44] 81 ((partOf p).data.toList :: r.map fun q => (partOf q).data.toList) fun x hx => by
      have : ∃ q ∈ p :: r, x = (partOf q).data.toList := by
        rcases List.mem_cons.1 hx with rfl | hx
        · exact ⟨p, by simp, rfl⟩
        · obtain ⟨q, hq, rfl⟩ := List.mem_map.1 hx
          exact ⟨q, by simp [hq], rfl⟩
      obtain ⟨q, hq, rfl⟩ := this
      have := hp q hq
      rw [← size_list, partOf_size]; omega
    rw [← hd, ← size_list, List.length_cons, List.length_map] at hlen
    have h3 : (r.length + 1) * (81 + [(44 : UInt8)].length) ≤ 30 * 82 := Nat.mul_le_mul_right _ (by simpa using h30)
    refine ⟨Nat.lt_of_le_of_lt (Nat.le_trans hlen h3) (by decide), ?_⟩
    rw [if_neg, hsp, readGo_parts (p :: r) [] 0 hw (by simpa using h2)]
    · rfl
    · intro e
      have e1 : partsB ⟨#[45]⟩ = [⟨#[45]⟩] := by decide
      dsimp only at e
      rw [e, e1] at hsp
      have h4 := congrArg (fun l => l.map ByteArray.size) hsp
      simp only [List.map_cons, List.map_nil, List.cons.injEq] at h4
      have h5 := h4.1
      rw [partOf_size] at h5
      have := (isWord_size (hw p (by simp)).1).1
      have h6 : (⟨#[45]⟩ : ByteArray).size = 1 := rfl
      omega
theorem ConfigTextsMatchSpecPure : ConfigTextsMatchSpecStated := by
  intro L C hL hC
  have hL := setSz_of hL
  have hC := pairSz_of hC
  have hCl : C.length ≤ 140737488355328 := by have := hC.len; omega
  refine Ultk.some ?_
  unfold S8
  refine Ult.bind (S13_spec L hL) (Ult.bind (S14_spec C (by have := hC.1; omega)) ?_)
  refine Ult.bind (S45_spec L C hL hCl) (Ult.bind (S46_spec L C hL hCl) (Ult.jn ?_))
  refine Ult.no (by rw [ine_eq]; simp) (Ult.no (by rw [sne_eq]; simp) ?_)
  refine Ult.bind (S21_self L hL) (Ult.no rfl (Ult.bind (S22_self C (by omega)) (Ult.no rfl (Ult.bind S23_spec (Ult.no rfl ?_)))))
  have h2 : (cfgText L C).2 = chkConfig L C := by
    unfold cfgText
    by_cases h : chkConfig L C = 0
    · rw [if_neg (by rw [h]; simp), h]
      split <;> rfl
    · rw [if_pos h]
  by_cases h : chkConfig L C = 0
  · refine Ult.no (by rw [ine_eq, h2, h]; simp) ?_
    obtain ⟨r1, r2⟩ := read_text h
    refine Ult.bind (S47_spec L (cfgText L C).1 hL r1) ?_
    rw [r2]
    exact Ult.yes rfl (Ult.yes rfl (Ult.bind (S22_self C (by omega)) Ult.ret))
  · exact Ult.yes (by rw [ine_eq, h2]; simpa using h) Ult.ret
end Go.Proofs.YtklmkonpilkfnaaDoor.Ev
