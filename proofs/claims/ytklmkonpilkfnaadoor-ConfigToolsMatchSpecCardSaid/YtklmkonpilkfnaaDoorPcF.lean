/- Laws of Config: the text of a configuration; the package is awake (this session's own). No condition but those in the statements. -/
import Derived.Test.YtklmkonpilkfnaaDoorPcE
namespace Go.Proofs.YtklmkonpilkfnaaDoor.Ev
open Go Go.RowKit
set_option linter.unusedVariables false
set_option linter.unusedSimpArgs false
def partOf (p : Pair) : ByteArray := p.1 ++ (⟨#[61]⟩ : ByteArray) ++ p.2
def joinB (l : List ByteArray) : ByteArray := ⟨(Lib.join (l.map (·.data.toList)) [44]).toArray⟩
def cfgText (L : List Setting) (C : List Pair) : ByteArray × Int := if chkConfig L C ≠ 0 then (⟨#[]⟩, chkConfig L C) else if C = [] then (⟨#[45]⟩, 0) else (joinB (C.map partOf), 0)
theorem joinTail_len (sep : List UInt8) (m : Nat) : ∀ (l : List (List UInt8)), (∀ x ∈ l, x.length ≤ m) → (Lib.joinTail sep l).length ≤ l.length * (m + sep.length)
  | [], _ => by simp [Lib.joinTail]
  | x :: l, h => by
    have ih := joinTail_len sep m l fun y hy => h y (by simp [hy])
    have hx := h x (by simp)
    unfold Lib.joinTail at ih ⊢
    simp only [List.map_cons, List.flatten_cons, List.length_append, List.length_cons]
    rw [Nat.add_mul]
    omega
theorem join_len (sep : List UInt8) (m : Nat) (l : List (List UInt8)) (h : ∀ x ∈ l, x.length ≤ m) : (Lib.join l sep).length ≤ l.length * (m + sep.length) := by
  cases l with
  | nil => simp [Lib.join_nil]
  | cons x l =>
    rw [Lib.join_cons, List.length_append, List.length_cons, Nat.add_mul]
    have h1 := joinTail_len sep m l fun y hy => h y (by simp [hy])
    have h2 := h x (by simp)
    omega
theorem partOf_size (p : Pair) : (partOf p).size = p.1.size + 1 + p.2.size := by
  unfold partOf
  rw [ByteArray.size_append, ByteArray.size_append]; rfl
theorem part_small {L : List Setting} {C : List Pair} (h : chkConfig L C = 0) : C.length ≤ 30 ∧ ∀ p ∈ C, p.1.size ≤ 40 ∧ p.2.size ≤ 40 := by
  obtain ⟨h1, h2⟩ := chkConfig_ok h
  have := cfg_len h2
  have := (chkSettings_ne h1).1
  exact ⟨by omega, fun p hp => ⟨(isWord_size (cfg_words h1 h2 p hp).1).2, (isWord_size (cfg_words h1 h2 p hp).2).2⟩⟩
theorem joinF_ok {l : List ByteArray} (h1 : l.length ≤ 30) (h2 : ∀ x ∈ l, x.size ≤ 81) : joinF l ⟨#[44]⟩ = some (joinB l) := by
  unfold joinF
  have hs : (⟨#[44]⟩ : ByteArray).data.toList = [44] := rfl
  rw [hs]
  have := join_len [44] 81 (l.map (·.data.toList)) fun x hx => by
    obtain ⟨y, hy, rfl⟩ := List.mem_map.1 hx
    have := h2 y hy
    simpa using this
  rw [List.length_map] at this
  have h3 : l.length * (81 + 1) ≤ 30 * 82 := Nat.mul_le_mul_right _ h1
  rw [if_pos ⟨by omega, Nat.le_trans this (Nat.le_trans h3 (by decide))⟩]
  rfl
theorem S45_spec (L : List Setting) (C : List Pair) (hL : SetSz L) (hC : C.length ≤ 140737488355328) : Ultk (fun k => S45 k (L, C, ())) (cfgText L C) := by
  unfold S45 cfgText
  refine Ult.bind (S19_spec L C hL hC) (Ult.ifS (ine_eq _ _) (fun _ => Ult.ret) fun h0 => ?_)
  obtain ⟨h30, hp⟩ := part_small (Decidable.not_not.1 h0)
  refine Ult.ifS (by rw [ieq_eq]; unfold len; simp only [decide_eq_decide]; rw [← List.length_eq_zero_iff]; omega) (fun _ => Ult.ret) fun hne => ?_
  refine Ult.forA (A := List ByteArray) (fun _ => Nat.le_refl _) C.length (fun a j => (a, (j : Int))) (fun a j => a = (C.take j).map partOf) (fun _ _ => (joinB (C.map partOf), 0)) [] (by simp) fun a j hj ha next => ?_
  subst ha
  dsimp only
  rw [iltL]
  by_cases hlt' : ¬ j < C.length
  · refine Ult.no (decide_eq_false hlt') ?_
    rw [List.take_of_length_le (by omega)]
    have hjn : ∀ k, S83 k (C.map partOf, (⟨#[44]⟩ : ByteArray), ()) = some (joinB (C.map partOf)) := fun k => joinF_ok (by rw [List.length_map]; exact h30) fun x hx => by
      obtain ⟨p, hpm, rfl⟩ := List.mem_map.1 hx
      have := hp p hpm
      rw [partOf_size]; omega
    exact Ult.bind ⟨0, fun i _ => hjn _⟩ Ult.ret
  have hlt : j < C.length := Decidable.not_not.1 hlt'
  have hpj := hp _ (List.getElem_mem hlt)
  refine Ult.yes (decide_eq_true hlt) (Ult.bindc (at?_nat hlt) ?_)
  refine Ult.bindc (cat?_ok (show C[j].1.size + (⟨#[61]⟩ : ByteArray).size ≤ _ by rw [show (⟨#[61]⟩ : ByteArray).size = 1 from rfl]; omega)) ?_
  refine Ult.bindc (cat?_ok (show (C[j].1 ++ (⟨#[61]⟩ : ByteArray)).size + C[j].2.size ≤ _ by rw [ByteArray.size_append, show (⟨#[61]⟩ : ByteArray).size = 1 from rfl]; omega)) ?_
  refine Ult.bindc (app?_ok (by simp only [List.length_map, List.length_take, List.length_cons, List.length_nil]; have := Nat.min_le_left j C.length; show (min j C.length + (0 + 1)) * 16 ≤ _; omega)) ?_
  rw [isucc hlt (by omega)]
  exact next _ hlt (by rw [List.take_succ_eq_append_getElem hlt, List.map_append]; rfl)
theorem S46_spec (L : List Setting) (C : List Pair) (hL : SetSz L) (hC : C.length ≤ 140737488355328) : Ultk (fun k => S46 k (L, C, ())) (cfgText L C) := by
  unfold S46 cfgText
  refine Ult.bind (S20_spec L C hL hC) (Ult.ifS (ine_eq _ _) (fun _ => Ult.ret) fun h0 => ?_)
  obtain ⟨h30, hp⟩ := part_small (Decidable.not_not.1 h0)
  refine Ult.ifS (by rw [ieq_eq]; unfold len; simp only [decide_eq_decide]; rw [← List.length_eq_zero_iff]; omega) (fun _ => Ult.ret) fun hne => ?_
  refine Ult.forA (A := List ByteArray) (fun _ => Nat.le_refl _) C.length (fun a j => (a, (j : Int))) (fun a j => a = (C.take j).map partOf) (fun _ _ => (joinB (C.map partOf), 0)) [] (by simp) fun a j hj ha next => ?_
  subst ha
  dsimp only
  rw [iltL]
  by_cases hlt' : ¬ j < C.length
  · refine Ult.no (decide_eq_false hlt') ?_
    rw [List.take_of_length_le (by omega)]
    have hjn : ∀ k, S83 k (C.map partOf, (⟨#[44]⟩ : ByteArray), ()) = some (joinB (C.map partOf)) := fun k => joinF_ok (by rw [List.length_map]; exact h30) fun x hx => by
      obtain ⟨p, hpm, rfl⟩ := List.mem_map.1 hx
      have := hp p hpm
      rw [partOf_size]; omega
    exact Ult.bind ⟨0, fun i _ => hjn _⟩ Ult.ret
  have hlt : j < C.length := Decidable.not_not.1 hlt'
  have hpj := hp _ (List.getElem_mem hlt)
  refine Ult.yes (decide_eq_true hlt) (Ult.bindc (at?_nat hlt) ?_)
  refine Ult.bindc (cat?_ok (show C[j].1.size + (⟨#[61]⟩ : ByteArray).size ≤ _ by rw [show (⟨#[61]⟩ : ByteArray).size = 1 from rfl]; omega)) ?_
  refine Ult.bindc (cat?_ok (show (C[j].1 ++ (⟨#[61]⟩ : ByteArray)).size + C[j].2.size ≤ _ by rw [ByteArray.size_append, show (⟨#[61]⟩ : ByteArray).size = 1 from rfl]; omega)) ?_
  refine Ult.bindc (app?_ok (by simp only [List.length_map, List.length_take, List.length_cons, List.length_nil]; have := Nat.min_le_left j C.length; show (min j C.length + (0 + 1)) * 16 ≤ _; omega)) ?_
  rw [isucc hlt (by omega)]
  exact next _ hlt (by rw [List.take_succ_eq_append_getElem hlt, List.map_append]; rfl)
theorem S23_spec : Ultk (fun k => S23 k ()) true := by
  unfold S23
  have h : cfgText [((⟨#[109]⟩ : ByteArray), [(⟨#[97]⟩ : ByteArray), (⟨#[98]⟩ : ByteArray)])] [((⟨#[109]⟩ : ByteArray), (⟨#[98]⟩ : ByteArray))] = (⟨#[109, 61, 98]⟩, 0) := by decide +kernel
  have hs := S45_spec [((⟨#[109]⟩ : ByteArray), [(⟨#[97]⟩ : ByteArray), (⟨#[98]⟩ : ByteArray)])] [((⟨#[109]⟩ : ByteArray), (⟨#[98]⟩ : ByteArray))] ⟨by decide, fun s hs => by
    obtain rfl : s = ((⟨#[109]⟩ : ByteArray), [(⟨#[97]⟩ : ByteArray), (⟨#[98]⟩ : ByteArray)]) := by simpa using hs
    refine ⟨by decide, by decide, fun v hv => ?_⟩
    rcases List.mem_cons.1 hv with rfl | hv
    · decide
    · obtain rfl : v = (⟨#[98]⟩ : ByteArray) := by simpa using hv
      decide⟩ (by decide)
  rw [h] at hs
  refine Ult.bind hs (Ult.yes rfl (Ult.ret.eq ?_))
  rw [seq_eq]
  exact decide_eq_true rfl
end Go.Proofs.YtklmkonpilkfnaaDoor.Ev
