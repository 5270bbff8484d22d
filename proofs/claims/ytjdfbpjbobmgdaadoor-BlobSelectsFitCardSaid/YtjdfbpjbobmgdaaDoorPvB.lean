/- Laws of BlobSelects: paths and patterns (this session's own). No condition but those in the statements. -/
import Derived.Test.YtjdfbpjbobmgdaaDoorPvA
namespace Go.Proofs.YtjdfbpjbobmgdaaDoor.Ev
open Go Go.RowKit
set_option linter.unusedVariables false
set_option linter.unusedSimpArgs false
theorem ssz_lt {s : ByteArray} {j : Nat} (h : ilt (j : Int) (ssz s) = true) : j < s.size := by
  have := ilt_true h
  unfold ssz at this
  omega
theorem S23_fin (c : Int) : Fink (fun k => S23 k (c, ())) (fun _ => True) := by
  unfold S23 S43
  repeat' first
    | exact Fin.ret trivial
    | exact Fin.bindc rfl (Fin.ret trivial)
    | refine Fin.ite (fun _ => ?_) (fun _ => ?_)
theorem S35_fin (s : ByteArray) (hs : s.size ≤ 4294967280) : Fink (fun k => S35 k (s, ())) (fun _ => True) := by
  unfold S35
  refine Fin.loopI (fun _ => Nat.le_refl _) (fun x => ∃ j : Nat, j ≤ s.size ∧ x = (j : Int)) (fun x => s.size - x.toNat) ⟨0, Nat.zero_le _, rfl⟩ ?_
  rintro _ ⟨j, hj, rfl⟩ next
  refine Fin.ite (fun hc => ?_) (fun _ => ?_)
  · have hlt : j < s.size := ssz_lt hc
    refine Fin.bindc (bt?_nat hlt) (Fin.bind (Fin.call (f := fun k => S23 k (bt s (j : Int), ())) (lp_le _ _ fun _ => Nat.le_refl _) (S23_fin _)) fun b _ => ?_)
    refine Fin.ite (fun _ => Fin.ret trivial) (fun _ => ?_)
    rw [iadd64 (by omega) (by omega)]
    exact next _ ⟨j + 1, hlt, rfl⟩ (by omega)
  · repeat' first
      | exact Fin.ret trivial
      | refine Fin.ite (fun _ => ?_) (fun _ => ?_)
theorem igt_false {a b : Int} (h : igt a b = false) : a ≤ b := by
  have := of_decide_eq_false (show decide (a > b) = false from h)
  omega
theorem igt_true {a b : Int} (h : igt a b = true) : b < a := of_decide_eq_true h
theorem splitB_sizes (sep : ByteArray) : ∀ (k : Nat) (s x : ByteArray), x ∈ Lib.splitB sep 0 k s → x.size ≤ s.size
  | 0, s, x, h => by
    rw [Lib.splitB_zero, List.mem_singleton] at h
    rw [h]
    exact Nat.le_refl _
  | k + 1, s, x, h => by
    unfold Lib.splitB at h
    split at h
    · rw [List.mem_singleton] at h
      rw [h]
      exact Nat.le_refl _
    · rcases List.mem_cons.1 h with rfl | h
      · rw [ByteArray.size_extract]
        omega
      · have := splitB_sizes sep k _ x h
        rw [ByteArray.size_extract] at this
        omega
abbrev sl : ByteArray := ⟨#[47]⟩
@[irreducible] def sp (a : ByteArray) : List ByteArray := Lib.splitB sl 0 (Lib.countB a sl) a
theorem sp_len (a : ByteArray) : (sp a).length ≤ a.size + 1 := by
  have h1 := Lib.splitB_all sl (by decide) 0 (Lib.countB a sl) a rfl
  have h2 := Lib.countB_le sl (by decide) a.size a (Nat.le_refl _)
  unfold sp
  omega
theorem sp_sizes (a x : ByteArray) (h : x ∈ sp a) : x.size ≤ a.size := by
  unfold sp at h
  exact splitB_sizes _ _ _ _ h
theorem sl_size : 1 ≤ sl.size := by decide
theorem S21_spec (s : ByteArray) (h : s.size < 4294967281) : Ultk (fun k => S21 k (s, sl, ())) (sp s) := by
  unfold S21 sp
  exact ⟨0, fun _ _ => if_pos ⟨h, sl_size⟩⟩
theorem S17_fin (s : ByteArray) : Fink (fun k => S17 k (s, ())) (fun b => b = true → s.size ≤ 200) := by
  unfold S17
  refine Fin.ite (fun _ => Fin.ret (by simp)) (fun _ => Fin.ite (fun _ => Fin.ret (by simp)) (fun h2 => ?_))
  have hs : s.size ≤ 200 := by
    have := igt_false h2
    unfold ssz at this
    dsimp only at this
    omega
  refine Fin.bindu (Ult.call (f := fun k => S21 k (s, sl, ())) (fun _ => Nat.le_refl _) (S21_spec s (by omega))) ?_
  have hl := sp_len s
  refine Fin.loopI (fun _ => Nat.le_refl _) (fun x => ∃ j : Nat, j ≤ (sp s).length ∧ x = (j : Int)) (fun x => (sp s).length - x.toNat) ⟨0, Nat.zero_le _, rfl⟩ ?_
  rintro _ ⟨j, hj, rfl⟩ next
  refine Fin.ite (fun hc => ?_) (fun _ => Fin.ret fun _ => hs)
  have hlt : j < (sp s).length := len_lt hc
  have hsz := sp_sizes s _ (List.getElem_mem hlt)
  have h35 := S35_fin (sp s)[j] (by omega)
  refine Fin.bindc (at?_nat hlt) ?_
  refine Fin.bind (Fin.call (f := fun k => S35 k ((sp s)[j], ())) (lp_le _ _ fun _ => Nat.le_refl _) h35) fun b _ => ?_
  refine Fin.ite (fun _ => Fin.ret (by simp)) (fun _ => ?_)
  rw [iadd64 (by omega) (by omega)]
  exact next _ ⟨j + 1, hlt, rfl⟩ (by omega)

theorem S22_spec (s sub : ByteArray) (h : s.size < 4294967281) : Ultk (fun k => S22 k (s, sub, ())) (Lib.contains s.data.toList sub.data.toList) := by
  unfold S22
  exact ⟨0, fun _ _ => if_pos h⟩
theorem S8_fin (p : ByteArray) : Fink (fun k => S8 k (p, ())) (fun r => r = 0 → p.size ≤ 200) := by
  unfold S8
  refine Fin.ite (fun _ => Fin.ret (by simp)) (fun _ => Fin.ite (fun _ => Fin.ret (by simp)) (fun h2 => ?_))
  have hs : p.size ≤ 200 := by
    have := igt_false h2
    unfold ssz at this
    dsimp only at this
    omega
  have h21 := S21_spec p (by omega)
  refine Fin.bindu (Ult.call (f := fun k => S21 k (p, sl, ())) (fun _ => Nat.le_refl _) h21) ?_
  have hl := sp_len p
  refine Fin.loopI (fun _ => Nat.le_refl _) (fun x => ∃ j : Nat, j ≤ (sp p).length ∧ x = (j : Int)) (fun x => (sp p).length - x.toNat) ⟨0, Nat.zero_le _, rfl⟩ ?_
  rintro _ ⟨j, hj, rfl⟩ next
  refine Fin.ite (fun hc => ?_) (fun _ => Fin.ret fun _ => hs)
  have hlt : j < (sp p).length := len_lt hc
  have hsz := sp_sizes p _ (List.getElem_mem hlt)
  have nx := next (j + 1 : Nat) ⟨j + 1, hlt, rfl⟩ (by omega)
  have hi : iadd .i64 (j : Int) 1 = ((j + 1 : Nat) : Int) := by rw [iadd64 (by omega) (by omega)]; rfl
  refine Fin.bindc (at?_nat hlt) ?_
  rw [hi]
  refine Fin.ite (fun _ => nx) (fun _ => ?_)
  refine Fin.ite (fun _ => Fin.ret (by simp)) (fun _ => ?_)
  refine Fin.ite (fun _ => Fin.ret (by simp)) (fun _ => ?_)
  refine Fin.ite (fun _ => Fin.ret (by simp)) (fun _ => ?_)
  have h22 := S22_spec (sp p)[j] ⟨#[42, 42]⟩ (by omega)
  refine Fin.bindu (Ult.call (f := fun k => S22 k ((sp p)[j], (⟨#[42, 42]⟩ : ByteArray), ())) (lp_le _ _ fun _ => Nat.le_refl _) h22) ?_
  refine Fin.ite (fun _ => Fin.ret (by simp)) (fun _ => ?_)
  refine Fin.loopI (lp_le _ _ fun _ => Nat.le_refl _) (fun x => ∃ i : Nat, i ≤ (sp p)[j].size ∧ x = (i : Int)) (fun x => (sp p)[j].size - x.toNat) ⟨0, Nat.zero_le _, rfl⟩ ?_
  rintro _ ⟨i, hi2, rfl⟩ next2
  refine Fin.ite (fun hc2 => ?_) (fun _ => nx.lift)
  have hlt2 : i < (sp p)[j].size := ssz_lt hc2
  have nx2 := next2 (i + 1 : Nat) ⟨i + 1, hlt2, rfl⟩ (by omega)
  have hi3 : iadd .i64 (i : Int) 1 = ((i + 1 : Nat) : Int) := by rw [iadd64 (by omega) (by omega)]; rfl
  rw [hi3]
  refine Fin.bindc (bt?_nat hlt2) ?_
  have h23 := S23_fin (bt (sp p)[j] (i : Int))
  refine Fin.bind (Fin.call (f := fun k => S23 k (bt (sp p)[j] (i : Int), ())) (lp_le _ _ (lp_le _ _ fun _ => Nat.le_refl _)) h23) fun b _ => ?_
  refine Fin.ite (fun _ => Fin.bindc (bt?_nat hlt2) (Fin.ite (fun _ => Fin.bindc (bt?_nat hlt2) (Fin.ite (fun _ => Fin.ret (by simp)) (fun _ => nx2))) (fun _ => nx2))) (fun _ => nx2)

end Go.Proofs.YtjdfbpjbobmgdaaDoor.Ev
