/- Laws of BlobSelects: what Select comes to (this session's own). No condition but those in the statements. -/
import Derived.Test.YtjdfbpjbobmgdaaDoorPvD
namespace Go.Proofs.YtjdfbpjbobmgdaaDoor.Ev
open Go Go.RowKit
set_option linter.unusedVariables false
set_option linter.unusedSimpArgs false
theorem S46_spec (n : Nat) (hn : n ≤ 1000) : Ultk (fun k => S46 k ((), (n : Int), ())) ([] : List ByteArray) := by
  unfold S46
  have e0 : isub .i64 0 (len ([] : List ByteArray)) = 0 := by unfold len; rw [isub64 (by simp) (by simp)]; rfl
  have e1 : isub .i64 (n : Int) 0 = (n : Int) := by rw [isub64 (by omega) (by omega)]; omega
  dsimp only
  rw [e0, e1]
  refine Ult.no (decide_eq_false (by omega)) (Ult.ite (fun h => ?_) (fun _ => Ult.ret))
  have hp := igt_true h
  have hmk : mk? 16 (⟨#[]⟩ : ByteArray) (n : Int) (n : Int) = some (List.replicate n ⟨#[]⟩) := by
    unfold mk?
    rw [if_pos ⟨rfl, Int.natCast_nonneg _, by rw [Int.toNat_natCast]; show n * 16 ≤ _; omega⟩, Int.toNat_natCast]
  refine Ult.bindc (by unfold cut?; rw [if_pos (by simp)]) (Ult.bindc (inb_ok (i := 0) hp) (Ult.bindc hmk (Ult.bindc (by unfold cut? len; rw [if_pos (by simp)]) ?_)))
  simp only [List.length_nil, Int.natCast_zero, Int.toNat_zero, List.take_zero, List.drop_zero]
  exact Ult.ret
def tot : List (List ByteArray) → Nat
  | [] => 0
  | a :: l => a.length + tot l
theorem tot_take (L : List (List ByteArray)) (j : Nat) (h : j < L.length) : tot (L.take (j + 1)) = tot (L.take j) + L[j].length := by
  induction L generalizing j with
  | nil => cases h
  | cons a l ih =>
    cases j with
    | zero => simp [tot]
    | succ j =>
      simp only [List.take_succ_cons, tot, List.getElem_cons_succ]
      rw [ih j (by simpa using h)]; omega
theorem flat_len (L : List (List ByteArray)) : L.flatten.length = tot L := by
  induction L with
  | nil => rfl
  | cons a l ih => simp [tot, ih]
theorem tot_le (L : List (List ByteArray)) (j : Nat) : tot (L.take j) ≤ tot L := by
  induction L generalizing j with
  | nil => simp [tot]
  | cons a l ih =>
    cases j with
    | zero => simp [tot]
    | succ j => simp only [List.take_succ_cons, tot]; have := ih j; omega
theorem S28_spec (L : List (List ByteArray)) (hL : L.length ≤ 1000) (ht : tot L ≤ 1000) : Ultk (fun k => S28 k (L, ())) L.flatten := by
  unfold S28
  refine Ult.loopI (fun _ => Nat.le_refl _) (fun x => ∃ j : Nat, j ≤ L.length ∧ x = ((tot (L.take j) : Int), (j : Int))) (fun x => L.length - x.2.toNat) ⟨0, Nat.zero_le _, by simp [tot]⟩ ?_
  rintro _ ⟨j, hj, rfl⟩ next
  have hb := tot_le L j
  refine Ult.ite (fun hc => ?_) (fun hc => ?_)
  · have hlt : j < L.length := len_lt hc
    have e2 : iadd .i64 (j : Int) 1 = ((j + 1 : Nat) : Int) := by rw [iadd64 (by omega) (by omega)]; rfl
    have hb2 := tot_le L (j + 1)
    have ht2 := tot_take L j hlt
    have e1 : iadd .i64 (tot (L.take j) : Int) (len L[j]) = ((tot (L.take (j + 1)) : Nat) : Int) := by unfold len; rw [iadd64 (by omega) (by omega)]; omega
    refine Ult.bindc (at?_nat hlt) ?_
    dsimp only
    rw [e1, e2]
    refine Ult.no (decide_eq_false (by omega)) ?_
    exact next _ ⟨j + 1, hlt, rfl⟩ (by dsimp only; omega)
  · have h46 := S46_spec (tot (L.take j)) (by omega)
    refine Ult.bind (Ult.call (f := fun k => S46 k ((), (tot (L.take j) : Int), ())) (lp_le _ _ fun _ => Nat.le_refl _) h46) ?_
    refine Ult.loopI (lp_le _ _ fun _ => Nat.le_refl _) (fun x => ∃ i : Nat, i ≤ L.length ∧ x = ((L.take i).flatten, (i : Int))) (fun x => L.length - x.2.toNat) ⟨0, Nat.zero_le _, by simp⟩ ?_
    rintro _ ⟨i, hi, rfl⟩ next2
    refine Ult.ite (fun hc2 => ?_) (fun hc2 => ?_)
    · have hlt2 : i < L.length := len_lt hc2
      have e3 : iadd .i64 (i : Int) 1 = ((i + 1 : Nat) : Int) := by rw [iadd64 (by omega) (by omega)]; rfl
      have hf := flat_len (L.take i)
      have hb3 := tot_le L (i + 1)
      have ht3 := tot_take L i hlt2
      refine Ult.bindc (at?_nat hlt2) (Ult.bindc (app?_ok (by rw [hf]; show _ * 16 ≤ _; omega)) ?_)
      dsimp only
      rw [e3]
      have e4 : (L.take i).flatten ++ L[i] = (L.take (i + 1)).flatten := by rw [List.take_succ_eq_append_getElem hlt2, List.flatten_append]; simp
      rw [e4]
      exact next2 _ ⟨i + 1, hlt2, rfl⟩ (by dsimp only; omega)
    · have hie : i = L.length := by
        have : L.length ≤ i := len_ge hc2
        omega
      subst hie
      rw [List.take_length]
      exact Ult.ret
/-- does one of them hold -/
theorem S30_spec {ι : Type} {l : ι → Nat} {kk : ι → Nat} (hk : ∀ i, l i ≤ kk i) (A : List ByteArray) (m : ι → ByteArray → Option Bool) (M : ByteArray → Bool) (hm : ∀ c ∈ A, Ult l (fun i => m i c) (M c)) (hA : A.length ≤ 140737488355328) : Ult l (fun i => S30 (kk i) (A, m i, ())) (A.any M) := by
  unfold S30 S47
  have key : Ult l (fun i => loopN (kk i) (fun (a2 : (Int → (Option Int))) (a3 : Int) => cnd (ilt a3 (len A)) (bnd (at? A a3) (fun (a4 : ByteArray) => bnd (m i a4) (fun (a5 : Bool) => cnd a5 (some a3) (a2 (iadd Go.IntKind.i64 a3 1))))) (some (-1))) 0) (if A.any M then ((A.findIdx M : Nat) : Int) else -1) := by
    refine Ult.loopI hk (fun x => ∃ j : Nat, j ≤ A.length ∧ x = (j : Int) ∧ ∀ (i : Nat) (h : i < A.length), i < j → M A[i] = false) (fun x => A.length - x.toNat) ⟨0, Nat.zero_le _, rfl, fun i h hi => by omega⟩ ?_
    rintro _ ⟨j, hj, rfl, hn⟩ next
    refine Ult.ite (fun hc => ?_) (fun hc => ?_)
    · have hlt : j < A.length := len_lt hc
      refine Ult.bindc (at?_nat hlt) (Ult.bind (hm A[j] (List.getElem_mem hlt)).lift ?_)
      refine Ult.ite (fun h => ?_) (fun h => ?_)
      · have ha : A.any M = true := List.any_eq_true.2 ⟨A[j], List.getElem_mem hlt, h⟩
        have hf : A.findIdx M = j := by
          rw [List.findIdx_eq hlt]
          exact ⟨h, fun i hi => hn i (by omega) hi⟩
        rw [if_pos ha, hf]
        exact Ult.ret
      · rw [iadd64 (by omega) (by omega)]
        refine next _ ⟨j + 1, hlt, rfl, fun i hi1 hi2 => ?_⟩ (by omega)
        rcases Nat.lt_or_ge i j with q | q
        · exact hn i hi1 q
        · have : i = j := by omega
          subst this
          exact h
    · have hje : A.length ≤ j := len_ge hc
      have ha : A.any M = false := by
        refine List.any_eq_false.2 fun x hx => ?_
        obtain ⟨i, hi, rfl⟩ := List.getElem_of_mem hx
        rw [hn i hi (by omega)]; simp
      rw [ha]
      exact Ult.ret
  refine Ult.bind key ?_
  have : ige (if A.any M then ((A.findIdx M : Nat) : Int) else -1) 0 = A.any M := by
    cases A.any M
    · rfl
    · exact decide_eq_true (by simp)
  rw [this]
  exact Ult.ret

end Go.Proofs.YtjdfbpjbobmgdaaDoor.Ev
