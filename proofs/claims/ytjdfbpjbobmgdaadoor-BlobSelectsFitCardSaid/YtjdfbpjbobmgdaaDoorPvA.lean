/- Laws of BlobSelects: copies and comparisons (this session's own). No condition but those in the statements. -/
import Derived.Test.YtjdfbpjbobmgdaaDoorPv
import Derived.Test.YtjdfbpjbobmgdaaDoorFSel
namespace Go.Proofs.YtjdfbpjbobmgdaaDoor.Ev
open Go Go.RowKit
set_option linter.unusedVariables false
set_option linter.unusedSimpArgs false
theorem app?_ok {α : Type} {b : Nat} {l r : List α} (h : (l.length + r.length) * (max b 1) ≤ 140737488355328) : app? b l r = some (l ++ r) := by unfold app?; rw [if_pos h]
theorem ilt_true {a b : Int} (h : ilt a b = true) : a < b := of_decide_eq_true h
theorem ilt_false {a b : Int} (h : ilt a b = false) : ¬ a < b := of_decide_eq_false h
abbrev File : Type := ByteArray × (Bool × List Int)
theorem S31_spec (l : List Int) (h : l.length ≤ 140737488355328) : Ultk (fun k => S31 k (l, ())) l := by
  unfold S31
  exact Ult.bindc (app?_ok (by simpa using h)) Ult.ret
theorem S12_spec (l : List File) (h : l.length * 48 ≤ 140737488355328) (hb : ∀ x ∈ l, x.2.2.length ≤ 140737488355328) : Ultk (fun k => S12 k (l, ())) l := by
  unfold S12
  refine Ult.loopI (fun _ => Nat.le_refl _) (fun x => ∃ j : Nat, j ≤ l.length ∧ x = (l.take j, (j : Int))) (fun x => l.length - x.2.toNat) ⟨0, Nat.zero_le _, by simp⟩ ?_
  rintro _ ⟨j, hj, rfl⟩ next
  refine Ult.ite (fun hc => ?_) (fun hc => ?_)
  · have hlt : j < l.length := by
      have := ilt_true hc
      unfold len at this
      dsimp only at this
      omega
    refine Ult.bindc (at?_nat hlt) (Ult.bindc (at?_nat hlt) (Ult.bindc (at?_nat hlt) ?_))
    refine Ult.bind (Ult.call (f := fun k => S31 k (l[j].2.2, ())) (lp_le _ _ fun _ => Nat.le_refl _) (S31_spec _ (hb _ (List.getElem_mem hlt)))) ?_
    refine Ult.bindc (app?_ok (by simp; omega)) ?_
    dsimp only
    rw [iadd64 (by omega) (by omega)]
    have e : l.take j ++ [(l[j].1, l[j].2.1, l[j].2.2)] = l.take (j + 1) := by rw [List.take_succ_eq_append_getElem hlt]
    rw [e]
    exact next _ ⟨j + 1, hlt, rfl⟩ (by dsimp only; omega)
  · have : j = l.length := by
      have := ilt_false hc
      unfold len at this
      dsimp only at this
      omega
    subst this
    rw [List.take_length]
    exact Ult.ret

theorem seq_self (a : ByteArray) : seq a a = true := by unfold seq; exact beq_self_eq_true _
theorem sne_self (a : ByteArray) : sne a a = false := by unfold sne; rw [beq_self_eq_true]; rfl
theorem ine_self (a : Int) : ine a a = false := by unfold ine; simp
theorem ieq_self (a : Int) : ieq a a = true := by unfold ieq; simp
theorem len_lt {α : Type} {l : List α} {j : Nat} (h : ilt (j : Int) (len l) = true) : j < l.length := by
  have := ilt_true h
  unfold len at this
  omega
theorem len_ge {α : Type} {l : List α} {j : Nat} (h : ilt (j : Int) (len l) = false) : l.length ≤ j := by
  have := ilt_false h
  unfold len at this
  omega
theorem S34_self (x : File) : Ultk (fun k => S34 k (x, x, ())) true := by
  unfold S34
  refine Ult.yes (seq_self _) (Ult.yes (by unfold beq2; exact beq_self_eq_true _) ?_)
  unfold S49
  exact Ult.bindc rfl (by rw [seq_self]; exact Ult.ret)
theorem S16_self (l : List File) (h : l.length ≤ 140737488355328) : Ultk (fun k => S16 k (l, l, ())) true := by
  unfold S16
  refine Ult.no (ine_self _) ?_
  refine Ult.loopI (fun _ => Nat.le_refl _) (fun x => ∃ j : Nat, j ≤ l.length ∧ x = (j : Int)) (fun x => l.length - x.toNat) ⟨0, Nat.zero_le _, rfl⟩ ?_
  rintro _ ⟨j, hj, rfl⟩ next
  refine Ult.ite (fun hc => ?_) (fun hc => ?_)
  · have hlt : j < l.length := len_lt hc
    refine Ult.bindc (at?_nat hlt) (Ult.bindc (at?_nat hlt) ?_)
    refine Ult.bind (Ult.call (f := fun k => S34 k (l[j], l[j], ())) (lp_le _ _ fun _ => Nat.le_refl _) (S34_self _)) (Ult.no rfl ?_)
    rw [iadd64 (by omega) (by omega)]
    exact next _ ⟨j + 1, hlt, rfl⟩ (by omega)
  · exact Ult.ret
theorem S15_self (l : List ByteArray) (h : l.length ≤ 140737488355328) : Ultk (fun k => S15 k (l, l, ())) true := by
  unfold S15
  refine Ult.no (ine_self _) ?_
  refine Ult.loopI (fun _ => Nat.le_refl _) (fun x => ∃ j : Nat, j ≤ l.length ∧ x = (j : Int)) (fun x => l.length - x.toNat) ⟨0, Nat.zero_le _, rfl⟩ ?_
  rintro _ ⟨j, hj, rfl⟩ next
  refine Ult.ite (fun hc => ?_) (fun hc => ?_)
  · have hlt : j < l.length := len_lt hc
    refine Ult.bindc (at?_nat hlt) (Ult.bindc (at?_nat hlt) (Ult.no (sne_self _) ?_))
    rw [iadd64 (by omega) (by omega)]
    exact next _ ⟨j + 1, hlt, rfl⟩ (by omega)
  · exact Ult.ret
theorem S13_spec (l : List ByteArray) (h : l.length * 16 ≤ 140737488355328) : Ultk (fun k => S13 k (l, ())) l := by
  unfold S13
  exact ⟨0, fun _ _ => if_pos h⟩

end Go.Proofs.YtjdfbpjbobmgdaaDoor.Ev
