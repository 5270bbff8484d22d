/- Laws of BlobSelects: what CheckFiles and Select come to (this session's own). No condition but those in the statements. -/
import Derived.Test.YtjdfbpjbobmgdaaDoorPvC
namespace Go.Proofs.YtjdfbpjbobmgdaaDoor.Ev
open Go Go.RowKit
set_option linter.unusedVariables false
set_option linter.unusedSimpArgs false
theorem S45_fin (m : List (ByteArray × Bool)) (s : ByteArray) (hs : s.size ≤ 200) : Fink (fun k => S45 k (m, s, ())) (fun _ => True) := by
  unfold S45
  refine Fin.loopI (fun _ => Nat.le_refl _) (fun x => ∃ j : Nat, j ≤ s.size ∧ x = (j : Int)) (fun x => s.size - x.toNat) ⟨0, Nat.zero_le _, rfl⟩ ?_
  rintro _ ⟨j, hj, rfl⟩ next
  refine Fin.ite (fun hc => ?_) (fun _ => Fin.ret trivial)
  have hlt : j < s.size := ssz_lt hc
  have nx := next (j + 1 : Nat) ⟨j + 1, hlt, rfl⟩ (by omega)
  have hi : iadd .i64 (j : Int) 1 = ((j + 1 : Nat) : Int) := by rw [iadd64 (by omega) (by omega)]; rfl
  refine Fin.bindc (bt?_nat hlt) ?_
  rw [hi]
  refine Fin.ite (fun _ => ?_) (fun _ => nx)
  have hsub : sub? s 0 (j : Int) = some (s.extract 0 j) := by
    unfold sub?
    rw [if_pos ⟨Int.le_refl _, Int.natCast_nonneg _, by omega⟩]; rfl
  refine Fin.bindc hsub ?_
  exact Fin.ite (fun _ => Fin.ret trivial) (fun _ => nx)
def PathOK (s : ByteArray) : Prop := s.size ≤ 200 ∧ Ultk (fun k => S17 k (s, ())) true
theorem S27_fin (l : List File) : Fink (fun k => S27 k (l, ())) (fun r => r = 0 → l.length ≤ 1000 ∧ ∀ x ∈ l, PathOK x.1) := by
  unfold S27
  refine Fin.ite (fun _ => Fin.ret (by simp)) (fun h1 => ?_)
  have hl : l.length ≤ 1000 := by
    have := igt_false h1
    unfold len at this
    dsimp only at this
    omega
  refine Fin.loopI (fun _ => Nat.le_refl _) (fun x => ∃ (tot j : Nat) (m : List (ByteArray × Bool)), x = ((tot : Int), (j : Int), m) ∧ j ≤ l.length ∧ tot ≤ j * 100000 ∧ ∀ (i : Nat) (h : i < l.length), i < j → PathOK l[i].1) (fun x => l.length - x.2.1.toNat)
    ⟨0, 0, _, rfl, Nat.zero_le _, Nat.le_refl _, fun i h hi => by omega⟩ ?_
  rintro _ ⟨tot, j, m, rfl, hj, htot, hok⟩ next
  refine Fin.ite (fun hc => ?_) (fun hc => ?_)
  · have hlt : j < l.length := len_lt hc
    refine Fin.bindc (at?_nat hlt) ?_
    obtain ⟨b, hb, hu⟩ := S17_fin l[j].1
    refine Fin.bindu (Ult.call (f := fun k => S17 k (l[j].1, ())) (lp_le _ _ fun _ => Nat.le_refl _) hu) ?_
    refine Fin.ite (fun _ => Fin.ret (by simp)) (fun hb1 => ?_)
    have hbt : b = true := by
      cases b
      · cases hb1
      · rfl
    subst hbt
    refine Fin.ite (fun _ => Fin.ret (by simp)) (fun h2 => ?_)
    have hlen : l[j].2.2.length ≤ 100000 := by
      have := igt_false h2
      unfold len at this
      omega
    have nx := fun m' => next (((tot + l[j].2.2.length : Nat) : Int), ((j + 1 : Nat) : Int), m') ⟨_, j + 1, m', rfl, hlt, by omega, fun i h hi => by
      rcases Nat.lt_or_ge i j with q | q
      · exact hok i h q
      · have : i = j := by omega
        subst this
        exact ⟨hb rfl, hu⟩⟩ (by dsimp only; omega)
    have e1 : iadd .i64 (tot : Int) (len l[j].2.2) = ((tot + l[j].2.2.length : Nat) : Int) := by unfold len; rw [iadd64 (by omega) (by omega)]; rfl
    have e2 : iadd .i64 (j : Int) 1 = ((j + 1 : Nat) : Int) := by rw [iadd64 (by omega) (by omega)]; rfl
    dsimp only
    rw [e1, e2]
    refine Fin.ite (fun h3 => ?_) (fun _ => nx _)
    have hjp : 0 < j := by
      have := igt_true h3
      omega
    have hsub : isub .i64 (j : Int) 1 = ((j - 1 : Nat) : Int) := by rw [isub64 (by omega) (by omega)]; omega
    rw [hsub]
    refine Fin.bindc (at?_nat (show j - 1 < l.length by omega)) ?_
    exact Fin.ite (fun _ => Fin.ret (by simp)) (fun _ => nx _)
  · have hje : j = l.length := by
      have : l.length ≤ j := len_ge hc
      omega
    have hall : ∀ x ∈ l, PathOK x.1 := fun x hx => by
      obtain ⟨i, hi, rfl⟩ := List.getElem_of_mem hx
      exact hok i hi (by omega)
    refine Fin.loopI (lp_le _ _ fun _ => Nat.le_refl _) (fun x => ∃ i : Nat, i ≤ l.length ∧ x = (i : Int)) (fun x => l.length - x.toNat) ⟨0, Nat.zero_le _, rfl⟩ ?_
    rintro _ ⟨i, hi, rfl⟩ next2
    refine Fin.ite (fun hc2 => ?_) (fun _ => ?_)
    · have hlt2 : i < l.length := len_lt hc2
      have h45 := S45_fin m l[i].1 (hall _ (List.getElem_mem hlt2)).1
      refine Fin.bindc (at?_nat hlt2) ?_
      refine Fin.bind (Fin.call (f := fun k => S45 k (m, l[i].1, ())) (lp_le _ _ (lp_le _ _ fun _ => Nat.le_refl _)) h45) fun b _ => ?_
      refine Fin.ite (fun _ => Fin.ret (by simp)) (fun _ => ?_)
      rw [iadd64 (by omega) (by omega)]
      exact next2 _ ⟨i + 1, hlt2, rfl⟩ (by omega)
    · exact Fin.ite (fun _ => Fin.ret (by simp)) (fun _ => Fin.ret fun _ => ⟨hl, hall⟩)

end Go.Proofs.YtjdfbpjbobmgdaaDoor.Ev
