/- BlobSelectsFit: the plain law (this session's own). -/
import Derived.Test.YtjdfbpjbobmgdaaDoorPvG
namespace Go.Proofs.YtjdfbpjbobmgdaaDoor.Ev
open Go Go.RowKit
set_option linter.unusedVariables false
set_option linter.unusedSimpArgs false
theorem sel_append (a b : List File) (W N : List ByteArray) : sel (a ++ b) W N = sel a W N ++ sel b W N := by unfold sel; simp
theorem sel_sum (p : ByteArray) : ∀ l : List File, (∀ x ∈ l, x.1.size ≤ 200) → (sel l [p] []).length + (sel l [dbl] [p]).length = l.length
  | [], _ => rfl
  | x :: l, h => by
    have ih := sel_sum p l fun y hy => h y (List.mem_cons_of_mem _ hy)
    have hd := fit_dbl (h x (List.mem_cons_self ..))
    unfold sel at *
    simp only [List.filter_cons, want, List.any_cons, List.any_nil, Bool.or_false, Bool.not_false, Bool.and_true, hd, Bool.true_and] at *
    cases fitOf p x.1 <;> simp at * <;> omega
theorem sel_none : ∀ l : List File, (∀ x ∈ l, x.1.size ≤ 200) → sel l [dbl] [dbl] = []
  | [], _ => rfl
  | x :: l, h => by
    have ih := sel_none l fun y hy => h y (List.mem_cons_of_mem _ hy)
    have hd := fit_dbl (h x (List.mem_cons_self ..))
    unfold sel at *
    simp only [List.filter_cons, want, List.any_cons, List.any_nil, Bool.or_false, hd, Bool.not_true, Bool.and_false] at *
    exact ih
theorem S4_ult (l : List File) (p : ByteArray) : Ultk (fun k => S4 k (l, p, ())) true := by
  unfold S4
  obtain ⟨r, hr, hu⟩ := S11_fin l [p] [] (by simp)
  refine Ult.bind (Ult.call (f := fun k => S11 k (l, [p], [], ())) (fun _ => Nat.le_refl _) hu) ?_
  have h10 : Ultk (fun k => bnd (S10 k ()) fun a => some a) true := Ult.bind S10_ult Ult.ret
  refine Ult.ite (fun h0 => ?_) (fun h0 => ?_)
  · rcases hr with ⟨h1, _⟩ | ⟨h1, h2, _⟩
    · rw [h1] at h0; simp [ine] at h0
    · rw [h2]
      exact Ult.yes (by decide) h10
  have hr0 : r.2 = 0 := by simpa [ine] using h0
  rcases hr with ⟨_, hF, hpat, hr1⟩ | ⟨h1, _⟩
  case inr => exact absurd hr0 h1
  have hp : PatOK p := hpat p (by simp)
  obtain ⟨hl, hP⟩ := hF.spec
  have hsz : ∀ x ∈ l, x.1.size ≤ 200 := fun x hx => (hP x hx).1
  have hselr := sel_len l [p] []
  rw [hr1]
  refine Ult.loopI (fun _ => Nat.le_refl _) (fun x => ∃ j : Nat, j ≤ l.length ∧ x = (((sel (l.take j) [p] []).length : Int), (j : Int))) (fun x => l.length - x.2.toNat) ⟨0, Nat.zero_le _, by simp [sel]⟩ ?_
  rintro _ ⟨j, hj, rfl⟩ next
  refine Ult.ite (fun hc => ?_) (fun hc => ?_)
  · have hlt : j < l.length := len_lt hc
    have hs := sel_succ l [p] [] j hlt
    have hjs := sel_len (l.take j) [p] []
    rw [List.length_take] at hjs
    have nx := next (((sel (l.take (j + 1)) [p] []).length : Int), ((j + 1 : Nat) : Int)) ⟨j + 1, hlt, rfl⟩ (by dsimp only; omega)
    have e3 : iadd .i64 (j : Int) 1 = ((j + 1 : Nat) : Int) := by rw [iadd64 (by omega) (by omega)]; rfl
    refine Ult.bindc (at?_nat hlt) ?_
    have h6 := S6_spec hp (hP _ (List.getElem_mem hlt))
    refine Ult.bind (Ult.call (f := fun k => S6 k (p, l[j].1, ())) (lp_le _ _ fun _ => Nat.le_refl _) h6) ?_
    refine Ult.no rfl ?_
    dsimp only
    rw [e3]
    have hw : want [p] [] l[j] = fitOf p l[j].1 := by simp [want]
    refine Ult.ite (fun hf => ?_) (fun hf => ?_)
    · rw [hw, hf, if_pos rfl] at hs
      have hall : sel l [p] [] = sel (l.take j) [p] [] ++ [l[j].1] ++ sel (l.drop (j + 1)) [p] [] := by
        rw [← hs, ← sel_append, List.take_append_drop]
      have hlen : (sel (l.take j) [p] []).length < (sel l [p] []).length := by rw [hall]; simp
      have hget : (sel l [p] [])[(sel (l.take j) [p] []).length] = l[j].1 := by
        simp only [hall]
        rw [List.getElem_append_left (by simp), List.getElem_append_right (Nat.le_refl _)]
        simp
      refine Ult.no (by unfold ieq len; simp; omega) ?_
      refine Ult.bindc ((at?_nat hlen).trans (congrArg some hget)) (Ult.bindc (at?_nat hlt) (Ult.no (sne_self _) ?_))
      have e4 : iadd .i64 ((sel (l.take j) [p] []).length : Int) 1 = (((sel (l.take (j + 1)) [p] []).length : Nat) : Int) := by
        rw [iadd64 (by omega) (by omega), hs]; simp
      rw [e4]
      exact nx
    · rw [hw, hf] at hs
      simp at hs
      rw [← hs]; exact nx
  · have hje : l.length ≤ j := len_ge hc
    rw [List.take_of_length_le hje]
    obtain ⟨r1, q1, u1⟩ := S11_fin l [dbl] [p] (by simp)
    obtain ⟨r2, q2, u2⟩ := S11_fin l [dbl] [dbl] (by simp)
    refine Ult.bind (Ult.call (f := fun k => S11 k (l, [dbl], [p], ())) (lp_le _ _ fun _ => Nat.le_refl _) u1) ?_
    refine Ult.bind (Ult.call (f := fun k => S11 k (l, [dbl], [dbl], ())) (lp_le _ _ fun _ => Nat.le_refl _) u2) ?_
    rcases q1 with ⟨a1, _, _, a2⟩ | ⟨_, _, a3⟩
    case inr => exact absurd ⟨hF, fun c hc => by simp at hc; rcases hc with rfl | rfl; exact pat_dbl; exact hp⟩ a3
    rcases q2 with ⟨b1, _, _, b2⟩ | ⟨_, _, b3⟩
    case inr => exact absurd ⟨hF, fun c hc => by simp at hc; rw [hc]; exact pat_dbl⟩ b3
    have hsum := sel_sum p l hsz
    rw [sel_none l hsz] at b2
    rw [a1, a2, b1, b2]
    refine Ult.yes (ieq_self _) (Ult.yes (by decide) (Ult.yes ?_ (Ult.yes (by decide) (Ult.yes (by decide) ?_))))
    · unfold len ieq
      rw [iadd64 (by omega) (by omega)]
      simp
      omega
    · exact Ult.call (lp_le _ _ fun _ => Nat.le_refl _) h10
theorem BlobSelectsFitPure : BlobSelectsFitStated := by
  intro l p _ _
  obtain ⟨K, h⟩ := S4_ult l p
  exact ⟨K, h K (Nat.le_refl _)⟩
end Go.Proofs.YtjdfbpjbobmgdaaDoor.Ev
