/- Shared: what the program's computes, as a plain function of the pieces. No conditions but that the bytes' number fits. -/
import Derived.Test.YtjdfbpjbobmgdaaTogetherPcsSum
import Derived.Test.YtjdfbpjbobmgdaaTogetherPcsIAll
import Derived.Test.YtjdfbpjbobmgdaaMaps
namespace Go.Proofs.Ytjdfbpjbobmgdaa.PureTogether
open Go.RowKit Go.Proofs.Ytjdfbpjbobmgdaa.QTogether Go.Proofs.YtjdfbpjbobmgdaaW.PrintWords Go.Proofs.YtjdfbpjbobmgdaaW.PrintLast Go.Proofs.YtjdfbpjbobmgdaaW.PrintMore Go.Proofs.Ytjdfbpjbobmgdaa.Pure Go.Proofs.Ytjdfbpjbobmgdaa.MapWords

theorem sum_nonneg (x : List Int) (h : ∀ n ∈ x, 0 ≤ n) : 0 ≤ x.sum := by
  induction x with
  | nil => simp
  | cons m x ih =>
    rw [List.sum_cons]
    have := h m (by simp)
    have := ih (fun p hp => h p (by simp [hp]))
    omega
theorem la_eq (x : List Int) : ∀ (a : List Int) (m : List (ByteArray × Bool)), (∀ n ∈ x, 0 ≤ n) → x.sum = a.length →
    ∃ M, blob_Shared.la x a m = some M ∧ ∀ c, ((mget M c).getD false = true ↔ c ∈ chunks x a ∨ (mget m c).getD false = true) := by
  induction x with
  | nil => intro a m _ _; exact ⟨m, rfl, fun c => by simp [chunks]⟩
  | cons n x ih =>
    intro a m h0 hs
    rw [List.sum_cons] at hs
    have hn := h0 n (by simp)
    have hx := sum_nonneg x (fun m hm => h0 m (by simp [hm]))
    obtain ⟨M, hM, hc⟩ := ih (a.drop n.toNat) (mput m (strOfNums (a.take n.toNat)) true) (fun m hm => h0 m (by simp [hm])) (by rw [List.length_drop]; omega)
    refine ⟨M, ?_, fun c => ?_⟩
    · simp only [blob_Shared.la]
      rw [if_pos ⟨hn, by omega⟩]
      exact hM
    · rw [hc c]
      simp only [chunks, List.mem_cons]
      by_cases e : c = strOfNums (a.take n.toNat)
      · subst e
        simp [mget_put_same]
      · rw [mget_put_other _ _ _ _ e]
        simp [e]
theorem lb_eq (M : List (ByteArray × Bool)) (K : List ByteArray) (hK : ∀ c, ((mget M c).getD false = true ↔ c ∈ K)) (y : List Int) : ∀ (b : List Int) (s : Int), (∀ n ∈ y, 0 ≤ n) → y.sum = b.length → 0 ≤ s → s + b.length ≤ 9223372036854775807 →
    blob_Shared.lb M y b s = some (s + common K (chunks y b)) := by
  induction y with
  | nil => intro b s _ _ _ _; simp [blob_Shared.lb, chunks, common]
  | cons n y ih =>
    intro b s h0 hs hs0 hs1
    rw [List.sum_cons] at hs
    have hn := h0 n (by simp)
    have hx := sum_nonneg y (fun m hm => h0 m (by simp [hm]))
    have hl : ((b.take n.toNat).length : Int) = n := by rw [List.length_take]; omega
    simp only [blob_Shared.lb]
    rw [if_pos ⟨hn, by omega⟩]
    simp only [chunks, common]
    by_cases e : (mget M (strOfNums (b.take n.toNat))).getD false = true
    · rw [if_pos e, if_pos ((hK _).1 e), w64 (by omega) (by omega), ih (b.drop n.toNat) (s + n) (fun m hm => h0 m (by simp [hm])) (by rw [List.length_drop]; omega) (by omega) (by rw [List.length_drop]; omega), size_str, hl]
      congr 1
      omega
    · rw [if_neg e, if_neg (fun h => e ((hK _).2 h)), ih (b.drop n.toNat) s (fun m hm => h0 m (by simp [hm])) (by rw [List.length_drop]; omega) (by omega) (by rw [List.length_drop]; omega)]
      congr 1
      omega
def sharedR (a b : List Int) (least bits most : Int) : Int × Int :=
  if (piecesR a least bits most).2 = 0 then if (piecesR b least bits most).2 = 0 then (common (chunks (piecesR a least bits most).1 a) (chunks (piecesR b least bits most).1 b), 0) else (0, (piecesR b least bits most).2) else (0, (piecesR a least bits most).2)
theorem piecesR_ok {b : List Int} {least bits most : Int} (h : (piecesR b least bits most).2 = 0) : (piecesR b least bits most).1 = pieces b least bits most ∧ b.length ≤ 2000000 := by
  unfold piecesR at h ⊢
  split at h
  · simp at h
  · split at h
    · simp at h
    · split at h
      · simp at h
      · rename_i h1 h2 h3
        rw [if_neg h1, if_neg h2, if_neg h3]
        exact ⟨rfl, by omega⟩
theorem shared_ev (a b : List Int) (least bits most : Int) : Ev (fun k => blob_Shared.f k a b least bits most) (sharedR a b least bits most) := by
  by_cases ha : (piecesR a least bits most).2 = 0
  · by_cases hb : (piecesR b least bits most).2 = 0
    · have e : sharedR a b least bits most = (common (chunks (piecesR a least bits most).1 a) (chunks (piecesR b least bits most).1 b), 0) := by unfold sharedR; rw [if_pos ha, if_pos hb]
      rw [e]
      unfold blob_Shared.f
      refine Ev.bindk (pieces_ev a least bits most) (Ev.ite_pos ha (Ev.bindk (pieces_ev b least bits most) (Ev.ite_pos hb ?_)))
      obtain ⟨ea, la⟩ := piecesR_ok ha
      obtain ⟨eb, lb⟩ := piecesR_ok hb
      obtain ⟨p1, p2⟩ := pieces_sum a least bits most
      obtain ⟨q1, q2⟩ := pieces_sum b least bits most
      rw [ea, eb]
      obtain ⟨M, hM, hc⟩ := la_eq (pieces a least bits most) a [] (fun n hn => by have := p1 n hn; omega) p2
      have hl := lb_eq M (chunks (pieces a least bits most) a) (fun c => by rw [hc c]; simp [mget]) (pieces b least bits most) b 0 (fun n hn => by have := q1 n hn; omega) q2 (by omega) (by omega)
      refine Ev.bindc hM (Ev.bindc hl ?_)
      rw [Int.zero_add]
      exact Ev.now _
    · have e : sharedR a b least bits most = (0, (piecesR b least bits most).2) := by unfold sharedR; rw [if_pos ha, if_neg hb]
      rw [e]
      unfold blob_Shared.f
      exact Ev.bindk (pieces_ev a least bits most) (Ev.ite_pos ha (Ev.bindk (pieces_ev b least bits most) (Ev.ite_neg hb (Ev.now _))))
  · have e : sharedR a b least bits most = (0, (piecesR a least bits most).2) := by unfold sharedR; rw [if_neg ha]
    rw [e]
    unfold blob_Shared.f
    exact Ev.bindk (pieces_ev a least bits most) (Ev.ite_neg ha (Ev.now _))
theorem sharedR_bounds (a b : List Int) (least bits most : Int) : 0 ≤ (sharedR a b least bits most).1 ∧ (sharedR a b least bits most).1 ≤ b.length ∧ ((sharedR a b least bits most).2 ≠ 0 → (sharedR a b least bits most).1 = 0) := by
  unfold sharedR
  split
  · split
    · rename_i h1 h2
      obtain ⟨eb, _⟩ := piecesR_ok h2
      obtain ⟨q1, q2⟩ := pieces_sum b least bits most
      have hb := common_bounds (chunks (piecesR a least bits most).1 a) (chunks (piecesR b least bits most).1 b)
      rw [eb] at hb ⊢
      rw [chunks_size _ b (fun n hn => by have := q1 n hn; omega) q2] at hb
      exact ⟨hb.1, hb.2, fun h => absurd rfl h⟩
    · exact ⟨by simp, by simp, fun _ => rfl⟩
  · exact ⟨by simp, by simp, fun _ => rfl⟩
theorem sharedR_self (a : List Int) (least bits most : Int) (h : (sharedR a a least bits most).2 = 0) : (sharedR a a least bits most).1 = a.length := by
  by_cases ha : (piecesR a least bits most).2 = 0
  · have e : sharedR a a least bits most = (common (chunks (piecesR a least bits most).1 a) (chunks (piecesR a least bits most).1 a), 0) := by unfold sharedR; rw [if_pos ha, if_pos ha]
    obtain ⟨eb, _⟩ := piecesR_ok ha
    obtain ⟨q1, q2⟩ := pieces_sum a least bits most
    rw [e]
    simp only
    rw [eb, common_all _ _ (fun c hc => hc), chunks_size _ a (fun n hn => by have := q1 n hn; omega) q2]
  · have e : sharedR a a least bits most = (0, (piecesR a least bits most).2) := by unfold sharedR; rw [if_neg ha]
    rw [e] at h
    exact absurd h ha

end Go.Proofs.Ytjdfbpjbobmgdaa.PureTogether
