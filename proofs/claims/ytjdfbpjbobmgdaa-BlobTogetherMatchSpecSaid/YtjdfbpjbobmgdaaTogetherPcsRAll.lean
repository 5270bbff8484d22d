/- Pieces with its errors: the reference's is the same plain function. No conditions. -/
import Derived.Test.YtjdfbpjbobmgdaaTogetherPcsIAll
import Derived.Test.YtjdfbpjbobmgdaaTogetherPcsR
namespace Go.Proofs.Ytjdfbpjbobmgdaa.PureTogether
open Go.RowKit Go.Proofs.Ytjdfbpjbobmgdaa.QTogether Go.Proofs.YtjdfbpjbobmgdaaW.PrintWords Go.Proofs.YtjdfbpjbobmgdaaW.PrintLast Go.Proofs.YtjdfbpjbobmgdaaW.PrintMore Go.Proofs.Ytjdfbpjbobmgdaa.Pure

theorem check_cut (b : List Int) (least bits most : Int) : smithyardref1_checkCut.f b least bits most = some (if b.length > 2000000 then 2 else if Bad least bits most then 1 else 0) := by
  unfold smithyardref1_checkCut.f smithyardref1_within.f
  by_cases h0 : b.length > 2000000
  · rw [if_pos h0, if_pos (by omega)]
  rw [if_neg h0, if_neg (by omega)]
  by_cases hb : Bad least bits most
  · rw [if_pos hb]
    unfold Bad at hb
    by_cases h1 : least ≥ 1
    · by_cases h2 : least ≤ most
      · by_cases h3 : bits ≥ 0
        · by_cases h4 : bits ≤ 20
          · have h5 : ¬ most ≤ 100000 := by omega
            have h6 : most ≥ 1 := by omega
            simp [h1, h2, h3, h4, h5, h6]
          · simp [h1, h2, h3, h4]
        · simp [h1, h2, h3]
      · simp [h1, h2]
    · simp [h1]
  · rw [if_neg hb]
    unfold Bad at hb
    have h1 : least ≥ 1 := by omega
    have h2 : least ≤ most := by omega
    have h3 : bits ≥ 0 := by omega
    have h4 : bits ≤ 20 := by omega
    have h5 : most ≤ 100000 := by omega
    have h6 : most ≥ 1 := by omega
    simp [h1, h2, h3, h4, h5, h6]
theorem refpieces_ev (b : List Int) (least bits most : Int) : Ev (fun k => smithyardref1_Pieces.f k b least bits most) (piecesR b least bits most) := by
  unfold smithyardref1_Pieces.f piecesR
  refine Ev.bindc (check_cut b least bits most) ?_
  by_cases h0 : b.length > 2000000
  · rw [if_pos h0, if_pos h0]
    exact Ev.ite_neg (by decide) (Ev.now _)
  rw [if_neg h0, if_neg h0]
  by_cases hb : Bad least bits most
  · rw [if_pos hb, if_pos hb]
    exact Ev.ite_neg (by decide) (Ev.now _)
  · rw [if_neg hb, if_neg hb]
    unfold Bad at hb
    have key := of_ev b least bits most (by omega) (by omega) (by omega) (by omega) (by omega) (by omega)
    refine Ev.ite_pos rfl (Ev.bindk key ?_)
    by_cases h5 : (pieces b least bits most).length > 20000
    · rw [if_pos h5]
      exact Ev.ite_pos (by omega) (Ev.now _)
    · rw [if_neg h5]
      exact Ev.ite_neg (by omega) (Ev.now _)

end Go.Proofs.Ytjdfbpjbobmgdaa.PureTogether
