/- Pieces with its errors: the program's is a plain function. No conditions. -/
import Derived.Test.YtjdfbpjbobmgdaaTogetherPcsI
namespace Go.Proofs.Ytjdfbpjbobmgdaa.PureTogether
open Go.RowKit Go.Proofs.Ytjdfbpjbobmgdaa.QTogether Go.Proofs.YtjdfbpjbobmgdaaW.PrintWords Go.Proofs.YtjdfbpjbobmgdaaW.PrintLast Go.Proofs.YtjdfbpjbobmgdaaW.PrintMore Go.Proofs.Ytjdfbpjbobmgdaa.Pure

def Bad (least bits most : Int) : Prop := least < 1 ∨ least > most ∨ bits < 0 ∨ bits > 20 ∨ most > 100000
instance (least bits most : Int) : Decidable (Bad least bits most) := by unfold Bad; infer_instance
def piecesR (b : List Int) (least bits most : Int) : List Int × Int :=
  if b.length > 2000000 then ([], 2) else if Bad least bits most then ([], 1) else if (pieces b least bits most).length > 20000 then ([], 2) else (pieces b least bits most, 0)
theorem piecesR_len (b : List Int) (least bits most : Int) : (piecesR b least bits most).1.length ≤ 20000 := by
  unfold piecesR
  split
  · simp
  · split
    · simp
    · split
      · simp
      · simp only
        omega
theorem pieces_j0_bad (b : List Int) (least bits most : Int) : Ev (fun k => blob_Pieces.j0 k b least bits most true) ([], 1) := Ev.to (Ev.now _) fun _ => rfl
theorem pieces_ev (b : List Int) (least bits most : Int) : Ev (fun k => blob_Pieces.f k b least bits most) (piecesR b least bits most) := by
  unfold blob_Pieces.f piecesR
  by_cases h0 : b.length > 2000000
  · rw [if_pos h0]
    exact Ev.ite_pos (by omega) (Ev.now _)
  rw [if_neg h0]
  refine Ev.ite_neg (by omega) ?_
  by_cases hb : Bad least bits most
  · rw [if_pos hb]
    unfold Bad at hb
    refine Ev.ite (fun _ => pieces_j0_bad ..) (fun h1 => Ev.ite (fun _ => pieces_j0_bad ..) (fun h2 => Ev.ite (fun _ => pieces_j0_bad ..) (fun h3 => Ev.ite (fun _ => pieces_j0_bad ..) (fun h4 => ?_))))
    rw [decide_eq_true (by omega)]
    exact pieces_j0_bad ..
  · rw [if_neg hb]
    unfold Bad at hb
    have key := cut_ev b least bits most (by omega) (by omega) (by omega) (by omega) (by omega) (by omega)
    refine Ev.ite_neg (by omega) (Ev.ite_neg (by omega) (Ev.ite_neg (by omega) (Ev.ite_neg (by omega) ?_)))
    rw [decide_eq_false (by omega)]
    refine Ev.to (f := fun k => (blob_cut.f k b least bits most).bind fun t => if (t.length : Int) > 20000 then some ([], 2) else some (t, 0)) ?_ fun k => ?_
    · refine Ev.bindk key ?_
      by_cases h5 : (pieces b least bits most).length > 20000
      · rw [if_pos h5]
        exact Ev.ite_pos (by omega) (Ev.now _)
      · rw [if_neg h5]
        exact Ev.ite_neg (by omega) (Ev.now _)
    · simp only [blob_Pieces.j0]
      rw [if_neg (by simp)]

end Go.Proofs.Ytjdfbpjbobmgdaa.PureTogether
