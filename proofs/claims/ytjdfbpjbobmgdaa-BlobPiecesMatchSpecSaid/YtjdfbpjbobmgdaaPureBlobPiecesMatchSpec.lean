/- Pieces is as specified, with all errors: the program's Pieces and the reference's compute one function of the bytes and the three numbers, and the bytes stay as they were. No conditions. -/
import Derived.Test.YtjdfbpjbobmgdaaPiecesPcs
import Derived.Test.YtjdfbpjbobmgdaaPiecesPcsAll
import Derived.Test.YtjdfbpjbobmgdaaPiecesDig
import Derived.Test.YtjdfbpjbobmgdaaPiecesEqB
import Derived.Test.YtjdfbpjbobmgdaaPiecesEqI
namespace Go.Proofs.Ytjdfbpjbobmgdaa.Pure
open Go.RowKit Go.Proofs.Ytjdfbpjbobmgdaa.QPieces Go.Proofs.YtjdfbpjbobmgdaaW.PrintWords Go.Proofs.YtjdfbpjbobmgdaaW.PrintLast Go.Proofs.Ytjdfbpjbobmgdaa.PurePieces

theorem BlobPiecesMatchSpec : smithyardlaw1_BlobPiecesMatchSpec.Pure := by
  intro l least bits most hm hl hw h1 h2 h3
  have hl' : l.length ≤ 140737488351232 := by omega
  have : Ev (fun k => smithyardlaw1_BlobPiecesMatchSpec.f k l least bits most) true := by
    unfold smithyardlaw1_BlobPiecesMatchSpec.f
    refine Ev.bindc (a := l) (by unfold slices_Clone_byte_byte.f; rw [if_pos (by omega)]) ?_
    refine Ev.bindk (pieces_ev l least bits most) (Ev.bindk (refpieces_ev l least bits most) ?_)
    refine Ev.bindk (eq_ints _ (by have := piecesR_len l least bits most; omega)) (Ev.ite_pos rfl (Ev.ite_pos rfl (Ev.bindk (eq_bytes l hl') (Ev.ite_pos rfl (Ev.bindk awake_ev (Ev.now _))))))
  exact this.rounds

end Go.Proofs.Ytjdfbpjbobmgdaa.Pure
