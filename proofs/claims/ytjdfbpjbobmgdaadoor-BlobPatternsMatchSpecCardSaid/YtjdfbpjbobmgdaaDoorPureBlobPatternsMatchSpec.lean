/- CheckPattern and Fits are as specified for any strings: the program's and the reference's compute one function each. No conditions. -/
import Derived.Test.YtjdfbpjbobmgdaaDoorStBlobPatternsMatchSpec
import Derived.Test.YtjdfbpjbobmgdaaDoorPatFitsAll
import Derived.Test.YtjdfbpjbobmgdaaDoorPatDig
namespace Go.Proofs.YtjdfbpjbobmgdaaDoor.Pure
open Go.RowKit Go.Proofs.YtjdfbpjbobmgdaaDoor.QPat Go.Proofs.YtjdfbpjbobmgdaaDoorW.PrintWords Go.Proofs.YtjdfbpjbobmgdaaDoorW.PrintLast Go.Proofs.YtjdfbpjbobmgdaaDoor.PurePat

theorem BlobPatternsMatchSpec : smithyardlaw1_BlobPatternsMatchSpec.Stated := by
  intro p a _ _
  have aw : Ev (fun k => (smithyardlaw1_awake.f k).bind fun t => some t) true := Ev.bindk awake_ev (Ev.now _)
  have : Ev (fun k => smithyardlaw1_BlobPatternsMatchSpec.f k p a) true := by
    unfold smithyardlaw1_BlobPatternsMatchSpec.f
    refine Ev.bindk (fits_ev p a) (Ev.bindk (reffits_ev p a) (Ev.bindk (chk_ev p) (Ev.bindk (refChk_ev p) ?_)))
    exact Ev.ite_pos rfl (Ev.ite_pos (beq_self_eq_true _) (Ev.ite_pos rfl aw))
  exact this.rounds

end Go.Proofs.YtjdfbpjbobmgdaaDoor.Pure
