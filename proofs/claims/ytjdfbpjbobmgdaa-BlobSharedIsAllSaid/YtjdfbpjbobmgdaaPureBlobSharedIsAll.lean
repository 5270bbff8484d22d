/- Of equal bytes all are shared, and no more are than there are: for any bytes and numbers. No conditions. -/
import Derived.Test.YtjdfbpjbobmgdaaSharedAllShd
import Derived.Test.YtjdfbpjbobmgdaaSharedAllDig
namespace Go.Proofs.Ytjdfbpjbobmgdaa.Pure
open Go.RowKit Go.Proofs.Ytjdfbpjbobmgdaa.QSharedAll Go.Proofs.YtjdfbpjbobmgdaaW.PrintWords Go.Proofs.YtjdfbpjbobmgdaaW.PrintLast Go.Proofs.Ytjdfbpjbobmgdaa.PureSharedAll

theorem BlobSharedIsAll : smithyardlaw1_BlobSharedIsAll.Pure := by
  intro a b least bits most _ ha _ _ hb _ _ _ _
  have : Ev (fun k => smithyardlaw1_BlobSharedIsAll.f k a b least bits most) true := by
    unfold smithyardlaw1_BlobSharedIsAll.f
    have aw : Ev (fun k => (smithyardlaw1_awake.f k).bind fun t => some t) true := Ev.bindk awake_ev (Ev.now _)
    obtain ⟨s1, s2, s3⟩ := sharedR_bounds a a least bits most
    obtain ⟨t1, t2, t3⟩ := sharedR_bounds a b least bits most
    refine Ev.bindk (shared_ev a a least bits most) (Ev.ite (fun h0 => ?_) (fun h0 => ?_))
    · have hs := sharedR_self a least bits most h0
      refine Ev.bindk (shared_ev a b least bits most) (Ev.ite_pos hs (Ev.ite (fun h1 => ?_) (fun h1 => ?_)))
      · exact Ev.ite_pos (by omega) (Ev.ite_pos (by omega) aw)
      · exact Ev.ite_pos (t3 h1) aw
    · exact Ev.ite_pos (s3 h0) aw
  exact this.rounds

end Go.Proofs.Ytjdfbpjbobmgdaa.Pure
