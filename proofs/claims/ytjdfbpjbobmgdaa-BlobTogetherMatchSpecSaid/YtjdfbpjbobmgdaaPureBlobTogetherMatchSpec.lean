/- Together and Shared are as specified, with all errors: the program's and the reference's compute one function each, and the arguments stay as they were. No conditions. -/
import Derived.Test.YtjdfbpjbobmgdaaStBlobTogetherMatchSpec
import Derived.Test.YtjdfbpjbobmgdaaTogetherShdR
import Derived.Test.YtjdfbpjbobmgdaaTogetherTog
import Derived.Test.YtjdfbpjbobmgdaaTogetherEqB
import Derived.Test.YtjdfbpjbobmgdaaTogetherDig
namespace Go.Proofs.Ytjdfbpjbobmgdaa.Pure
open Go.RowKit Go.Proofs.Ytjdfbpjbobmgdaa.QTogether Go.Proofs.YtjdfbpjbobmgdaaW.PrintWords Go.Proofs.YtjdfbpjbobmgdaaW.PrintLast Go.Proofs.Ytjdfbpjbobmgdaa.PureTogether

theorem BlobTogetherMatchSpec : smithyardlaw1_BlobTogetherMatchSpec.Pure := by
  intro l a b least bits most hl ha hb _ _ _
  have hl1 : l.length ≤ 5864062014634 := by have := hl.2.1; omega
  have hx : ∀ x ∈ l, x.length ≤ 140737488351232 := fun x h => by have := (hl.2.2 x h).2.1; omega
  have ha1 : a.length ≤ 140737488351232 := by have := ha.2.1; omega
  have hb1 : b.length ≤ 140737488351232 := by have := hb.2.1; omega
  clear hl ha hb
  have hc : ∀ x : List Int, x.length ≤ 140737488351232 → slices_Clone_byte_byte.f x = some x := fun x h => by
    unfold slices_Clone_byte_byte.f
    rw [if_pos (by omega)]
  have aw : Ev (fun k => (smithyardlaw1_awake.f k).bind fun t => some t) true := Ev.bindk awake_ev (Ev.now _)
  have : Ev (fun k => smithyardlaw1_BlobTogetherMatchSpec.f k l a b least bits most) true := by
    unfold smithyardlaw1_BlobTogetherMatchSpec.f
    refine Ev.bindk (copy_ev l hl1 hx) (Ev.bindc (hc a ha1) (Ev.bindc (hc b hb1) ?_))
    refine Ev.bindk (tog_ev l hx) (Ev.bindk (reftog_ev l hx) (Ev.bindk (shared_ev a b least bits most) (Ev.bindk (refshared_ev a b least bits most) ?_)))
    refine Ev.bindc (beqB _) (Ev.ite_pos rfl (Ev.ite_pos rfl (Ev.ite_pos rfl (Ev.ite_pos rfl (Ev.bindk (same_ev l hl1) (Ev.ite_pos rfl ?_))))))
    exact Ev.bindk (eq_bytes a ha1) (Ev.ite_pos rfl (Ev.bindk (eq_bytes b hb1) (Ev.ite_pos rfl aw)))
  exact this.rounds

end Go.Proofs.Ytjdfbpjbobmgdaa.Pure
