/- Digest is as specified, for any bytes: the program's Digest and the reference's compute one function of the bytes, and the bytes stay as they were. No conditions. -/
import Derived.Test.YtjdfbpjbobmgdaaDigestDig
namespace Go.Proofs.Ytjdfbpjbobmgdaa.Pure
open Go.RowKit Go.Proofs.Ytjdfbpjbobmgdaa.QDigest Go.Proofs.YtjdfbpjbobmgdaaW.PrintWords Go.Proofs.YtjdfbpjbobmgdaaW.PrintLast Go.Proofs.Ytjdfbpjbobmgdaa.PureDigest

theorem eq_bytes_l0 (x : List Int) (hl : x.length ≤ 140737488351232) (d : Nat) : ∀ i : Nat, i + d = x.length → Ev (fun k => slices_Equal_byte_byte.l0 k x x x.length i) true := by
  induction d with
  | zero =>
    intro i hi
    refine Ev.to (Ev.now true) fun k => ?_
    simp only [slices_Equal_byte_byte.l0]
    rw [if_neg (by omega)]
  | succ d ih =>
    intro i hi
    refine Ev.to (ih (i + 1) (by omega)) fun k => ?_
    simp (disch := omega) only [slices_Equal_byte_byte.l0, if_pos, w64]
    rfl
theorem eq_bytes (x : List Int) (hl : x.length ≤ 140737488351232) : Ev (fun k => slices_Equal_byte_byte.f k x x) true := by
  unfold slices_Equal_byte_byte.f
  refine Ev.ite_pos rfl ?_
  have := eq_bytes_l0 x hl x.length 0 (by omega)
  exact this
theorem BlobDigestsMatchSpec : smithyardlaw1_BlobDigestsMatchSpec.Pure := by
  intro l hm hl hw
  have hl' : l.length ≤ 140737488351232 := by omega
  have : Ev (fun k => smithyardlaw1_BlobDigestsMatchSpec.f k l) true := by
    unfold smithyardlaw1_BlobDigestsMatchSpec.f
    refine Ev.bindc (a := l) (by unfold slices_Clone_byte_byte.f; rw [if_pos (by omega)]) ?_
    refine Ev.bindk (dig_ev l hl') (Ev.bindk (refdig_ev l hl') (Ev.ite_pos rfl (Ev.bindk (eq_bytes l hl') (Ev.ite_pos rfl (Ev.bindk awake_ev (Ev.now _))))))
  exact this.rounds

end Go.Proofs.Ytjdfbpjbobmgdaa.Pure
