/- slices.Equal of two lists of bytes that are one: true. No condition but that their number fits. -/
import Derived.Test.YtjdfbpjbobmgdaaQTogether
import Derived.Test.YtjdfbpjbobmgdaaBase
namespace Go.Proofs.Ytjdfbpjbobmgdaa.PureTogether
open Go.RowKit Go.Proofs.Ytjdfbpjbobmgdaa.QTogether Go.Proofs.YtjdfbpjbobmgdaaW.PrintWords Go.Proofs.YtjdfbpjbobmgdaaW.PrintLast Go.Proofs.YtjdfbpjbobmgdaaW.PrintMore Go.Proofs.Ytjdfbpjbobmgdaa.Pure

theorem eq_bytes_l0 (x : List Int) (hl : x.length ≤ 140737488351232) (d : Nat) : ∀ i : Nat, i + d = x.length → Ev (fun k => slices_Equal_byte_byte.l0 k x x x.length i) true := by
  induction d with
  | zero =>
    intro i hi
    refine Ev.to (Ev.now true) fun k => ?_
    simp only [slices_Equal_byte_byte.l0]
    rw [if_neg (by omega)]
  | succ d ih =>
    intro i hi
    refine Ev.to (ih (i + 1) (by omega)) fun k => ?_
    simp (disch := omega) only [slices_Equal_byte_byte.l0, if_pos, w64]
    rfl
theorem eq_bytes (x : List Int) (hl : x.length ≤ 140737488351232) : Ev (fun k => slices_Equal_byte_byte.f k x x) true := by
  unfold slices_Equal_byte_byte.f
  refine Ev.ite_pos rfl ?_
  have := eq_bytes_l0 x hl x.length 0 (by omega)
  exact this

end Go.Proofs.Ytjdfbpjbobmgdaa.PureTogether
