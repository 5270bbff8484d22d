/- ConfigChecksMatchSpec: the plain law (this session's own). No condition but those in the statement. -/
import Derived.Test.YtklmkonpilkfnaaDoorPcF
import Derived.Test.YtklmkonpilkfnaaDoorStConfigChecksMatchSpec
namespace Go.Proofs.YtklmkonpilkfnaaDoor.Ev
open Go Go.RowKit
set_option linter.unusedVariables false
theorem setSz_of {L : List Setting} (h : WfS 40 (fun x : Setting => x.1.size ≤ 140737488351232 ∧ WfS 16 (fun s : ByteArray => s.size ≤ 140737488351232) x.2) L) : SetSz L :=
  ⟨h.2.1, fun s hs => ⟨(h.2.2 s hs).1, (h.2.2 s hs).2.2.1, (h.2.2 s hs).2.2.2⟩⟩
theorem pairSz_of {L : List Pair} (h : WfS 32 (fun x : Pair => x.1.size ≤ 140737488351232 ∧ x.2.size ≤ 140737488351232) L) : PairSz L := ⟨h.2.1, h.2.2⟩
theorem Ultk.some {f : Nat → Option Bool} (h : Ultk f true) : ∃ k, f k = Option.some true := by
  obtain ⟨K, h⟩ := h
  exact ⟨K, h K (Nat.le_refl _)⟩
theorem ConfigChecksMatchSpecPure : ConfigChecksMatchSpecStated := by
  intro L C n hL hC hn
  have hL := setSz_of hL
  have hC := pairSz_of hC
  have hCl : C.length ≤ 140737488355328 := by have := hC.len; omega
  refine Ultk.some ?_
  unfold S3
  refine Ult.bind (S13_spec L hL) (Ult.bind (S14_spec C (by have := hC.1; omega)) ?_)
  refine Ult.bind (S15_spec L C n hL hCl) (Ult.bind (S16_spec L C n hL hCl) ?_)
  refine Ult.bind (S17_spec L hL) (Ult.bind (S18_spec L hL) (Ult.yes (by rw [ieq_eq]; simp) ?_))
  refine Ult.bind (S19_spec L C hL hCl) (Ult.bind (S20_spec L C hL hCl) (Ult.yes (by rw [ieq_eq]; simp) ?_))
  refine Ult.yes (by rw [ieq_eq]; simp) (Ult.yes (by rw [seq_eq]; simp) ?_)
  refine Ult.bind (S21_self L hL) (Ult.yes rfl (Ult.bind (S22_self C (by omega)) (Ult.yes rfl (Ult.bind S23_spec Ult.ret))))
end Go.Proofs.YtklmkonpilkfnaaDoor.Ev
