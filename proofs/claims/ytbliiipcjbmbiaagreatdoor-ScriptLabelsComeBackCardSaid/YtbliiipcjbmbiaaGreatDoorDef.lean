/- The deferred closure of (*parser).all where nothing panics: recover gives nil, nothing changes (this session's own). No condition. -/
import Derived.Test.YtbliiipcjbmbiaaGreatDoorProg
import Derived.WalkKit
import Derived.Recover
namespace Go.Proofs.YtbliiipcjbmbiaaGreatDoor.Ev
open Go Go.Proofs
set_option linter.unusedVariables false
set_option linter.unusedSimpArgs false
set_option maxRecDepth 100000 in
theorem all_idle (p0 p1 p2 : Value) (w : World) :
    CallsD Tryz.prog 157 #[p0, p1, p2] .returning w fun e u' w' => e = .returned (.tuple #[]) ∧ u' = .returning ∧ w' = w := by
  have t20 := Tryz.underlying20
  have u20 := run_underlying Tryz.underlying20
  refine callsD_of_wpS Tryz.func157 rfl fun c₀ cs hu => ?_
  apply wpS_seq
  apply wpS_region
  simp [wpOpsS, go_sem, recoverD, hu, Tryz.ntmps157, Exit.thenS]
  apply wpS_seq
  refine wpS_of_wp ?_
  go_wp2
  show Code.wpS _ _ _ _ _ _
  refine wpS_cond (t := false) (by simp [Act.eval, Array.replicate]) ?_
  simp only [Bool.false_eq_true, if_false]
  refine wpS_of_wp (wp_skip ?_)
  cases c₀
  simp_all [bodyPostS, results, Tryz.results157]
end Go.Proofs.YtbliiipcjbmbiaaGreatDoor.Ev
