/- script.CheckTarget of the target of awake, run whole (this session's own). No condition. -/
import Derived.Test.YtbliiipcjbmbiaaGreatDoorGc
import Derived.Test.YtbliiipcjbmbiaaGreatDoorYAwT
namespace Go.Proofs.YtbliiipcjbmbiaaGreatDoor.Ev
open Go Go.Proofs Go.RowKit
set_option linter.unusedVariables false
set_option maxRecDepth 1000000
def at56 : (.agg (.pair (.str) (.pair (.str) (.slice (.agg (.pair (.str) (.agg (.pair (.int .i64) (.pair (.str) (.pair (.int .i64) (.pair (.slice (.str)) (.oslice 0))))))))))) : Kd).T := (⟨#[97]⟩, (⟨#[107]⟩, []))
def y56 : OT [.val (.int .i64)] := (0 : Int)
def S56 : Nat → PT [.val (.agg (.pair (.str) (.pair (.str) (.slice (.agg (.pair (.str) (.agg (.pair (.int .i64) (.pair (.str) (.pair (.int .i64) (.pair (.slice (.str)) (.oslice 0))))))))))))] → Option (OT [.val (.int .i64)]) := atF at56 y56
def F56 : Fn := ⟨[.val (.agg (.pair (.str) (.pair (.str) (.slice (.agg (.pair (.str) (.agg (.pair (.int .i64) (.pair (.str) (.pair (.int .i64) (.pair (.slice (.str)) (.oslice 0))))))))))))], [.val (.int .i64)], S56⟩
theorem run56 : runFn (rowYAwT56.Γ.y (ytab tabYAwT (fun _ _ => none) 60)) 100 [.val (.agg (.pair (.str) (.pair (.str) (.slice (.agg (.pair (.str) (.agg (.pair (.int .i64) (.pair (.str) (.pair (.int .i64) (.pair (.slice (.str)) (.oslice 0))))))))))))] [.val (.int .i64)] Tryz.f56.ntmps Tryz.f56.results.toList (Tryz.f56.body.getD .skip) (at56, ()) = some y56 := by kernel_rfl
theorem ok56 : FnOK Tryz.prog JS 56 F56 := fnOK_at (rowYAwT56_ok.ctx.y (ytab_ok tabYAwT_ok (fun _ _ g F h => by cases h) 60)) (fn := Tryz.f56) (c := Tryz.f56.body.getD .skip) rfl rfl (by decide) (by decide) run56
end Go.Proofs.YtbliiipcjbmbiaaGreatDoor.Ev
