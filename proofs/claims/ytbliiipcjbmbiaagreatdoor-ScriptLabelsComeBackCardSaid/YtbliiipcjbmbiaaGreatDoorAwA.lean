/- script.Tokens of the text of awake, run whole (this session's own). No condition. -/
import Derived.Test.YtbliiipcjbmbiaaGreatDoorGc
import Derived.Test.YtbliiipcjbmbiaaGreatDoorYAwA
namespace Go.Proofs.YtbliiipcjbmbiaaGreatDoor.Ev
open Go Go.Proofs Go.RowKit
set_option linter.unusedVariables false
set_option maxRecDepth 1000000
def at114 : (.str : Kd).T := ⟨#[116, 97, 114, 103, 101, 116, 40, 110, 97, 109, 101, 32, 61, 32, 34, 97, 34, 44, 32, 107, 105, 110, 100, 32, 61, 32, 34, 107, 34, 41, 59]⟩
def y114 : OT [.val (.slice (.agg (.pair (.int .i64) (.pair (.str) (.pair (.int .i64) (.int .i64)))))), .val (.int .i64), .val (.int .i64)] := ([((1 : Int), (⟨#[116, 97, 114, 103, 101, 116]⟩, ((0 : Int), (0 : Int)))), ((4 : Int), (⟨#[40]⟩, ((0 : Int), (6 : Int)))), ((1 : Int), (⟨#[110, 97, 109, 101]⟩, ((0 : Int), (7 : Int)))), ((4 : Int), (⟨#[61]⟩, ((0 : Int), (12 : Int)))), ((2 : Int), (⟨#[97]⟩, ((0 : Int), (14 : Int)))), ((4 : Int), (⟨#[44]⟩, ((0 : Int), (17 : Int)))), ((1 : Int), (⟨#[107, 105, 110, 100]⟩, ((0 : Int), (19 : Int)))), ((4 : Int), (⟨#[61]⟩, ((0 : Int), (24 : Int)))), ((2 : Int), (⟨#[107]⟩, ((0 : Int), (26 : Int)))), ((4 : Int), (⟨#[41]⟩, ((0 : Int), (29 : Int)))), ((4 : Int), (⟨#[59]⟩, ((0 : Int), (30 : Int))))], ((0 : Int), (0 : Int)))
def S114 : Nat → PT [.val (.str)] → Option (OT [.val (.slice (.agg (.pair (.int .i64) (.pair (.str) (.pair (.int .i64) (.int .i64)))))), .val (.int .i64), .val (.int .i64)]) := atF at114 y114
def F114 : Fn := ⟨[.val (.str)], [.val (.slice (.agg (.pair (.int .i64) (.pair (.str) (.pair (.int .i64) (.int .i64)))))), .val (.int .i64), .val (.int .i64)], S114⟩
theorem run114 : runFn (rowYAwA114.Γ.y (ytab tabYAwA (fun _ _ => none) 60)) 100 [.val (.str)] [.val (.slice (.agg (.pair (.int .i64) (.pair (.str) (.pair (.int .i64) (.int .i64)))))), .val (.int .i64), .val (.int .i64)] Tryz.f114.ntmps Tryz.f114.results.toList (Tryz.f114.body.getD .skip) (at114, ()) = some y114 := by kernel_rfl
theorem ok114 : FnOK Tryz.prog JS 114 F114 := fnOK_at (rowYAwA114_ok.ctx.y (ytab_ok tabYAwA_ok (fun _ _ g F h => by cases h) 60)) (fn := Tryz.f114) (c := Tryz.f114.body.getD .skip) rfl rfl (by decide) (by decide) run114
end Go.Proofs.YtbliiipcjbmbiaaGreatDoor.Ev
