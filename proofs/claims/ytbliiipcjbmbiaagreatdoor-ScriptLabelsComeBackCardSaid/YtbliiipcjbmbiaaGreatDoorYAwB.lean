/- AwB: functions in place: their contexts and their table (printed by this session's own wip/ev/yp.py) -/
import Derived.Test.YtbliiipcjbmbiaaGreatDoorGc
import Derived.Test.YtbliiipcjbmbiaaGreatDoorProg
import Derived.Test.YtbliiipcjbmbiaaGreatDoorGvSrt
import Derived.Test.YtbliiipcjbmbiaaGreatDoorAps
namespace Go.Proofs.YtbliiipcjbmbiaaGreatDoor.Ev
open Go Go.Proofs Go.RowKit
set_option linter.unusedVariables false
set_option maxRecDepth 100000
theorem tyY_AwB1 : TyOK Tryz.prog 1 ⟨.ofn, [], 0, 0, 0⟩ := ⟨⟨trivial, rfl, ⟨_, rfl, rfl, _, rfl, rfl⟩, ⟨_, rfl, rfl⟩⟩, trivial⟩
theorem tyY_AwB2 : TyOK Tryz.prog 2 ⟨.int .i64, [], 0, 0, 0⟩ := ⟨⟨rfl, rfl, ⟨_, rfl, rfl, _, rfl, rfl⟩, ⟨_, rfl, rfl⟩⟩, rfl⟩
theorem tyY_AwB3 : TyOK Tryz.prog 3 ⟨.int .i64, [], 0, 0, 0⟩ := ⟨⟨rfl, rfl, ⟨_, rfl, rfl, _, rfl, rfl⟩, ⟨_, rfl, rfl⟩⟩, rfl⟩
theorem tyY_AwB4 : TyOK Tryz.prog 4 ⟨.bool, [], 0, 0, 0⟩ := ⟨⟨rfl, rfl, ⟨_, rfl, rfl, _, rfl, rfl⟩, ⟨_, rfl, rfl⟩⟩, rfl⟩
theorem tyY_AwB5 : TyOK Tryz.prog 5 ⟨.int .u8, [], 0, 0, 0⟩ := ⟨⟨rfl, rfl, ⟨_, rfl, rfl, _, rfl, rfl⟩, ⟨_, rfl, rfl⟩⟩, rfl⟩
theorem tyY_AwB6 : TyOK Tryz.prog 6 ⟨.int .u8, [], 0, 0, 0⟩ := ⟨⟨rfl, rfl, ⟨_, rfl, rfl, _, rfl, rfl⟩, ⟨_, rfl, rfl⟩⟩, rfl⟩
theorem tyY_AwB7 : TyOK Tryz.prog 7 ⟨.agg (.pair (.int .i64) (.pair (.int .i64) (.pair (.bool) (.int .u8)))), [(0, 2), (1, 3), (2, 4), (3, 6)], 0, 0, 0⟩ := ⟨⟨trivial, rfl, ⟨_, rfl, rfl, _, rfl, rfl⟩, ⟨_, rfl, rfl⟩⟩, ⟨_, rfl, rfl, fun f off tf h => by
  match f, h with
  | 0, h => cases h; exact ⟨_, rfl, rfl, rfl, _, rfl⟩
  | 1, h => cases h; exact ⟨_, rfl, rfl, rfl, _, rfl⟩
  | 2, h => cases h; exact ⟨_, rfl, rfl, rfl, _, rfl⟩
  | 3, h => cases h; exact ⟨_, rfl, rfl, rfl, _, rfl⟩
  | _ + 4, h => cases h⟩⟩
theorem tyY_AwB8 : TyOK Tryz.prog 8 ⟨.agg (.pair (.int .i64) (.pair (.int .i64) (.pair (.bool) (.int .u8)))), [(0, 2), (1, 3), (2, 4), (3, 6)], 0, 0, 0⟩ := ⟨⟨trivial, rfl, ⟨_, rfl, rfl, _, rfl, rfl⟩, ⟨_, rfl, rfl⟩⟩, ⟨_, rfl, rfl, fun f off tf h => by
  match f, h with
  | 0, h => cases h; exact ⟨_, rfl, rfl, rfl, _, rfl⟩
  | 1, h => cases h; exact ⟨_, rfl, rfl, rfl, _, rfl⟩
  | 2, h => cases h; exact ⟨_, rfl, rfl, rfl, _, rfl⟩
  | 3, h => cases h; exact ⟨_, rfl, rfl, rfl, _, rfl⟩
  | _ + 4, h => cases h⟩⟩
theorem tyY_AwB9 : TyOK Tryz.prog 9 ⟨.str, [], 0, 0, 0⟩ := ⟨⟨rfl, rfl, ⟨_, rfl, rfl, _, rfl, rfl⟩, ⟨_, rfl, rfl⟩⟩, rfl⟩
theorem tyY_AwB22 : TyOK Tryz.prog 22 ⟨.slice (.str), [], 0, 9, 16⟩ := ⟨⟨trivial, rfl, ⟨_, rfl, rfl, _, rfl, rfl⟩, ⟨_, rfl, rfl⟩⟩, ⟨rfl, tyY_AwB9.1, fun i h => by cases h; rfl⟩⟩
theorem tyY_AwB26 : TyOK Tryz.prog 26 ⟨.int .i64, [], 0, 0, 0⟩ := ⟨⟨rfl, rfl, ⟨_, rfl, rfl, _, rfl, rfl⟩, ⟨_, rfl, rfl⟩⟩, rfl⟩
theorem tyY_AwB76 : TyOK Tryz.prog 76 ⟨.ofn, [], 0, 0, 0⟩ := ⟨⟨trivial, rfl, ⟨_, rfl, rfl, _, rfl, rfl⟩, ⟨_, rfl, rfl⟩⟩, trivial⟩
theorem tyY_AwB160 : TyOK Tryz.prog 160 ⟨.agg (.pair (.int .i64) (.pair (.str) (.pair (.int .i64) (.pair (.slice (.str)) (.oslice 0))))), [(0, 3), (1, 9), (2, 3), (3, 22), (4, 158)], 0, 0, 0⟩ := ⟨⟨trivial, rfl, ⟨_, rfl, rfl, _, rfl, rfl⟩, ⟨_, rfl, rfl⟩⟩, ⟨_, rfl, rfl, fun f off tf h => by
  match f, h with
  | 0, h => cases h; exact ⟨_, rfl, rfl, rfl, _, rfl⟩
  | 1, h => cases h; exact ⟨_, rfl, rfl, rfl, _, rfl⟩
  | 2, h => cases h; exact ⟨_, rfl, rfl, rfl, _, rfl⟩
  | 3, h => cases h; exact ⟨_, rfl, rfl, rfl, _, rfl⟩
  | 4, h => cases h; exact ⟨_, rfl, rfl, rfl, _, rfl⟩
  | _ + 5, h => cases h⟩⟩
theorem tyY_AwB158 : TyOK Tryz.prog 158 ⟨.slice (.agg (.pair (.int .i64) (.pair (.str) (.pair (.int .i64) (.pair (.slice (.str)) (.oslice 0)))))), [], 0, 160, 80⟩ := ⟨⟨trivial, rfl, ⟨_, rfl, rfl, _, rfl, rfl⟩, ⟨_, rfl, rfl⟩⟩, ⟨rfl, tyY_AwB160.1, fun i h => by cases h; rfl⟩⟩
theorem tyY_AwB258 : TyOK Tryz.prog 258 ⟨.agg (.pair (.str) (.agg (.pair (.int .i64) (.pair (.str) (.pair (.int .i64) (.pair (.slice (.str)) (.oslice 0))))))), [(0, 9), (1, 160)], 0, 0, 0⟩ := ⟨⟨trivial, rfl, ⟨_, rfl, rfl, _, rfl, rfl⟩, ⟨_, rfl, rfl⟩⟩, ⟨_, rfl, rfl, fun f off tf h => by
  match f, h with
  | 0, h => cases h; exact ⟨_, rfl, rfl, rfl, _, rfl⟩
  | 1, h => cases h; exact ⟨_, rfl, rfl, rfl, _, rfl⟩
  | _ + 2, h => cases h⟩⟩
theorem tyY_AwB157 : TyOK Tryz.prog 157 ⟨.slice (.agg (.pair (.str) (.agg (.pair (.int .i64) (.pair (.str) (.pair (.int .i64) (.pair (.slice (.str)) (.oslice 0)))))))), [], 0, 258, 96⟩ := ⟨⟨trivial, rfl, ⟨_, rfl, rfl, _, rfl, rfl⟩, ⟨_, rfl, rfl⟩⟩, ⟨rfl, tyY_AwB258.1, fun i h => by cases h; rfl⟩⟩
theorem tyY_AwB162 : TyOK Tryz.prog 162 ⟨.agg (.pair (.int .i64) (.pair (.str) (.pair (.str) (.pair (.slice (.str)) (.pair (.slice (.agg (.pair (.str) (.agg (.pair (.int .i64) (.pair (.str) (.pair (.int .i64) (.pair (.slice (.str)) (.oslice 0))))))))) (.pair (.agg (.pair (.int .i64) (.pair (.str) (.pair (.int .i64) (.pair (.slice (.str)) (.oslice 0)))))) (.pair (.oslice 0) (.pair (.oslice 0) (.int .i64))))))))), [(0, 3), (1, 9), (2, 9), (3, 22), (4, 157), (5, 160), (10, 105), (11, 105), (12, 3)], 0, 0, 0⟩ := ⟨⟨trivial, rfl, ⟨_, rfl, rfl, _, rfl, rfl⟩, ⟨_, rfl, rfl⟩⟩, ⟨_, rfl, rfl, fun f off tf h => by
  match f, h with
  | 0, h => cases h; exact ⟨_, rfl, rfl, rfl, _, rfl⟩
  | 1, h => cases h; exact ⟨_, rfl, rfl, rfl, _, rfl⟩
  | 2, h => cases h; exact ⟨_, rfl, rfl, rfl, _, rfl⟩
  | 3, h => cases h; exact ⟨_, rfl, rfl, rfl, _, rfl⟩
  | 4, h => cases h; exact ⟨_, rfl, rfl, rfl, _, rfl⟩
  | 5, h => cases h; exact ⟨_, rfl, rfl, rfl, _, rfl⟩
  | 6, h => cases h; exact ⟨_, rfl, rfl, rfl, _, rfl⟩
  | 7, h => cases h; exact ⟨_, rfl, rfl, rfl, _, rfl⟩
  | 8, h => cases h; exact ⟨_, rfl, rfl, rfl, _, rfl⟩
  | _ + 9, h => cases h⟩⟩
theorem tyY_AwB105 : TyOK Tryz.prog 105 ⟨.slice (.agg (.pair (.int .i64) (.pair (.str) (.pair (.str) (.pair (.slice (.str)) (.pair (.slice (.agg (.pair (.str) (.agg (.pair (.int .i64) (.pair (.str) (.pair (.int .i64) (.pair (.slice (.str)) (.oslice 0))))))))) (.pair (.agg (.pair (.int .i64) (.pair (.str) (.pair (.int .i64) (.pair (.slice (.str)) (.oslice 0)))))) (.pair (.oslice 0) (.pair (.oslice 0) (.int .i64)))))))))), [], 0, 162, 224⟩ := ⟨⟨trivial, rfl, ⟨_, rfl, rfl, _, rfl, rfl⟩, ⟨_, rfl, rfl⟩⟩, ⟨rfl, tyY_AwB162.1, fun i h => by cases h; rfl⟩⟩
theorem tyY_AwB254 : TyOK Tryz.prog 254 ⟨.agg (.pair (.bool) (.pair (.bool) (.pair (.bool) (.pair (.bool) (.pair (.bool) (.pair (.bool) (.bool))))))), [(0, 4), (1, 4), (2, 4), (3, 4), (4, 4), (5, 4), (6, 4)], 0, 0, 0⟩ := ⟨⟨trivial, rfl, ⟨_, rfl, rfl, _, rfl, rfl⟩, ⟨_, rfl, rfl⟩⟩, ⟨_, rfl, rfl, fun f off tf h => by
  match f, h with
  | 0, h => cases h; exact ⟨_, rfl, rfl, rfl, _, rfl⟩
  | 1, h => cases h; exact ⟨_, rfl, rfl, rfl, _, rfl⟩
  | 2, h => cases h; exact ⟨_, rfl, rfl, rfl, _, rfl⟩
  | 3, h => cases h; exact ⟨_, rfl, rfl, rfl, _, rfl⟩
  | 4, h => cases h; exact ⟨_, rfl, rfl, rfl, _, rfl⟩
  | 5, h => cases h; exact ⟨_, rfl, rfl, rfl, _, rfl⟩
  | 6, h => cases h; exact ⟨_, rfl, rfl, rfl, _, rfl⟩
  | _ + 7, h => cases h⟩⟩
theorem tyY_AwB296 : TyOK Tryz.prog 296 ⟨.ofn, [], 0, 0, 0⟩ := ⟨⟨trivial, rfl, ⟨_, rfl, rfl, _, rfl, rfl⟩, ⟨_, rfl, rfl⟩⟩, trivial⟩
theorem tyY_AwB297 : TyOK Tryz.prog 297 ⟨.ofn, [], 0, 0, 0⟩ := ⟨⟨trivial, rfl, ⟨_, rfl, rfl, _, rfl, rfl⟩, ⟨_, rfl, rfl⟩⟩, trivial⟩
def tysYAwB : List (Nat × Ty) := [(1, ⟨.ofn, [], 0, 0, 0⟩), (2, ⟨.int .i64, [], 0, 0, 0⟩), (3, ⟨.int .i64, [], 0, 0, 0⟩), (4, ⟨.bool, [], 0, 0, 0⟩), (5, ⟨.int .u8, [], 0, 0, 0⟩), (6, ⟨.int .u8, [], 0, 0, 0⟩), (7, ⟨.agg (.pair (.int .i64) (.pair (.int .i64) (.pair (.bool) (.int .u8)))), [(0, 2), (1, 3), (2, 4), (3, 6)], 0, 0, 0⟩), (8, ⟨.agg (.pair (.int .i64) (.pair (.int .i64) (.pair (.bool) (.int .u8)))), [(0, 2), (1, 3), (2, 4), (3, 6)], 0, 0, 0⟩), (9, ⟨.str, [], 0, 0, 0⟩), (22, ⟨.slice (.str), [], 0, 9, 16⟩), (26, ⟨.int .i64, [], 0, 0, 0⟩), (76, ⟨.ofn, [], 0, 0, 0⟩), (160, ⟨.agg (.pair (.int .i64) (.pair (.str) (.pair (.int .i64) (.pair (.slice (.str)) (.oslice 0))))), [(0, 3), (1, 9), (2, 3), (3, 22), (4, 158)], 0, 0, 0⟩), (158, ⟨.slice (.agg (.pair (.int .i64) (.pair (.str) (.pair (.int .i64) (.pair (.slice (.str)) (.oslice 0)))))), [], 0, 160, 80⟩), (258, ⟨.agg (.pair (.str) (.agg (.pair (.int .i64) (.pair (.str) (.pair (.int .i64) (.pair (.slice (.str)) (.oslice 0))))))), [(0, 9), (1, 160)], 0, 0, 0⟩), (157, ⟨.slice (.agg (.pair (.str) (.agg (.pair (.int .i64) (.pair (.str) (.pair (.int .i64) (.pair (.slice (.str)) (.oslice 0)))))))), [], 0, 258, 96⟩), (162, ⟨.agg (.pair (.int .i64) (.pair (.str) (.pair (.str) (.pair (.slice (.str)) (.pair (.slice (.agg (.pair (.str) (.agg (.pair (.int .i64) (.pair (.str) (.pair (.int .i64) (.pair (.slice (.str)) (.oslice 0))))))))) (.pair (.agg (.pair (.int .i64) (.pair (.str) (.pair (.int .i64) (.pair (.slice (.str)) (.oslice 0)))))) (.pair (.oslice 0) (.pair (.oslice 0) (.int .i64))))))))), [(0, 3), (1, 9), (2, 9), (3, 22), (4, 157), (5, 160), (10, 105), (11, 105), (12, 3)], 0, 0, 0⟩), (105, ⟨.slice (.agg (.pair (.int .i64) (.pair (.str) (.pair (.str) (.pair (.slice (.str)) (.pair (.slice (.agg (.pair (.str) (.agg (.pair (.int .i64) (.pair (.str) (.pair (.int .i64) (.pair (.slice (.str)) (.oslice 0))))))))) (.pair (.agg (.pair (.int .i64) (.pair (.str) (.pair (.int .i64) (.pair (.slice (.str)) (.oslice 0)))))) (.pair (.oslice 0) (.pair (.oslice 0) (.int .i64)))))))))), [], 0, 162, 224⟩), (254, ⟨.agg (.pair (.bool) (.pair (.bool) (.pair (.bool) (.pair (.bool) (.pair (.bool) (.pair (.bool) (.bool))))))), [(0, 4), (1, 4), (2, 4), (3, 4), (4, 4), (5, 4), (6, 4)], 0, 0, 0⟩), (296, ⟨.ofn, [], 0, 0, 0⟩), (297, ⟨.ofn, [], 0, 0, 0⟩)]
def eqsYAwB : List Nat := []
theorem eqsOKYAwB : ∀ t k, eqsYAwB.any (Nat.beq t) = true → (match alookup tysYAwB t with | some y => some y.k | none => none) = some k → EqOK Tryz.prog t k := by
  intro t k h hk
  cases h
theorem tysOKYAwB : AllL (TyOK Tryz.prog) tysYAwB := ⟨tyY_AwB1, tyY_AwB2, tyY_AwB3, tyY_AwB4, tyY_AwB5, tyY_AwB6, tyY_AwB7, tyY_AwB8, tyY_AwB9, tyY_AwB22, tyY_AwB26, tyY_AwB76, tyY_AwB160, tyY_AwB158, tyY_AwB258, tyY_AwB157, tyY_AwB162, tyY_AwB105, tyY_AwB254, tyY_AwB296, tyY_AwB297, trivial⟩
def fnsYAwB : List (Nat × Fn) := [(45, F45)]
theorem fnsOKYAwB : AllL (FnOK Tryz.prog JS) fnsYAwB := ⟨ok45, trivial⟩
def iosYAwB : List (Nat × IoFn) := [(67, IO67)]
theorem iosOKYAwB : AllL (IoOK Tryz.prog JS) iosYAwB := ⟨okIO67, trivial⟩
def ΓYAwB (draws : List (Nat × Nat)) (cuts svs : List Nat) : Ctx := ⟨alookup tysYAwB, alookup fnsYAwB, [], [], draws, cuts, [], eqsYAwB, [], svs, alookup iosYAwB, alookup [], alookup []⟩
theorem cYAwB (draws : List (Nat × Nat)) (cuts svs : List Nat) : CtxOK Tryz.prog JS (ΓYAwB draws cuts svs) := ⟨tysOKYAwB.get, fnsOKYAwB.get, by kernel_rfl, eqsOKYAwB, iosOKYAwB.get, AllL.get (l := []) trivial, AllL.get (l := []) trivial⟩
def mkRowYAwB (draws : List (Nat × Nat)) (cuts svs : List Nat) (f : Func) : YRow := ⟨ΓYAwB draws cuts svs, f.ntmps, f.results.toList, f.body.getD .skip⟩
/-- smithyard/script.CheckProgram -/
noncomputable def rowYAwB116 : YRow := mkRowYAwB [] [] [] Tryz.f116
theorem rowYAwB116_ok : YRowOK Tryz.prog JS 116 rowYAwB116 := ⟨cYAwB _ _ _, Tryz.f116, rfl, rfl, by decide, rfl, rfl⟩
/-- smithyard/script.count -/
noncomputable def rowYAwB159 : YRow := mkRowYAwB [(13, 1000008)] [] [] Tryz.f159
theorem rowYAwB159_ok : YRowOK Tryz.prog JS 159 rowYAwB159 := ⟨cYAwB _ _ _, Tryz.f159, rfl, rfl, by decide, rfl, rfl⟩
/-- smithyard/script.has -/
noncomputable def rowYAwB208 : YRow := mkRowYAwB [] [] [] Tryz.f208
theorem rowYAwB208_ok : YRowOK Tryz.prog JS 208 rowYAwB208 := ⟨cYAwB _ _ _, Tryz.f208, rfl, rfl, by decide, rfl, rfl⟩
/-- smithyard/script.many -/
noncomputable def rowYAwB209 : YRow := mkRowYAwB [] [] [] Tryz.f209
theorem rowYAwB209_ok : YRowOK Tryz.prog JS 209 rowYAwB209 := ⟨cYAwB _ _ _, Tryz.f209, rfl, rfl, by decide, rfl, rfl⟩
/-- smithyard/script.checkStatements -/
noncomputable def rowYAwB160 : YRow := mkRowYAwB [] [] [] Tryz.f160
theorem rowYAwB160_ok : YRowOK Tryz.prog JS 160 rowYAwB160 := ⟨cYAwB _ _ _, Tryz.f160, rfl, rfl, by decide, rfl, rfl⟩
/-- smithyard/script.checkAlone -/
noncomputable def rowYAwB210 : YRow := mkRowYAwB [(5, 1000005)] [] [] Tryz.f210
theorem rowYAwB210_ok : YRowOK Tryz.prog JS 210 rowYAwB210 := ⟨cYAwB _ _ _, Tryz.f210, rfl, rfl, by decide, rfl, rfl⟩
/-- smithyard/script.namesOf -/
noncomputable def rowYAwB236 : YRow := mkRowYAwB [] [] [] Tryz.f236
theorem rowYAwB236_ok : YRowOK Tryz.prog JS 236 rowYAwB236 := ⟨cYAwB _ _ _, Tryz.f236, rfl, rfl, by decide, rfl, rfl⟩
/-- smithyard/script.checkAlone$1 -/
noncomputable def rowYAwB237 : YRow := mkRowYAwB [] [] [] Tryz.f237
theorem rowYAwB237_ok : YRowOK Tryz.prog JS 237 rowYAwB237 := ⟨cYAwB _ _ _, Tryz.f237, rfl, rfl, by decide, rfl, rfl⟩
/-- smithyard/script.IsName -/
noncomputable def rowYAwB57 : YRow := mkRowYAwB [] [] [] Tryz.f57
theorem rowYAwB57_ok : YRowOK Tryz.prog JS 57 rowYAwB57 := ⟨cYAwB _ _ _, Tryz.f57, rfl, rfl, by decide, rfl, rfl⟩
/-- smithyard/script.isSmall -/
noncomputable def rowYAwB97 : YRow := mkRowYAwB [] [] [] Tryz.f97
theorem rowYAwB97_ok : YRowOK Tryz.prog JS 97 rowYAwB97 := ⟨cYAwB _ _ _, Tryz.f97, rfl, rfl, by decide, rfl, rfl⟩
/-- smithyard/script.isDigit -/
noncomputable def rowYAwB98 : YRow := mkRowYAwB [] [] [] Tryz.f98
theorem rowYAwB98_ok : YRowOK Tryz.prog JS 98 rowYAwB98 := ⟨cYAwB _ _ _, Tryz.f98, rfl, rfl, by decide, rfl, rfl⟩
/-- smithyard/script.words -/
noncomputable def rowYAwB99 : YRow := mkRowYAwB [] [] [] Tryz.f99
theorem rowYAwB99_ok : YRowOK Tryz.prog JS 99 rowYAwB99 := ⟨cYAwB _ _ _, Tryz.f99, rfl, rfl, by decide, rfl, rfl⟩
/-- slices.Contains[[]string,string] -/
noncomputable def rowYAwB93 : YRow := mkRowYAwB [] [] [] Tryz.f93
theorem rowYAwB93_ok : YRowOK Tryz.prog JS 93 rowYAwB93 := ⟨cYAwB _ _ _, Tryz.f93, rfl, rfl, by decide, rfl, rfl⟩
/-- slices.Index[[]string,string] -/
noncomputable def rowYAwB123 : YRow := mkRowYAwB [] [] [] Tryz.f123
theorem rowYAwB123_ok : YRowOK Tryz.prog JS 123 rowYAwB123 := ⟨cYAwB _ _ _, Tryz.f123, rfl, rfl, by decide, rfl, rfl⟩
/-- slices.ContainsFunc[[]string,string] -/
noncomputable def rowYAwB46 : YRow := mkRowYAwB [] [] [] Tryz.f46
theorem rowYAwB46_ok : YRowOK Tryz.prog JS 46 rowYAwB46 := ⟨cYAwB _ _ _, Tryz.f46, rfl, rfl, by decide, rfl, rfl⟩
/-- slices.IndexFunc[[]string,string] -/
noncomputable def rowYAwB86 : YRow := mkRowYAwB [] [] [] Tryz.f86
theorem rowYAwB86_ok : YRowOK Tryz.prog JS 86 rowYAwB86 := ⟨cYAwB _ _ _, Tryz.f86, rfl, rfl, by decide, rfl, rfl⟩
/-- smithyard/script.isZero -/
noncomputable def rowYAwB238 : YRow := mkRowYAwB [] [] [] Tryz.f238
theorem rowYAwB238_ok : YRowOK Tryz.prog JS 238 rowYAwB238 := ⟨cYAwB _ _ _, Tryz.f238, rfl, rfl, by decide, rfl, rfl⟩
/-- smithyard/script.isText -/
noncomputable def rowYAwB48 : YRow := mkRowYAwB [] [] [] Tryz.f48
theorem rowYAwB48_ok : YRowOK Tryz.prog JS 48 rowYAwB48 := ⟨cYAwB _ _ _, Tryz.f48, rfl, rfl, by decide, rfl, rfl⟩
/-- smithyard/script.twice -/
noncomputable def rowYAwB239 : YRow := mkRowYAwB [] [] [] Tryz.f239
theorem rowYAwB239_ok : YRowOK Tryz.prog JS 239 rowYAwB239 := ⟨cYAwB _ _ _, Tryz.f239, rfl, rfl, by decide, rfl, rfl⟩
/-- slices.Values[[]string,string] -/
noncomputable def rowYAwB251 : YRow := mkRowYAwB [] [] [] Tryz.f251
theorem rowYAwB251_ok : YRowOK Tryz.prog JS 251 rowYAwB251 := ⟨cYAwB _ _ _, Tryz.f251, rfl, rfl, by decide, rfl, rfl⟩
/-- slices.Values[[]string,string]$1 -/
noncomputable def rowYAwB258 : YRow := mkRowYAwB [] [] [] Tryz.f258
theorem rowYAwB258_ok : YRowOK Tryz.prog JS 258 rowYAwB258 := ⟨cYAwB _ _ _, Tryz.f258, rfl, rfl, by decide, rfl, rfl⟩
/-- slices.Sorted[string] -/
noncomputable def rowYAwB250 : YRow := mkRowYAwB [] [] [] Tryz.f250
theorem rowYAwB250_ok : YRowOK Tryz.prog JS 250 rowYAwB250 := ⟨cYAwB _ _ _, Tryz.f250, rfl, rfl, by decide, rfl, rfl⟩
/-- slices.Collect[string] -/
noncomputable def rowYAwB257 : YRow := mkRowYAwB [] [] [] Tryz.f257
theorem rowYAwB257_ok : YRowOK Tryz.prog JS 257 rowYAwB257 := ⟨cYAwB _ _ _, Tryz.f257, rfl, rfl, by decide, rfl, rfl⟩
/-- slices.Compact[[]string,string] -/
noncomputable def rowYAwB68 : YRow := mkRowYAwB [(6, 9), (11, 9)] [] [] Tryz.f68
theorem rowYAwB68_ok : YRowOK Tryz.prog JS 68 rowYAwB68 := ⟨cYAwB _ _ _, Tryz.f68, rfl, rfl, by decide, rfl, rfl⟩
/-- smithyard/script.checkExpr -/
noncomputable def rowYAwB211 : YRow := mkRowYAwB [] [] [] Tryz.f211
theorem rowYAwB211_ok : YRowOK Tryz.prog JS 211 rowYAwB211 := ⟨cYAwB _ _ _, Tryz.f211, rfl, rfl, by decide, rfl, rfl⟩
/-- smithyard/script.checkExprAlone -/
noncomputable def rowYAwB240 : YRow := mkRowYAwB [] [] [] Tryz.f240
theorem rowYAwB240_ok : YRowOK Tryz.prog JS 240 rowYAwB240 := ⟨cYAwB _ _ _, Tryz.f240, rfl, rfl, by decide, rfl, rfl⟩
/-- smithyard/script.checkExprAlone$1 -/
noncomputable def rowYAwB252 : YRow := mkRowYAwB [] [] [] Tryz.f252
theorem rowYAwB252_ok : YRowOK Tryz.prog JS 252 rowYAwB252 := ⟨cYAwB _ _ _, Tryz.f252, rfl, rfl, by decide, rfl, rfl⟩
/-- smithyard/script.inBrackets -/
noncomputable def rowYAwB241 : YRow := mkRowYAwB [] [] [] Tryz.f241
theorem rowYAwB241_ok : YRowOK Tryz.prog JS 241 rowYAwB241 := ⟨cYAwB _ _ _, Tryz.f241, rfl, rfl, by decide, rfl, rfl⟩
noncomputable def tabYAwB : List (Nat × YRow) := [(116, rowYAwB116), (159, rowYAwB159), (208, rowYAwB208), (209, rowYAwB209), (160, rowYAwB160), (210, rowYAwB210), (236, rowYAwB236), (237, rowYAwB237), (57, rowYAwB57), (97, rowYAwB97), (98, rowYAwB98), (99, rowYAwB99), (93, rowYAwB93), (123, rowYAwB123), (46, rowYAwB46), (86, rowYAwB86), (238, rowYAwB238), (48, rowYAwB48), (239, rowYAwB239), (251, rowYAwB251), (258, rowYAwB258), (250, rowYAwB250), (257, rowYAwB257), (68, rowYAwB68), (211, rowYAwB211), (240, rowYAwB240), (252, rowYAwB252), (241, rowYAwB241)]
theorem tabYAwB_ok : ∀ g r, alookup tabYAwB g = some r → YRowOK Tryz.prog JS g r := AllL.get (l := tabYAwB) (Q := YRowOK Tryz.prog JS) ⟨rowYAwB116_ok, rowYAwB159_ok, rowYAwB208_ok, rowYAwB209_ok, rowYAwB160_ok, rowYAwB210_ok, rowYAwB236_ok, rowYAwB237_ok, rowYAwB57_ok, rowYAwB97_ok, rowYAwB98_ok, rowYAwB99_ok, rowYAwB93_ok, rowYAwB123_ok, rowYAwB46_ok, rowYAwB86_ok, rowYAwB238_ok, rowYAwB48_ok, rowYAwB239_ok, rowYAwB251_ok, rowYAwB258_ok, rowYAwB250_ok, rowYAwB257_ok, rowYAwB68_ok, rowYAwB211_ok, rowYAwB240_ok, rowYAwB252_ok, rowYAwB241_ok, trivial⟩
end Go.Proofs.YtbliiipcjbmbiaaGreatDoor.Ev
