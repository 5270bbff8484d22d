/- AwT: functions in place: their contexts and their table (printed by this session's own wip/ev/yp.py) -/
import Derived.Test.YtbliiipcjbmbiaaGreatDoorGc
import Derived.Test.YtbliiipcjbmbiaaGreatDoorProg
import Derived.Test.YtbliiipcjbmbiaaGreatDoorGvSrt
namespace Go.Proofs.YtbliiipcjbmbiaaGreatDoor.Ev
open Go Go.Proofs Go.RowKit
set_option linter.unusedVariables false
set_option maxRecDepth 100000
theorem tyY_AwT1 : TyOK Tryz.prog 1 ⟨.ofn, [], 0, 0, 0⟩ := ⟨⟨trivial, rfl, ⟨_, rfl, rfl, _, rfl, rfl⟩, ⟨_, rfl, rfl⟩⟩, trivial⟩
theorem tyY_AwT2 : TyOK Tryz.prog 2 ⟨.int .i64, [], 0, 0, 0⟩ := ⟨⟨rfl, rfl, ⟨_, rfl, rfl, _, rfl, rfl⟩, ⟨_, rfl, rfl⟩⟩, rfl⟩
theorem tyY_AwT3 : TyOK Tryz.prog 3 ⟨.int .i64, [], 0, 0, 0⟩ := ⟨⟨rfl, rfl, ⟨_, rfl, rfl, _, rfl, rfl⟩, ⟨_, rfl, rfl⟩⟩, rfl⟩
theorem tyY_AwT4 : TyOK Tryz.prog 4 ⟨.bool, [], 0, 0, 0⟩ := ⟨⟨rfl, rfl, ⟨_, rfl, rfl, _, rfl, rfl⟩, ⟨_, rfl, rfl⟩⟩, rfl⟩
theorem tyY_AwT5 : TyOK Tryz.prog 5 ⟨.int .u8, [], 0, 0, 0⟩ := ⟨⟨rfl, rfl, ⟨_, rfl, rfl, _, rfl, rfl⟩, ⟨_, rfl, rfl⟩⟩, rfl⟩
theorem tyY_AwT6 : TyOK Tryz.prog 6 ⟨.int .u8, [], 0, 0, 0⟩ := ⟨⟨rfl, rfl, ⟨_, rfl, rfl, _, rfl, rfl⟩, ⟨_, rfl, rfl⟩⟩, rfl⟩
theorem tyY_AwT8 : TyOK Tryz.prog 8 ⟨.agg (.pair (.int .i64) (.pair (.int .i64) (.pair (.bool) (.int .u8)))), [(0, 2), (1, 3), (2, 4), (3, 6)], 0, 0, 0⟩ := ⟨⟨trivial, rfl, ⟨_, rfl, rfl, _, rfl, rfl⟩, ⟨_, rfl, rfl⟩⟩, ⟨_, rfl, rfl, fun f off tf h => by
  match f, h with
  | 0, h => cases h; exact ⟨_, rfl, rfl, rfl, _, rfl⟩
  | 1, h => cases h; exact ⟨_, rfl, rfl, rfl, _, rfl⟩
  | 2, h => cases h; exact ⟨_, rfl, rfl, rfl, _, rfl⟩
  | 3, h => cases h; exact ⟨_, rfl, rfl, rfl, _, rfl⟩
  | _ + 4, h => cases h⟩⟩
theorem tyY_AwT9 : TyOK Tryz.prog 9 ⟨.str, [], 0, 0, 0⟩ := ⟨⟨rfl, rfl, ⟨_, rfl, rfl, _, rfl, rfl⟩, ⟨_, rfl, rfl⟩⟩, rfl⟩
theorem tyY_AwT22 : TyOK Tryz.prog 22 ⟨.slice (.str), [], 0, 9, 16⟩ := ⟨⟨trivial, rfl, ⟨_, rfl, rfl, _, rfl, rfl⟩, ⟨_, rfl, rfl⟩⟩, ⟨rfl, tyY_AwT9.1, fun i h => by cases h; rfl⟩⟩
theorem tyY_AwT25 : TyOK Tryz.prog 25 ⟨.agg (.pair (.int .i64) (.pair (.str) (.pair (.int .i64) (.pair (.slice (.str)) (.oslice 0))))), [(0, 3), (1, 9), (2, 3), (3, 22), (4, 23)], 0, 0, 0⟩ := ⟨⟨trivial, rfl, ⟨_, rfl, rfl, _, rfl, rfl⟩, ⟨_, rfl, rfl⟩⟩, ⟨_, rfl, rfl, fun f off tf h => by
  match f, h with
  | 0, h => cases h; exact ⟨_, rfl, rfl, rfl, _, rfl⟩
  | 1, h => cases h; exact ⟨_, rfl, rfl, rfl, _, rfl⟩
  | 2, h => cases h; exact ⟨_, rfl, rfl, rfl, _, rfl⟩
  | 3, h => cases h; exact ⟨_, rfl, rfl, rfl, _, rfl⟩
  | 4, h => cases h; exact ⟨_, rfl, rfl, rfl, _, rfl⟩
  | _ + 5, h => cases h⟩⟩
theorem tyY_AwT72 : TyOK Tryz.prog 72 ⟨.agg (.pair (.str) (.agg (.pair (.int .i64) (.pair (.str) (.pair (.int .i64) (.pair (.slice (.str)) (.oslice 0))))))), [(0, 9), (1, 25)], 0, 0, 0⟩ := ⟨⟨trivial, rfl, ⟨_, rfl, rfl, _, rfl, rfl⟩, ⟨_, rfl, rfl⟩⟩, ⟨_, rfl, rfl, fun f off tf h => by
  match f, h with
  | 0, h => cases h; exact ⟨_, rfl, rfl, rfl, _, rfl⟩
  | 1, h => cases h; exact ⟨_, rfl, rfl, rfl, _, rfl⟩
  | _ + 2, h => cases h⟩⟩
theorem tyY_AwT23 : TyOK Tryz.prog 23 ⟨.slice (.agg (.pair (.str) (.agg (.pair (.int .i64) (.pair (.str) (.pair (.int .i64) (.pair (.slice (.str)) (.oslice 0)))))))), [], 0, 72, 96⟩ := ⟨⟨trivial, rfl, ⟨_, rfl, rfl, _, rfl, rfl⟩, ⟨_, rfl, rfl⟩⟩, ⟨rfl, tyY_AwT72.1, fun i h => by cases h; rfl⟩⟩
theorem tyY_AwT26 : TyOK Tryz.prog 26 ⟨.int .i64, [], 0, 0, 0⟩ := ⟨⟨rfl, rfl, ⟨_, rfl, rfl, _, rfl, rfl⟩, ⟨_, rfl, rfl⟩⟩, rfl⟩
theorem tyY_AwT85 : TyOK Tryz.prog 85 ⟨.agg (.pair (.str) (.agg (.pair (.int .i64) (.pair (.str) (.pair (.int .i64) (.pair (.slice (.str)) (.oslice 0))))))), [(0, 9), (1, 25)], 0, 0, 0⟩ := ⟨⟨trivial, rfl, ⟨_, rfl, rfl, _, rfl, rfl⟩, ⟨_, rfl, rfl⟩⟩, ⟨_, rfl, rfl, fun f off tf h => by
  match f, h with
  | 0, h => cases h; exact ⟨_, rfl, rfl, rfl, _, rfl⟩
  | 1, h => cases h; exact ⟨_, rfl, rfl, rfl, _, rfl⟩
  | _ + 2, h => cases h⟩⟩
theorem tyY_AwT39 : TyOK Tryz.prog 39 ⟨.slice (.agg (.pair (.str) (.agg (.pair (.int .i64) (.pair (.str) (.pair (.int .i64) (.pair (.slice (.str)) (.oslice 0)))))))), [], 0, 85, 96⟩ := ⟨⟨trivial, rfl, ⟨_, rfl, rfl, _, rfl, rfl⟩, ⟨_, rfl, rfl⟩⟩, ⟨rfl, tyY_AwT85.1, fun i h => by cases h; rfl⟩⟩
theorem tyY_AwT41 : TyOK Tryz.prog 41 ⟨.agg (.pair (.str) (.pair (.str) (.slice (.agg (.pair (.str) (.agg (.pair (.int .i64) (.pair (.str) (.pair (.int .i64) (.pair (.slice (.str)) (.oslice 0))))))))))), [(0, 9), (1, 9), (2, 39)], 0, 0, 0⟩ := ⟨⟨trivial, rfl, ⟨_, rfl, rfl, _, rfl, rfl⟩, ⟨_, rfl, rfl⟩⟩, ⟨_, rfl, rfl, fun f off tf h => by
  match f, h with
  | 0, h => cases h; exact ⟨_, rfl, rfl, rfl, _, rfl⟩
  | 1, h => cases h; exact ⟨_, rfl, rfl, rfl, _, rfl⟩
  | 2, h => cases h; exact ⟨_, rfl, rfl, rfl, _, rfl⟩
  | _ + 3, h => cases h⟩⟩
theorem tyY_AwT76 : TyOK Tryz.prog 76 ⟨.ofn, [], 0, 0, 0⟩ := ⟨⟨trivial, rfl, ⟨_, rfl, rfl, _, rfl, rfl⟩, ⟨_, rfl, rfl⟩⟩, trivial⟩
theorem tyY_AwT125 : TyOK Tryz.prog 125 ⟨.ofn, [], 0, 0, 0⟩ := ⟨⟨trivial, rfl, ⟨_, rfl, rfl, _, rfl, rfl⟩, ⟨_, rfl, rfl⟩⟩, trivial⟩
theorem tyY_AwT132 : TyOK Tryz.prog 132 ⟨.ofn, [], 0, 0, 0⟩ := ⟨⟨trivial, rfl, ⟨_, rfl, rfl, _, rfl, rfl⟩, ⟨_, rfl, rfl⟩⟩, trivial⟩
def tysYAwT : List (Nat × Ty) := [(1, ⟨.ofn, [], 0, 0, 0⟩), (2, ⟨.int .i64, [], 0, 0, 0⟩), (3, ⟨.int .i64, [], 0, 0, 0⟩), (4, ⟨.bool, [], 0, 0, 0⟩), (5, ⟨.int .u8, [], 0, 0, 0⟩), (6, ⟨.int .u8, [], 0, 0, 0⟩), (8, ⟨.agg (.pair (.int .i64) (.pair (.int .i64) (.pair (.bool) (.int .u8)))), [(0, 2), (1, 3), (2, 4), (3, 6)], 0, 0, 0⟩), (9, ⟨.str, [], 0, 0, 0⟩), (22, ⟨.slice (.str), [], 0, 9, 16⟩), (25, ⟨.agg (.pair (.int .i64) (.pair (.str) (.pair (.int .i64) (.pair (.slice (.str)) (.oslice 0))))), [(0, 3), (1, 9), (2, 3), (3, 22), (4, 23)], 0, 0, 0⟩), (72, ⟨.agg (.pair (.str) (.agg (.pair (.int .i64) (.pair (.str) (.pair (.int .i64) (.pair (.slice (.str)) (.oslice 0))))))), [(0, 9), (1, 25)], 0, 0, 0⟩), (23, ⟨.slice (.agg (.pair (.str) (.agg (.pair (.int .i64) (.pair (.str) (.pair (.int .i64) (.pair (.slice (.str)) (.oslice 0)))))))), [], 0, 72, 96⟩), (26, ⟨.int .i64, [], 0, 0, 0⟩), (85, ⟨.agg (.pair (.str) (.agg (.pair (.int .i64) (.pair (.str) (.pair (.int .i64) (.pair (.slice (.str)) (.oslice 0))))))), [(0, 9), (1, 25)], 0, 0, 0⟩), (39, ⟨.slice (.agg (.pair (.str) (.agg (.pair (.int .i64) (.pair (.str) (.pair (.int .i64) (.pair (.slice (.str)) (.oslice 0)))))))), [], 0, 85, 96⟩), (41, ⟨.agg (.pair (.str) (.pair (.str) (.slice (.agg (.pair (.str) (.agg (.pair (.int .i64) (.pair (.str) (.pair (.int .i64) (.pair (.slice (.str)) (.oslice 0))))))))))), [(0, 9), (1, 9), (2, 39)], 0, 0, 0⟩), (76, ⟨.ofn, [], 0, 0, 0⟩), (125, ⟨.ofn, [], 0, 0, 0⟩), (132, ⟨.ofn, [], 0, 0, 0⟩)]
def eqsYAwT : List Nat := []
theorem eqsOKYAwT : ∀ t k, eqsYAwT.any (Nat.beq t) = true → (match alookup tysYAwT t with | some y => some y.k | none => none) = some k → EqOK Tryz.prog t k := by
  intro t k h hk
  cases h
theorem tysOKYAwT : AllL (TyOK Tryz.prog) tysYAwT := ⟨tyY_AwT1, tyY_AwT2, tyY_AwT3, tyY_AwT4, tyY_AwT5, tyY_AwT6, tyY_AwT8, tyY_AwT9, tyY_AwT22, tyY_AwT25, tyY_AwT72, tyY_AwT23, tyY_AwT26, tyY_AwT85, tyY_AwT39, tyY_AwT41, tyY_AwT76, tyY_AwT125, tyY_AwT132, trivial⟩
def fnsYAwT : List (Nat × Fn) := [(94, F94), (130, F130)]
theorem fnsOKYAwT : AllL (FnOK Tryz.prog JS) fnsYAwT := ⟨ok94, ok130, trivial⟩
def iosYAwT : List (Nat × IoFn) := []
theorem iosOKYAwT : AllL (IoOK Tryz.prog JS) iosYAwT := trivial
def ΓYAwT (draws : List (Nat × Nat)) (cuts svs : List Nat) : Ctx := ⟨alookup tysYAwT, alookup fnsYAwT, [], [], draws, cuts, [], eqsYAwT, [], svs, alookup iosYAwT, alookup [], alookup []⟩
theorem cYAwT (draws : List (Nat × Nat)) (cuts svs : List Nat) : CtxOK Tryz.prog JS (ΓYAwT draws cuts svs) := ⟨tysOKYAwT.get, fnsOKYAwT.get, by kernel_rfl, eqsOKYAwT, iosOKYAwT.get, AllL.get (l := []) trivial, AllL.get (l := []) trivial⟩
def mkRowYAwT (draws : List (Nat × Nat)) (cuts svs : List Nat) (f : Func) : YRow := ⟨ΓYAwT draws cuts svs, f.ntmps, f.results.toList, f.body.getD .skip⟩
/-- smithyard/script.CheckTarget -/
noncomputable def rowYAwT56 : YRow := mkRowYAwT [(15, 12)] [] [] Tryz.f56
theorem rowYAwT56_ok : YRowOK Tryz.prog JS 56 rowYAwT56 := ⟨cYAwT _ _ _, Tryz.f56, rfl, rfl, by decide, rfl, rfl⟩
/-- smithyard/blob.IsPath -/
noncomputable def rowYAwT59 : YRow := mkRowYAwT [] [] [] Tryz.f59
theorem rowYAwT59_ok : YRowOK Tryz.prog JS 59 rowYAwT59 := ⟨cYAwT _ _ _, Tryz.f59, rfl, rfl, by decide, rfl, rfl⟩
/-- smithyard/blob.isPart -/
noncomputable def rowYAwT101 : YRow := mkRowYAwT [] [] [] Tryz.f101
theorem rowYAwT101_ok : YRowOK Tryz.prog JS 101 rowYAwT101 := ⟨cYAwT _ _ _, Tryz.f101, rfl, rfl, by decide, rfl, rfl⟩
/-- smithyard/blob.inPart -/
noncomputable def rowYAwT126 : YRow := mkRowYAwT [] [] [] Tryz.f126
theorem rowYAwT126_ok : YRowOK Tryz.prog JS 126 rowYAwT126 := ⟨cYAwT _ _ _, Tryz.f126, rfl, rfl, by decide, rfl, rfl⟩
/-- smithyard/script.IsName -/
noncomputable def rowYAwT57 : YRow := mkRowYAwT [] [] [] Tryz.f57
theorem rowYAwT57_ok : YRowOK Tryz.prog JS 57 rowYAwT57 := ⟨cYAwT _ _ _, Tryz.f57, rfl, rfl, by decide, rfl, rfl⟩
/-- smithyard/script.isSmall -/
noncomputable def rowYAwT97 : YRow := mkRowYAwT [] [] [] Tryz.f97
theorem rowYAwT97_ok : YRowOK Tryz.prog JS 97 rowYAwT97 := ⟨cYAwT _ _ _, Tryz.f97, rfl, rfl, by decide, rfl, rfl⟩
/-- smithyard/script.isDigit -/
noncomputable def rowYAwT98 : YRow := mkRowYAwT [] [] [] Tryz.f98
theorem rowYAwT98_ok : YRowOK Tryz.prog JS 98 rowYAwT98 := ⟨cYAwT _ _ _, Tryz.f98, rfl, rfl, by decide, rfl, rfl⟩
/-- smithyard/script.words -/
noncomputable def rowYAwT99 : YRow := mkRowYAwT [] [] [] Tryz.f99
theorem rowYAwT99_ok : YRowOK Tryz.prog JS 99 rowYAwT99 := ⟨cYAwT _ _ _, Tryz.f99, rfl, rfl, by decide, rfl, rfl⟩
/-- slices.Contains[[]string,string] -/
noncomputable def rowYAwT93 : YRow := mkRowYAwT [] [] [] Tryz.f93
theorem rowYAwT93_ok : YRowOK Tryz.prog JS 93 rowYAwT93 := ⟨cYAwT _ _ _, Tryz.f93, rfl, rfl, by decide, rfl, rfl⟩
/-- slices.Index[[]string,string] -/
noncomputable def rowYAwT123 : YRow := mkRowYAwT [] [] [] Tryz.f123
theorem rowYAwT123_ok : YRowOK Tryz.prog JS 123 rowYAwT123 := ⟨cYAwT _ _ _, Tryz.f123, rfl, rfl, by decide, rfl, rfl⟩
/-- smithyard/script.CheckValue -/
noncomputable def rowYAwT16 : YRow := mkRowYAwT [] [] [] Tryz.f16
theorem rowYAwT16_ok : YRowOK Tryz.prog JS 16 rowYAwT16 := ⟨cYAwT _ _ _, Tryz.f16, rfl, rfl, by decide, rfl, rfl⟩
/-- slices.ContainsFunc[[]string,string] -/
noncomputable def rowYAwT46 : YRow := mkRowYAwT [] [] [] Tryz.f46
theorem rowYAwT46_ok : YRowOK Tryz.prog JS 46 rowYAwT46 := ⟨cYAwT _ _ _, Tryz.f46, rfl, rfl, by decide, rfl, rfl⟩
/-- slices.IndexFunc[[]string,string] -/
noncomputable def rowYAwT86 : YRow := mkRowYAwT [] [] [] Tryz.f86
theorem rowYAwT86_ok : YRowOK Tryz.prog JS 86 rowYAwT86 := ⟨cYAwT _ _ _, Tryz.f86, rfl, rfl, by decide, rfl, rfl⟩
/-- smithyard/script.CheckValue$1 -/
noncomputable def rowYAwT47 : YRow := mkRowYAwT [] [] [] Tryz.f47
theorem rowYAwT47_ok : YRowOK Tryz.prog JS 47 rowYAwT47 := ⟨cYAwT _ _ _, Tryz.f47, rfl, rfl, by decide, rfl, rfl⟩
/-- smithyard/script.isText -/
noncomputable def rowYAwT48 : YRow := mkRowYAwT [] [] [] Tryz.f48
theorem rowYAwT48_ok : YRowOK Tryz.prog JS 48 rowYAwT48 := ⟨cYAwT _ _ _, Tryz.f48, rfl, rfl, by decide, rfl, rfl⟩
/-- smithyard/script.CheckValue$2 -/
noncomputable def rowYAwT49 : YRow := mkRowYAwT [] [] [] Tryz.f49
theorem rowYAwT49_ok : YRowOK Tryz.prog JS 49 rowYAwT49 := ⟨cYAwT _ _ _, Tryz.f49, rfl, rfl, by decide, rfl, rfl⟩
/-- smithyard/script.checkCases -/
noncomputable def rowYAwT50 : YRow := mkRowYAwT [(16, 8)] [] [] Tryz.f50
theorem rowYAwT50_ok : YRowOK Tryz.prog JS 50 rowYAwT50 := ⟨cYAwT _ _ _, Tryz.f50, rfl, rfl, by decide, rfl, rfl⟩
/-- smithyard/script.checkText -/
noncomputable def rowYAwT87 : YRow := mkRowYAwT [] [] [] Tryz.f87
theorem rowYAwT87_ok : YRowOK Tryz.prog JS 87 rowYAwT87 := ⟨cYAwT _ _ _, Tryz.f87, rfl, rfl, by decide, rfl, rfl⟩
/-- smithyard/script.checkCases$1 -/
noncomputable def rowYAwT89 : YRow := mkRowYAwT [] [] [] Tryz.f89
theorem rowYAwT89_ok : YRowOK Tryz.prog JS 89 rowYAwT89 := ⟨cYAwT _ _ _, Tryz.f89, rfl, rfl, by decide, rfl, rfl⟩
/-- slices.ContainsFunc[[]smithyard/api.Attr,smithyard/api.Attr] -/
noncomputable def rowYAwT95 : YRow := mkRowYAwT [] [] [] Tryz.f95
theorem rowYAwT95_ok : YRowOK Tryz.prog JS 95 rowYAwT95 := ⟨cYAwT _ _ _, Tryz.f95, rfl, rfl, by decide, rfl, rfl⟩
/-- slices.IndexFunc[[]smithyard/api.Attr,smithyard/api.Attr] -/
noncomputable def rowYAwT125 : YRow := mkRowYAwT [] [] [] Tryz.f125
theorem rowYAwT125_ok : YRowOK Tryz.prog JS 125 rowYAwT125 := ⟨cYAwT _ _ _, Tryz.f125, rfl, rfl, by decide, rfl, rfl⟩
/-- smithyard/script.CheckTarget$1 -/
noncomputable def rowYAwT96 : YRow := mkRowYAwT [] [] [] Tryz.f96
theorem rowYAwT96_ok : YRowOK Tryz.prog JS 96 rowYAwT96 := ⟨cYAwT _ _ _, Tryz.f96, rfl, rfl, by decide, rfl, rfl⟩
noncomputable def tabYAwT : List (Nat × YRow) := [(56, rowYAwT56), (59, rowYAwT59), (101, rowYAwT101), (126, rowYAwT126), (57, rowYAwT57), (97, rowYAwT97), (98, rowYAwT98), (99, rowYAwT99), (93, rowYAwT93), (123, rowYAwT123), (16, rowYAwT16), (46, rowYAwT46), (86, rowYAwT86), (47, rowYAwT47), (48, rowYAwT48), (49, rowYAwT49), (50, rowYAwT50), (87, rowYAwT87), (89, rowYAwT89), (95, rowYAwT95), (125, rowYAwT125), (96, rowYAwT96)]
theorem tabYAwT_ok : ∀ g r, alookup tabYAwT g = some r → YRowOK Tryz.prog JS g r := AllL.get (l := tabYAwT) (Q := YRowOK Tryz.prog JS) ⟨rowYAwT56_ok, rowYAwT59_ok, rowYAwT101_ok, rowYAwT126_ok, rowYAwT57_ok, rowYAwT97_ok, rowYAwT98_ok, rowYAwT99_ok, rowYAwT93_ok, rowYAwT123_ok, rowYAwT16_ok, rowYAwT46_ok, rowYAwT86_ok, rowYAwT47_ok, rowYAwT48_ok, rowYAwT49_ok, rowYAwT50_ok, rowYAwT87_ok, rowYAwT89_ok, rowYAwT95_ok, rowYAwT125_ok, rowYAwT96_ok, trivial⟩
end Go.Proofs.YtbliiipcjbmbiaaGreatDoor.Ev
