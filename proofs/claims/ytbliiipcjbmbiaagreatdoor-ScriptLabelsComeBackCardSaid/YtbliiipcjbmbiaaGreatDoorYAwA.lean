/- AwA: functions in place: their contexts and their table (printed by this session's own wip/ev/yp.py) -/
import Derived.Test.YtbliiipcjbmbiaaGreatDoorGc
import Derived.Test.YtbliiipcjbmbiaaGreatDoorProg
import Derived.Test.YtbliiipcjbmbiaaGreatDoorGvSrt
namespace Go.Proofs.YtbliiipcjbmbiaaGreatDoor.Ev
open Go Go.Proofs Go.RowKit
set_option linter.unusedVariables false
set_option maxRecDepth 100000
theorem tyY_AwA1 : TyOK Tryz.prog 1 ⟨.ofn, [], 0, 0, 0⟩ := ⟨⟨trivial, rfl, ⟨_, rfl, rfl, _, rfl, rfl⟩, ⟨_, rfl, rfl⟩⟩, trivial⟩
theorem tyY_AwA2 : TyOK Tryz.prog 2 ⟨.int .i64, [], 0, 0, 0⟩ := ⟨⟨rfl, rfl, ⟨_, rfl, rfl, _, rfl, rfl⟩, ⟨_, rfl, rfl⟩⟩, rfl⟩
theorem tyY_AwA3 : TyOK Tryz.prog 3 ⟨.int .i64, [], 0, 0, 0⟩ := ⟨⟨rfl, rfl, ⟨_, rfl, rfl, _, rfl, rfl⟩, ⟨_, rfl, rfl⟩⟩, rfl⟩
theorem tyY_AwA4 : TyOK Tryz.prog 4 ⟨.bool, [], 0, 0, 0⟩ := ⟨⟨rfl, rfl, ⟨_, rfl, rfl, _, rfl, rfl⟩, ⟨_, rfl, rfl⟩⟩, rfl⟩
theorem tyY_AwA5 : TyOK Tryz.prog 5 ⟨.int .u8, [], 0, 0, 0⟩ := ⟨⟨rfl, rfl, ⟨_, rfl, rfl, _, rfl, rfl⟩, ⟨_, rfl, rfl⟩⟩, rfl⟩
theorem tyY_AwA9 : TyOK Tryz.prog 9 ⟨.str, [], 0, 0, 0⟩ := ⟨⟨rfl, rfl, ⟨_, rfl, rfl, _, rfl, rfl⟩, ⟨_, rfl, rfl⟩⟩, rfl⟩
theorem tyY_AwA26 : TyOK Tryz.prog 26 ⟨.int .i64, [], 0, 0, 0⟩ := ⟨⟨rfl, rfl, ⟨_, rfl, rfl, _, rfl, rfl⟩, ⟨_, rfl, rfl⟩⟩, rfl⟩
theorem tyY_AwA128 : TyOK Tryz.prog 128 ⟨.ofn, [], 0, 0, 0⟩ := ⟨⟨trivial, rfl, ⟨_, rfl, rfl, _, rfl, rfl⟩, ⟨_, rfl, rfl⟩⟩, trivial⟩
theorem tyY_AwA201 : TyOK Tryz.prog 201 ⟨.agg (.pair (.int .i64) (.pair (.str) (.pair (.int .i64) (.int .i64)))), [(0, 3), (1, 9), (2, 3), (3, 3)], 0, 0, 0⟩ := ⟨⟨trivial, rfl, ⟨_, rfl, rfl, _, rfl, rfl⟩, ⟨_, rfl, rfl⟩⟩, ⟨_, rfl, rfl, fun f off tf h => by
  match f, h with
  | 0, h => cases h; exact ⟨_, rfl, rfl, rfl, _, rfl⟩
  | 1, h => cases h; exact ⟨_, rfl, rfl, rfl, _, rfl⟩
  | 2, h => cases h; exact ⟨_, rfl, rfl, rfl, _, rfl⟩
  | 3, h => cases h; exact ⟨_, rfl, rfl, rfl, _, rfl⟩
  | _ + 4, h => cases h⟩⟩
theorem tyY_AwA147 : TyOK Tryz.prog 147 ⟨.slice (.agg (.pair (.int .i64) (.pair (.str) (.pair (.int .i64) (.int .i64))))), [], 0, 201, 40⟩ := ⟨⟨trivial, rfl, ⟨_, rfl, rfl, _, rfl, rfl⟩, ⟨_, rfl, rfl⟩⟩, ⟨rfl, tyY_AwA201.1, fun i h => by cases h; rfl⟩⟩
theorem tyY_AwA193 : TyOK Tryz.prog 193 ⟨.slice (.int .u8), [], 0, 5, 1⟩ := ⟨⟨trivial, rfl, ⟨_, rfl, rfl, _, rfl, rfl⟩, ⟨_, rfl, rfl⟩⟩, ⟨rfl, tyY_AwA5.1, fun i h => by cases h; rfl⟩⟩
theorem tyY_AwA199 : TyOK Tryz.prog 199 ⟨.agg (.pair (.str) (.pair (.int .i64) (.slice (.agg (.pair (.int .i64) (.pair (.str) (.pair (.int .i64) (.int .i64)))))))), [(0, 9), (1, 3), (2, 147)], 0, 0, 0⟩ := ⟨⟨trivial, rfl, ⟨_, rfl, rfl, _, rfl, rfl⟩, ⟨_, rfl, rfl⟩⟩, ⟨_, rfl, rfl, fun f off tf h => by
  match f, h with
  | 0, h => cases h; exact ⟨_, rfl, rfl, rfl, _, rfl⟩
  | 1, h => cases h; exact ⟨_, rfl, rfl, rfl, _, rfl⟩
  | 2, h => cases h; exact ⟨_, rfl, rfl, rfl, _, rfl⟩
  | _ + 3, h => cases h⟩⟩
theorem tyY_AwA197 : TyOK Tryz.prog 197 ⟨.optr, [], 0, 199, 0⟩ := ⟨⟨trivial, rfl, ⟨_, rfl, rfl, _, rfl, rfl⟩, ⟨_, rfl, rfl⟩⟩, ⟨rfl, _, rfl, by decide⟩⟩
theorem tyY_AwA241 : TyOK Tryz.prog 241 ⟨.optr, [], 0, 201, 0⟩ := ⟨⟨trivial, rfl, ⟨_, rfl, rfl, _, rfl, rfl⟩, ⟨_, rfl, rfl⟩⟩, ⟨rfl, _, rfl, by decide⟩⟩
def tysYAwA : List (Nat × Ty) := [(1, ⟨.ofn, [], 0, 0, 0⟩), (2, ⟨.int .i64, [], 0, 0, 0⟩), (3, ⟨.int .i64, [], 0, 0, 0⟩), (4, ⟨.bool, [], 0, 0, 0⟩), (5, ⟨.int .u8, [], 0, 0, 0⟩), (9, ⟨.str, [], 0, 0, 0⟩), (26, ⟨.int .i64, [], 0, 0, 0⟩), (128, ⟨.ofn, [], 0, 0, 0⟩), (201, ⟨.agg (.pair (.int .i64) (.pair (.str) (.pair (.int .i64) (.int .i64)))), [(0, 3), (1, 9), (2, 3), (3, 3)], 0, 0, 0⟩), (147, ⟨.slice (.agg (.pair (.int .i64) (.pair (.str) (.pair (.int .i64) (.int .i64))))), [], 0, 201, 40⟩), (193, ⟨.slice (.int .u8), [], 0, 5, 1⟩), (199, ⟨.agg (.pair (.str) (.pair (.int .i64) (.slice (.agg (.pair (.int .i64) (.pair (.str) (.pair (.int .i64) (.int .i64)))))))), [(0, 9), (1, 3), (2, 147)], 0, 0, 0⟩), (197, ⟨.optr, [], 0, 199, 0⟩), (241, ⟨.optr, [], 0, 201, 0⟩)]
def eqsYAwA : List Nat := []
theorem eqsOKYAwA : ∀ t k, eqsYAwA.any (Nat.beq t) = true → (match alookup tysYAwA t with | some y => some y.k | none => none) = some k → EqOK Tryz.prog t k := by
  intro t k h hk
  cases h
theorem tysOKYAwA : AllL (TyOK Tryz.prog) tysYAwA := ⟨tyY_AwA1, tyY_AwA2, tyY_AwA3, tyY_AwA4, tyY_AwA5, tyY_AwA9, tyY_AwA26, tyY_AwA128, tyY_AwA201, tyY_AwA147, tyY_AwA193, tyY_AwA199, tyY_AwA197, tyY_AwA241, trivial⟩
def fnsYAwA : List (Nat × Fn) := [(130, F130)]
theorem fnsOKYAwA : AllL (FnOK Tryz.prog JS) fnsYAwA := ⟨ok130, trivial⟩
def iosYAwA : List (Nat × IoFn) := []
theorem iosOKYAwA : AllL (IoOK Tryz.prog JS) iosYAwA := trivial
def ΓYAwA (draws : List (Nat × Nat)) (cuts svs : List Nat) : Ctx := ⟨alookup tysYAwA, alookup fnsYAwA, [], [], draws, cuts, [], eqsYAwA, [], svs, alookup iosYAwA, alookup [], alookup []⟩
theorem cYAwA (draws : List (Nat × Nat)) (cuts svs : List Nat) : CtxOK Tryz.prog JS (ΓYAwA draws cuts svs) := ⟨tysOKYAwA.get, fnsOKYAwA.get, by kernel_rfl, eqsOKYAwA, iosOKYAwA.get, AllL.get (l := []) trivial, AllL.get (l := []) trivial⟩
def mkRowYAwA (draws : List (Nat × Nat)) (cuts svs : List Nat) (f : Func) : YRow := ⟨ΓYAwA draws cuts svs, f.ntmps, f.results.toList, f.body.getD .skip⟩
/-- smithyard/script.Tokens -/
noncomputable def rowYAwA114 : YRow := mkRowYAwA [(8, 5), (11, 5), (12, 2000008)] [] [12] Tryz.f114
theorem rowYAwA114_ok : YRowOK Tryz.prog JS 114 rowYAwA114 := ⟨cYAwA _ _ _, Tryz.f114, rfl, rfl, by decide, rfl, rfl⟩
/-- (*smithyard/script.lexer).blanks -/
noncomputable def rowYAwA155 : YRow := mkRowYAwA [(0, 9), (1, 8), (5, 8), (7, 9)] [] [] Tryz.f155
theorem rowYAwA155_ok : YRowOK Tryz.prog JS 155 rowYAwA155 := ⟨cYAwA _ _ _, Tryz.f155, rfl, rfl, by decide, rfl, rfl⟩
/-- (*smithyard/script.lexer).one -/
noncomputable def rowYAwA156 : YRow := mkRowYAwA [(2, 8), (20, 8), (22, 1000017)] [] [] Tryz.f156
theorem rowYAwA156_ok : YRowOK Tryz.prog JS 156 rowYAwA156 := ⟨cYAwA _ _ _, Tryz.f156, rfl, rfl, by decide, rfl, rfl⟩
/-- smithyard/script.isSmall -/
noncomputable def rowYAwA97 : YRow := mkRowYAwA [] [] [] Tryz.f97
theorem rowYAwA97_ok : YRowOK Tryz.prog JS 97 rowYAwA97 := ⟨cYAwA _ _ _, Tryz.f97, rfl, rfl, by decide, rfl, rfl⟩
/-- (*smithyard/script.lexer).some -/
noncomputable def rowYAwA191 : YRow := mkRowYAwA [(2, 21), (4, 9)] [] [] Tryz.f191
theorem rowYAwA191_ok : YRowOK Tryz.prog JS 191 rowYAwA191 := ⟨cYAwA _ _ _, Tryz.f191, rfl, rfl, by decide, rfl, rfl⟩
/-- (*smithyard/script.lexer).one$1 -/
noncomputable def rowYAwA192 : YRow := mkRowYAwA [] [] [] Tryz.f192
theorem rowYAwA192_ok : YRowOK Tryz.prog JS 192 rowYAwA192 := ⟨cYAwA _ _ _, Tryz.f192, rfl, rfl, by decide, rfl, rfl⟩
/-- smithyard/script.isDigit -/
noncomputable def rowYAwA98 : YRow := mkRowYAwA [] [] [] Tryz.f98
theorem rowYAwA98_ok : YRowOK Tryz.prog JS 98 rowYAwA98 := ⟨cYAwA _ _ _, Tryz.f98, rfl, rfl, by decide, rfl, rfl⟩
/-- (*smithyard/script.lexer).number -/
noncomputable def rowYAwA193 : YRow := mkRowYAwA [(9, 12)] [] [] Tryz.f193
theorem rowYAwA193_ok : YRowOK Tryz.prog JS 193 rowYAwA193 := ⟨cYAwA _ _ _, Tryz.f193, rfl, rfl, by decide, rfl, rfl⟩
/-- (*smithyard/script.lexer).text -/
noncomputable def rowYAwA194 : YRow := mkRowYAwA [(2, 9), (3, 8), (9, 9), (11, 8), (15, 1000011)] [] [] Tryz.f194
theorem rowYAwA194_ok : YRowOK Tryz.prog JS 194 rowYAwA194 := ⟨cYAwA _ _ _, Tryz.f194, rfl, rfl, by decide, rfl, rfl⟩
/-- strings.HasPrefix -/
noncomputable def rowYAwA195 : YRow := mkRowYAwA [] [] [] Tryz.f195
theorem rowYAwA195_ok : YRowOK Tryz.prog JS 195 rowYAwA195 := ⟨cYAwA _ _ _, Tryz.f195, rfl, rfl, by decide, rfl, rfl⟩
/-- internal/stringslite.HasPrefix -/
noncomputable def rowYAwA127 : YRow := mkRowYAwA [] [] [] Tryz.f127
theorem rowYAwA127_ok : YRowOK Tryz.prog JS 127 rowYAwA127 := ⟨cYAwA _ _ _, Tryz.f127, rfl, rfl, by decide, rfl, rfl⟩
noncomputable def tabYAwA : List (Nat × YRow) := [(114, rowYAwA114), (155, rowYAwA155), (156, rowYAwA156), (97, rowYAwA97), (191, rowYAwA191), (192, rowYAwA192), (98, rowYAwA98), (193, rowYAwA193), (194, rowYAwA194), (195, rowYAwA195), (127, rowYAwA127)]
theorem tabYAwA_ok : ∀ g r, alookup tabYAwA g = some r → YRowOK Tryz.prog JS g r := AllL.get (l := tabYAwA) (Q := YRowOK Tryz.prog JS) ⟨rowYAwA114_ok, rowYAwA155_ok, rowYAwA156_ok, rowYAwA97_ok, rowYAwA191_ok, rowYAwA192_ok, rowYAwA98_ok, rowYAwA193_ok, rowYAwA194_ok, rowYAwA195_ok, rowYAwA127_ok, trivial⟩
end Go.Proofs.YtbliiipcjbmbiaaGreatDoor.Ev
