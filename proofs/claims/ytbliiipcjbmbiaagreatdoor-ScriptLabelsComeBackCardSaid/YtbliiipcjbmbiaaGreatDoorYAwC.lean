/- AwC: functions in place: their contexts and their table (printed by this session's own wip/ev/yp.py) -/
import Derived.Test.YtbliiipcjbmbiaaGreatDoorGc
import Derived.Test.YtbliiipcjbmbiaaGreatDoorProg
import Derived.Test.YtbliiipcjbmbiaaGreatDoorAwX
namespace Go.Proofs.YtbliiipcjbmbiaaGreatDoor.Ev
open Go Go.Proofs Go.RowKit
set_option linter.unusedVariables false
set_option maxRecDepth 100000
theorem tyY_AwC1 : TyOK Tryz.prog 1 ⟨.ofn, [], 0, 0, 0⟩ := ⟨⟨trivial, rfl, ⟨_, rfl, rfl, _, rfl, rfl⟩, ⟨_, rfl, rfl⟩⟩, trivial⟩
theorem tyY_AwC2 : TyOK Tryz.prog 2 ⟨.int .i64, [], 0, 0, 0⟩ := ⟨⟨rfl, rfl, ⟨_, rfl, rfl, _, rfl, rfl⟩, ⟨_, rfl, rfl⟩⟩, rfl⟩
theorem tyY_AwC3 : TyOK Tryz.prog 3 ⟨.int .i64, [], 0, 0, 0⟩ := ⟨⟨rfl, rfl, ⟨_, rfl, rfl, _, rfl, rfl⟩, ⟨_, rfl, rfl⟩⟩, rfl⟩
theorem tyY_AwC4 : TyOK Tryz.prog 4 ⟨.bool, [], 0, 0, 0⟩ := ⟨⟨rfl, rfl, ⟨_, rfl, rfl, _, rfl, rfl⟩, ⟨_, rfl, rfl⟩⟩, rfl⟩
theorem tyY_AwC5 : TyOK Tryz.prog 5 ⟨.int .u8, [], 0, 0, 0⟩ := ⟨⟨rfl, rfl, ⟨_, rfl, rfl, _, rfl, rfl⟩, ⟨_, rfl, rfl⟩⟩, rfl⟩
theorem tyY_AwC6 : TyOK Tryz.prog 6 ⟨.int .u8, [], 0, 0, 0⟩ := ⟨⟨rfl, rfl, ⟨_, rfl, rfl, _, rfl, rfl⟩, ⟨_, rfl, rfl⟩⟩, rfl⟩
theorem tyY_AwC7 : TyOK Tryz.prog 7 ⟨.agg (.pair (.int .i64) (.pair (.int .i64) (.pair (.bool) (.int .u8)))), [(0, 2), (1, 3), (2, 4), (3, 6)], 0, 0, 0⟩ := ⟨⟨trivial, rfl, ⟨_, rfl, rfl, _, rfl, rfl⟩, ⟨_, rfl, rfl⟩⟩, ⟨_, rfl, rfl, fun f off tf h => by
  match f, h with
  | 0, h => cases h; exact ⟨_, rfl, rfl, rfl, _, rfl⟩
  | 1, h => cases h; exact ⟨_, rfl, rfl, rfl, _, rfl⟩
  | 2, h => cases h; exact ⟨_, rfl, rfl, rfl, _, rfl⟩
  | 3, h => cases h; exact ⟨_, rfl, rfl, rfl, _, rfl⟩
  | _ + 4, h => cases h⟩⟩
theorem tyY_AwC8 : TyOK Tryz.prog 8 ⟨.agg (.pair (.int .i64) (.pair (.int .i64) (.pair (.bool) (.int .u8)))), [(0, 2), (1, 3), (2, 4), (3, 6)], 0, 0, 0⟩ := ⟨⟨trivial, rfl, ⟨_, rfl, rfl, _, rfl, rfl⟩, ⟨_, rfl, rfl⟩⟩, ⟨_, rfl, rfl, fun f off tf h => by
  match f, h with
  | 0, h => cases h; exact ⟨_, rfl, rfl, rfl, _, rfl⟩
  | 1, h => cases h; exact ⟨_, rfl, rfl, rfl, _, rfl⟩
  | 2, h => cases h; exact ⟨_, rfl, rfl, rfl, _, rfl⟩
  | 3, h => cases h; exact ⟨_, rfl, rfl, rfl, _, rfl⟩
  | _ + 4, h => cases h⟩⟩
theorem tyY_AwC9 : TyOK Tryz.prog 9 ⟨.str, [], 0, 0, 0⟩ := ⟨⟨rfl, rfl, ⟨_, rfl, rfl, _, rfl, rfl⟩, ⟨_, rfl, rfl⟩⟩, rfl⟩
theorem tyY_AwC22 : TyOK Tryz.prog 22 ⟨.slice (.str), [], 0, 9, 16⟩ := ⟨⟨trivial, rfl, ⟨_, rfl, rfl, _, rfl, rfl⟩, ⟨_, rfl, rfl⟩⟩, ⟨rfl, tyY_AwC9.1, fun i h => by cases h; rfl⟩⟩
theorem tyY_AwC25 : TyOK Tryz.prog 25 ⟨.agg (.pair (.int .i64) (.pair (.str) (.pair (.int .i64) (.pair (.slice (.str)) (.oslice 0))))), [(0, 3), (1, 9), (2, 3), (3, 22), (4, 23)], 0, 0, 0⟩ := ⟨⟨trivial, rfl, ⟨_, rfl, rfl, _, rfl, rfl⟩, ⟨_, rfl, rfl⟩⟩, ⟨_, rfl, rfl, fun f off tf h => by
  match f, h with
  | 0, h => cases h; exact ⟨_, rfl, rfl, rfl, _, rfl⟩
  | 1, h => cases h; exact ⟨_, rfl, rfl, rfl, _, rfl⟩
  | 2, h => cases h; exact ⟨_, rfl, rfl, rfl, _, rfl⟩
  | 3, h => cases h; exact ⟨_, rfl, rfl, rfl, _, rfl⟩
  | 4, h => cases h; exact ⟨_, rfl, rfl, rfl, _, rfl⟩
  | _ + 5, h => cases h⟩⟩
theorem tyY_AwC72 : TyOK Tryz.prog 72 ⟨.agg (.pair (.str) (.agg (.pair (.int .i64) (.pair (.str) (.pair (.int .i64) (.pair (.slice (.str)) (.oslice 0))))))), [(0, 9), (1, 25)], 0, 0, 0⟩ := ⟨⟨trivial, rfl, ⟨_, rfl, rfl, _, rfl, rfl⟩, ⟨_, rfl, rfl⟩⟩, ⟨_, rfl, rfl, fun f off tf h => by
  match f, h with
  | 0, h => cases h; exact ⟨_, rfl, rfl, rfl, _, rfl⟩
  | 1, h => cases h; exact ⟨_, rfl, rfl, rfl, _, rfl⟩
  | _ + 2, h => cases h⟩⟩
theorem tyY_AwC23 : TyOK Tryz.prog 23 ⟨.slice (.agg (.pair (.str) (.agg (.pair (.int .i64) (.pair (.str) (.pair (.int .i64) (.pair (.slice (.str)) (.oslice 0)))))))), [], 0, 72, 96⟩ := ⟨⟨trivial, rfl, ⟨_, rfl, rfl, _, rfl, rfl⟩, ⟨_, rfl, rfl⟩⟩, ⟨rfl, tyY_AwC72.1, fun i h => by cases h; rfl⟩⟩
theorem tyY_AwC26 : TyOK Tryz.prog 26 ⟨.int .i64, [], 0, 0, 0⟩ := ⟨⟨rfl, rfl, ⟨_, rfl, rfl, _, rfl, rfl⟩, ⟨_, rfl, rfl⟩⟩, rfl⟩
theorem tyY_AwC85 : TyOK Tryz.prog 85 ⟨.agg (.pair (.str) (.agg (.pair (.int .i64) (.pair (.str) (.pair (.int .i64) (.pair (.slice (.str)) (.oslice 0))))))), [(0, 9), (1, 25)], 0, 0, 0⟩ := ⟨⟨trivial, rfl, ⟨_, rfl, rfl, _, rfl, rfl⟩, ⟨_, rfl, rfl⟩⟩, ⟨_, rfl, rfl, fun f off tf h => by
  match f, h with
  | 0, h => cases h; exact ⟨_, rfl, rfl, rfl, _, rfl⟩
  | 1, h => cases h; exact ⟨_, rfl, rfl, rfl, _, rfl⟩
  | _ + 2, h => cases h⟩⟩
theorem tyY_AwC39 : TyOK Tryz.prog 39 ⟨.slice (.agg (.pair (.str) (.agg (.pair (.int .i64) (.pair (.str) (.pair (.int .i64) (.pair (.slice (.str)) (.oslice 0)))))))), [], 0, 85, 96⟩ := ⟨⟨trivial, rfl, ⟨_, rfl, rfl, _, rfl, rfl⟩, ⟨_, rfl, rfl⟩⟩, ⟨rfl, tyY_AwC85.1, fun i h => by cases h; rfl⟩⟩
theorem tyY_AwC41 : TyOK Tryz.prog 41 ⟨.agg (.pair (.str) (.pair (.str) (.slice (.agg (.pair (.str) (.agg (.pair (.int .i64) (.pair (.str) (.pair (.int .i64) (.pair (.slice (.str)) (.oslice 0))))))))))), [(0, 9), (1, 9), (2, 39)], 0, 0, 0⟩ := ⟨⟨trivial, rfl, ⟨_, rfl, rfl, _, rfl, rfl⟩, ⟨_, rfl, rfl⟩⟩, ⟨_, rfl, rfl, fun f off tf h => by
  match f, h with
  | 0, h => cases h; exact ⟨_, rfl, rfl, rfl, _, rfl⟩
  | 1, h => cases h; exact ⟨_, rfl, rfl, rfl, _, rfl⟩
  | 2, h => cases h; exact ⟨_, rfl, rfl, rfl, _, rfl⟩
  | _ + 3, h => cases h⟩⟩
theorem tyY_AwC36 : TyOK Tryz.prog 36 ⟨.slice (.agg (.pair (.str) (.pair (.str) (.slice (.agg (.pair (.str) (.agg (.pair (.int .i64) (.pair (.str) (.pair (.int .i64) (.pair (.slice (.str)) (.oslice 0)))))))))))), [], 0, 41, 56⟩ := ⟨⟨trivial, rfl, ⟨_, rfl, rfl, _, rfl, rfl⟩, ⟨_, rfl, rfl⟩⟩, ⟨rfl, tyY_AwC41.1, fun i h => by cases h; rfl⟩⟩
theorem tyY_AwC38 : TyOK Tryz.prog 38 ⟨.agg (.pair (.str) (.slice (.agg (.pair (.str) (.pair (.str) (.slice (.agg (.pair (.str) (.agg (.pair (.int .i64) (.pair (.str) (.pair (.int .i64) (.pair (.slice (.str)) (.oslice 0)))))))))))))), [(0, 9), (1, 36)], 0, 0, 0⟩ := ⟨⟨trivial, rfl, ⟨_, rfl, rfl, _, rfl, rfl⟩, ⟨_, rfl, rfl⟩⟩, ⟨_, rfl, rfl, fun f off tf h => by
  match f, h with
  | 0, h => cases h; exact ⟨_, rfl, rfl, rfl, _, rfl⟩
  | 1, h => cases h; exact ⟨_, rfl, rfl, rfl, _, rfl⟩
  | _ + 2, h => cases h⟩⟩
theorem tyY_AwC145 : TyOK Tryz.prog 145 ⟨.agg (.pair (.str) (.str)), [(0, 9), (1, 9)], 0, 0, 0⟩ := ⟨⟨trivial, rfl, ⟨_, rfl, rfl, _, rfl, rfl⟩, ⟨_, rfl, rfl⟩⟩, ⟨_, rfl, rfl, fun f off tf h => by
  match f, h with
  | 0, h => cases h; exact ⟨_, rfl, rfl, rfl, _, rfl⟩
  | 1, h => cases h; exact ⟨_, rfl, rfl, rfl, _, rfl⟩
  | _ + 2, h => cases h⟩⟩
theorem tyY_AwC66 : TyOK Tryz.prog 66 ⟨.slice (.agg (.pair (.str) (.str))), [], 0, 145, 32⟩ := ⟨⟨trivial, rfl, ⟨_, rfl, rfl, _, rfl, rfl⟩, ⟨_, rfl, rfl⟩⟩, ⟨rfl, tyY_AwC145.1, fun i h => by cases h; rfl⟩⟩
theorem tyY_AwC193 : TyOK Tryz.prog 193 ⟨.slice (.int .u8), [], 0, 5, 1⟩ := ⟨⟨trivial, rfl, ⟨_, rfl, rfl, _, rfl, rfl⟩, ⟨_, rfl, rfl⟩⟩, ⟨rfl, tyY_AwC5.1, fun i h => by cases h; rfl⟩⟩
theorem tyY_AwC195 : TyOK Tryz.prog 195 ⟨.agg (.pair (.str) (.pair (.bool) (.slice (.int .u8)))), [(0, 9), (1, 4), (2, 193)], 0, 0, 0⟩ := ⟨⟨trivial, rfl, ⟨_, rfl, rfl, _, rfl, rfl⟩, ⟨_, rfl, rfl⟩⟩, ⟨_, rfl, rfl, fun f off tf h => by
  match f, h with
  | 0, h => cases h; exact ⟨_, rfl, rfl, rfl, _, rfl⟩
  | 1, h => cases h; exact ⟨_, rfl, rfl, rfl, _, rfl⟩
  | 2, h => cases h; exact ⟨_, rfl, rfl, rfl, _, rfl⟩
  | _ + 3, h => cases h⟩⟩
theorem tyY_AwC67 : TyOK Tryz.prog 67 ⟨.slice (.agg (.pair (.str) (.pair (.bool) (.slice (.int .u8))))), [], 0, 195, 48⟩ := ⟨⟨trivial, rfl, ⟨_, rfl, rfl, _, rfl, rfl⟩, ⟨_, rfl, rfl⟩⟩, ⟨rfl, tyY_AwC195.1, fun i h => by cases h; rfl⟩⟩
theorem tyY_AwC69 : TyOK Tryz.prog 69 ⟨.agg (.pair (.str) (.pair (.str) (.pair (.slice (.agg (.pair (.str) (.str)))) (.slice (.agg (.pair (.str) (.pair (.bool) (.slice (.int .u8))))))))), [(0, 9), (1, 9), (2, 66), (3, 67)], 0, 0, 0⟩ := ⟨⟨trivial, rfl, ⟨_, rfl, rfl, _, rfl, rfl⟩, ⟨_, rfl, rfl⟩⟩, ⟨_, rfl, rfl, fun f off tf h => by
  match f, h with
  | 0, h => cases h; exact ⟨_, rfl, rfl, rfl, _, rfl⟩
  | 1, h => cases h; exact ⟨_, rfl, rfl, rfl, _, rfl⟩
  | 2, h => cases h; exact ⟨_, rfl, rfl, rfl, _, rfl⟩
  | 3, h => cases h; exact ⟨_, rfl, rfl, rfl, _, rfl⟩
  | _ + 4, h => cases h⟩⟩
theorem tyY_AwC76 : TyOK Tryz.prog 76 ⟨.ofn, [], 0, 0, 0⟩ := ⟨⟨trivial, rfl, ⟨_, rfl, rfl, _, rfl, rfl⟩, ⟨_, rfl, rfl⟩⟩, trivial⟩
theorem tyY_AwC99 : TyOK Tryz.prog 99 ⟨.map (.str) (.agg (.pair (.str) (.pair (.str) (.slice (.agg (.pair (.str) (.agg (.pair (.int .i64) (.pair (.str) (.pair (.int .i64) (.pair (.slice (.str)) (.oslice 0)))))))))))), [], 9, 41, 0⟩ := ⟨⟨trivial, rfl, ⟨_, rfl, rfl, _, rfl, rfl⟩, ⟨_, rfl, rfl⟩⟩, ⟨rfl, tyY_AwC41.1, rfl⟩⟩
theorem tyY_AwC160 : TyOK Tryz.prog 160 ⟨.agg (.pair (.int .i64) (.pair (.str) (.pair (.int .i64) (.pair (.slice (.str)) (.oslice 0))))), [(0, 3), (1, 9), (2, 3), (3, 22), (4, 158)], 0, 0, 0⟩ := ⟨⟨trivial, rfl, ⟨_, rfl, rfl, _, rfl, rfl⟩, ⟨_, rfl, rfl⟩⟩, ⟨_, rfl, rfl, fun f off tf h => by
  match f, h with
  | 0, h => cases h; exact ⟨_, rfl, rfl, rfl, _, rfl⟩
  | 1, h => cases h; exact ⟨_, rfl, rfl, rfl, _, rfl⟩
  | 2, h => cases h; exact ⟨_, rfl, rfl, rfl, _, rfl⟩
  | 3, h => cases h; exact ⟨_, rfl, rfl, rfl, _, rfl⟩
  | 4, h => cases h; exact ⟨_, rfl, rfl, rfl, _, rfl⟩
  | _ + 5, h => cases h⟩⟩
theorem tyY_AwC158 : TyOK Tryz.prog 158 ⟨.slice (.agg (.pair (.int .i64) (.pair (.str) (.pair (.int .i64) (.pair (.slice (.str)) (.oslice 0)))))), [], 0, 160, 80⟩ := ⟨⟨trivial, rfl, ⟨_, rfl, rfl, _, rfl, rfl⟩, ⟨_, rfl, rfl⟩⟩, ⟨rfl, tyY_AwC160.1, fun i h => by cases h; rfl⟩⟩
theorem tyY_AwC258 : TyOK Tryz.prog 258 ⟨.agg (.pair (.str) (.agg (.pair (.int .i64) (.pair (.str) (.pair (.int .i64) (.pair (.slice (.str)) (.oslice 0))))))), [(0, 9), (1, 160)], 0, 0, 0⟩ := ⟨⟨trivial, rfl, ⟨_, rfl, rfl, _, rfl, rfl⟩, ⟨_, rfl, rfl⟩⟩, ⟨_, rfl, rfl, fun f off tf h => by
  match f, h with
  | 0, h => cases h; exact ⟨_, rfl, rfl, rfl, _, rfl⟩
  | 1, h => cases h; exact ⟨_, rfl, rfl, rfl, _, rfl⟩
  | _ + 2, h => cases h⟩⟩
theorem tyY_AwC157 : TyOK Tryz.prog 157 ⟨.slice (.agg (.pair (.str) (.agg (.pair (.int .i64) (.pair (.str) (.pair (.int .i64) (.pair (.slice (.str)) (.oslice 0)))))))), [], 0, 258, 96⟩ := ⟨⟨trivial, rfl, ⟨_, rfl, rfl, _, rfl, rfl⟩, ⟨_, rfl, rfl⟩⟩, ⟨rfl, tyY_AwC258.1, fun i h => by cases h; rfl⟩⟩
theorem tyY_AwC162 : TyOK Tryz.prog 162 ⟨.agg (.pair (.int .i64) (.pair (.str) (.pair (.str) (.pair (.slice (.str)) (.pair (.slice (.agg (.pair (.str) (.agg (.pair (.int .i64) (.pair (.str) (.pair (.int .i64) (.pair (.slice (.str)) (.oslice 0))))))))) (.pair (.agg (.pair (.int .i64) (.pair (.str) (.pair (.int .i64) (.pair (.slice (.str)) (.oslice 0)))))) (.pair (.oslice 0) (.pair (.oslice 0) (.int .i64))))))))), [(0, 3), (1, 9), (2, 9), (3, 22), (4, 157), (5, 160), (10, 105), (11, 105), (12, 3)], 0, 0, 0⟩ := ⟨⟨trivial, rfl, ⟨_, rfl, rfl, _, rfl, rfl⟩, ⟨_, rfl, rfl⟩⟩, ⟨_, rfl, rfl, fun f off tf h => by
  match f, h with
  | 0, h => cases h; exact ⟨_, rfl, rfl, rfl, _, rfl⟩
  | 1, h => cases h; exact ⟨_, rfl, rfl, rfl, _, rfl⟩
  | 2, h => cases h; exact ⟨_, rfl, rfl, rfl, _, rfl⟩
  | 3, h => cases h; exact ⟨_, rfl, rfl, rfl, _, rfl⟩
  | 4, h => cases h; exact ⟨_, rfl, rfl, rfl, _, rfl⟩
  | 5, h => cases h; exact ⟨_, rfl, rfl, rfl, _, rfl⟩
  | 6, h => cases h; exact ⟨_, rfl, rfl, rfl, _, rfl⟩
  | 7, h => cases h; exact ⟨_, rfl, rfl, rfl, _, rfl⟩
  | 8, h => cases h; exact ⟨_, rfl, rfl, rfl, _, rfl⟩
  | _ + 9, h => cases h⟩⟩
theorem tyY_AwC105 : TyOK Tryz.prog 105 ⟨.slice (.agg (.pair (.int .i64) (.pair (.str) (.pair (.str) (.pair (.slice (.str)) (.pair (.slice (.agg (.pair (.str) (.agg (.pair (.int .i64) (.pair (.str) (.pair (.int .i64) (.pair (.slice (.str)) (.oslice 0))))))))) (.pair (.agg (.pair (.int .i64) (.pair (.str) (.pair (.int .i64) (.pair (.slice (.str)) (.oslice 0)))))) (.pair (.oslice 0) (.pair (.oslice 0) (.int .i64)))))))))), [], 0, 162, 224⟩ := ⟨⟨trivial, rfl, ⟨_, rfl, rfl, _, rfl, rfl⟩, ⟨_, rfl, rfl⟩⟩, ⟨rfl, tyY_AwC162.1, fun i h => by cases h; rfl⟩⟩
theorem tyY_AwC221 : TyOK Tryz.prog 221 ⟨.agg (.pair (.optr) (.pair (.agg (.pair (.int .i64) (.pair (.str) (.pair (.str) (.pair (.slice (.str)) (.pair (.slice (.agg (.pair (.str) (.agg (.pair (.int .i64) (.pair (.str) (.pair (.int .i64) (.pair (.slice (.str)) (.oslice 0))))))))) (.pair (.agg (.pair (.int .i64) (.pair (.str) (.pair (.int .i64) (.pair (.slice (.str)) (.oslice 0)))))) (.pair (.oslice 0) (.pair (.oslice 0) (.int .i64)))))))))) (.bool))), [(0, 112), (1, 162), (14, 4)], 0, 0, 0⟩ := ⟨⟨trivial, rfl, ⟨_, rfl, rfl, _, rfl, rfl⟩, ⟨_, rfl, rfl⟩⟩, ⟨_, rfl, rfl, fun f off tf h => by
  match f, h with
  | 0, h => cases h; exact ⟨_, rfl, rfl, rfl, _, rfl⟩
  | 1, h => cases h; exact ⟨_, rfl, rfl, rfl, _, rfl⟩
  | 2, h => cases h; exact ⟨_, rfl, rfl, rfl, _, rfl⟩
  | _ + 3, h => cases h⟩⟩
theorem tyY_AwC215 : TyOK Tryz.prog 215 ⟨.optr, [], 0, 221, 0⟩ := ⟨⟨trivial, rfl, ⟨_, rfl, rfl, _, rfl, rfl⟩, ⟨_, rfl, rfl⟩⟩, ⟨rfl, _, rfl, by decide⟩⟩
theorem tyY_AwC217 : TyOK Tryz.prog 217 ⟨.agg (.pair (.agg (.pair (.int .i64) (.pair (.str) (.pair (.int .i64) (.pair (.slice (.str)) (.oslice 0)))))) (.optr)), [(0, 25), (5, 215)], 0, 0, 0⟩ := ⟨⟨trivial, rfl, ⟨_, rfl, rfl, _, rfl, rfl⟩, ⟨_, rfl, rfl⟩⟩, ⟨_, rfl, rfl, fun f off tf h => by
  match f, h with
  | 0, h => cases h; exact ⟨_, rfl, rfl, rfl, _, rfl⟩
  | 1, h => cases h; exact ⟨_, rfl, rfl, rfl, _, rfl⟩
  | _ + 2, h => cases h⟩⟩
theorem tyY_AwC210 : TyOK Tryz.prog 210 ⟨.map (.str) (.agg (.pair (.agg (.pair (.int .i64) (.pair (.str) (.pair (.int .i64) (.pair (.slice (.str)) (.oslice 0)))))) (.optr))), [], 9, 217, 0⟩ := ⟨⟨trivial, rfl, ⟨_, rfl, rfl, _, rfl, rfl⟩, ⟨_, rfl, rfl⟩⟩, ⟨rfl, tyY_AwC217.1, rfl⟩⟩
theorem tyY_AwC212 : TyOK Tryz.prog 212 ⟨.agg (.pair (.optr) (.pair (.map (.str) (.agg (.pair (.agg (.pair (.int .i64) (.pair (.str) (.pair (.int .i64) (.pair (.slice (.str)) (.oslice 0)))))) (.optr)))) (.slice (.str)))), [(0, 115), (1, 210), (2, 22)], 0, 0, 0⟩ := ⟨⟨trivial, rfl, ⟨_, rfl, rfl, _, rfl, rfl⟩, ⟨_, rfl, rfl⟩⟩, ⟨_, rfl, rfl, fun f off tf h => by
  match f, h with
  | 0, h => cases h; exact ⟨_, rfl, rfl, rfl, _, rfl⟩
  | 1, h => cases h; exact ⟨_, rfl, rfl, rfl, _, rfl⟩
  | 2, h => cases h; exact ⟨_, rfl, rfl, rfl, _, rfl⟩
  | _ + 3, h => cases h⟩⟩
theorem tyY_AwC115 : TyOK Tryz.prog 115 ⟨.optr, [], 0, 212, 0⟩ := ⟨⟨trivial, rfl, ⟨_, rfl, rfl, _, rfl, rfl⟩, ⟨_, rfl, rfl⟩⟩, ⟨rfl, _, rfl, by decide⟩⟩
theorem tyY_AwC116 : TyOK Tryz.prog 116 ⟨.map (.str) (.bool), [], 9, 4, 0⟩ := ⟨⟨trivial, rfl, ⟨_, rfl, rfl, _, rfl, rfl⟩, ⟨_, rfl, rfl⟩⟩, ⟨rfl, tyY_AwC4.1, rfl⟩⟩
theorem tyY_AwC118 : TyOK Tryz.prog 118 ⟨.agg (.pair (.optr) (.pair (.map (.str) (.bool)) (.pair (.bool) (.bool)))), [(0, 115), (1, 116), (2, 4), (3, 4)], 0, 0, 0⟩ := ⟨⟨trivial, rfl, ⟨_, rfl, rfl, _, rfl, rfl⟩, ⟨_, rfl, rfl⟩⟩, ⟨_, rfl, rfl, fun f off tf h => by
  match f, h with
  | 0, h => cases h; exact ⟨_, rfl, rfl, rfl, _, rfl⟩
  | 1, h => cases h; exact ⟨_, rfl, rfl, rfl, _, rfl⟩
  | 2, h => cases h; exact ⟨_, rfl, rfl, rfl, _, rfl⟩
  | 3, h => cases h; exact ⟨_, rfl, rfl, rfl, _, rfl⟩
  | _ + 4, h => cases h⟩⟩
theorem tyY_AwC112 : TyOK Tryz.prog 112 ⟨.optr, [], 0, 118, 0⟩ := ⟨⟨trivial, rfl, ⟨_, rfl, rfl, _, rfl, rfl⟩, ⟨_, rfl, rfl⟩⟩, ⟨rfl, _, rfl, by decide⟩⟩
theorem tyY_AwC109 : TyOK Tryz.prog 109 ⟨.map (.str) (.optr), [], 9, 112, 0⟩ := ⟨⟨trivial, rfl, ⟨_, rfl, rfl, _, rfl, rfl⟩, ⟨_, rfl, rfl⟩⟩, ⟨rfl, tyY_AwC112.1, rfl⟩⟩
theorem tyY_AwC111 : TyOK Tryz.prog 111 ⟨.agg (.pair (.agg (.pair (.str) (.pair (.str) (.pair (.slice (.agg (.pair (.str) (.str)))) (.slice (.agg (.pair (.str) (.pair (.bool) (.slice (.int .u8)))))))))) (.pair (.int .i64) (.pair (.int .i64) (.pair (.int .i64) (.pair (.map (.str) (.optr)) (.map (.str) (.agg (.pair (.str) (.pair (.str) (.slice (.agg (.pair (.str) (.agg (.pair (.int .i64) (.pair (.str) (.pair (.int .i64) (.pair (.slice (.str)) (.oslice 0)))))))))))))))))), [(0, 69), (4, 3), (5, 3), (6, 3), (7, 109), (8, 99)], 0, 0, 0⟩ := ⟨⟨trivial, rfl, ⟨_, rfl, rfl, _, rfl, rfl⟩, ⟨_, rfl, rfl⟩⟩, ⟨_, rfl, rfl, fun f off tf h => by
  match f, h with
  | 0, h => cases h; exact ⟨_, rfl, rfl, rfl, _, rfl⟩
  | 1, h => cases h; exact ⟨_, rfl, rfl, rfl, _, rfl⟩
  | 2, h => cases h; exact ⟨_, rfl, rfl, rfl, _, rfl⟩
  | 3, h => cases h; exact ⟨_, rfl, rfl, rfl, _, rfl⟩
  | 4, h => cases h; exact ⟨_, rfl, rfl, rfl, _, rfl⟩
  | 5, h => cases h; exact ⟨_, rfl, rfl, rfl, _, rfl⟩
  | _ + 6, h => cases h⟩⟩
theorem tyY_AwC108 : TyOK Tryz.prog 108 ⟨.optr, [], 0, 111, 0⟩ := ⟨⟨trivial, rfl, ⟨_, rfl, rfl, _, rfl, rfl⟩, ⟨_, rfl, rfl⟩⟩, ⟨rfl, _, rfl, by decide⟩⟩
theorem tyY_AwC120 : TyOK Tryz.prog 120 ⟨.ofn, [], 0, 0, 0⟩ := ⟨⟨trivial, rfl, ⟨_, rfl, rfl, _, rfl, rfl⟩, ⟨_, rfl, rfl⟩⟩, trivial⟩
theorem tyY_AwC125 : TyOK Tryz.prog 125 ⟨.ofn, [], 0, 0, 0⟩ := ⟨⟨trivial, rfl, ⟨_, rfl, rfl, _, rfl, rfl⟩, ⟨_, rfl, rfl⟩⟩, trivial⟩
theorem tyY_AwC140 : TyOK Tryz.prog 140 ⟨.int .u64, [], 0, 0, 0⟩ := ⟨⟨rfl, rfl, ⟨_, rfl, rfl, _, rfl, rfl⟩, ⟨_, rfl, rfl⟩⟩, rfl⟩
theorem tyY_AwC201 : TyOK Tryz.prog 201 ⟨.agg (.pair (.int .i64) (.pair (.str) (.pair (.int .i64) (.int .i64)))), [(0, 3), (1, 9), (2, 3), (3, 3)], 0, 0, 0⟩ := ⟨⟨trivial, rfl, ⟨_, rfl, rfl, _, rfl, rfl⟩, ⟨_, rfl, rfl⟩⟩, ⟨_, rfl, rfl, fun f off tf h => by
  match f, h with
  | 0, h => cases h; exact ⟨_, rfl, rfl, rfl, _, rfl⟩
  | 1, h => cases h; exact ⟨_, rfl, rfl, rfl, _, rfl⟩
  | 2, h => cases h; exact ⟨_, rfl, rfl, rfl, _, rfl⟩
  | 3, h => cases h; exact ⟨_, rfl, rfl, rfl, _, rfl⟩
  | _ + 4, h => cases h⟩⟩
theorem tyY_AwC147 : TyOK Tryz.prog 147 ⟨.slice (.agg (.pair (.int .i64) (.pair (.str) (.pair (.int .i64) (.int .i64))))), [], 0, 201, 40⟩ := ⟨⟨trivial, rfl, ⟨_, rfl, rfl, _, rfl, rfl⟩, ⟨_, rfl, rfl⟩⟩, ⟨rfl, tyY_AwC201.1, fun i h => by cases h; rfl⟩⟩
theorem tyY_AwC152 : TyOK Tryz.prog 152 ⟨.agg (.pair (.slice (.agg (.pair (.int .i64) (.pair (.str) (.pair (.int .i64) (.int .i64)))))) (.pair (.int .i64) (.int .i64))), [(0, 147), (1, 3), (2, 3)], 0, 0, 0⟩ := ⟨⟨trivial, rfl, ⟨_, rfl, rfl, _, rfl, rfl⟩, ⟨_, rfl, rfl⟩⟩, ⟨_, rfl, rfl, fun f off tf h => by
  match f, h with
  | 0, h => cases h; exact ⟨_, rfl, rfl, rfl, _, rfl⟩
  | 1, h => cases h; exact ⟨_, rfl, rfl, rfl, _, rfl⟩
  | 2, h => cases h; exact ⟨_, rfl, rfl, rfl, _, rfl⟩
  | _ + 3, h => cases h⟩⟩
theorem tyY_AwC150 : TyOK Tryz.prog 150 ⟨.optr, [], 0, 152, 0⟩ := ⟨⟨trivial, rfl, ⟨_, rfl, rfl, _, rfl, rfl⟩, ⟨_, rfl, rfl⟩⟩, ⟨rfl, _, rfl, by decide⟩⟩
theorem tyY_AwC174 : TyOK Tryz.prog 174 ⟨.int .i64, [], 0, 0, 0⟩ := ⟨⟨rfl, rfl, ⟨_, rfl, rfl, _, rfl, rfl⟩, ⟨_, rfl, rfl⟩⟩, rfl⟩
theorem tyY_AwC182 : TyOK Tryz.prog 182 ⟨.int .u32, [], 0, 0, 0⟩ := ⟨⟨rfl, rfl, ⟨_, rfl, rfl, _, rfl, rfl⟩, ⟨_, rfl, rfl⟩⟩, rfl⟩
theorem tyY_AwC184 : TyOK Tryz.prog 184 ⟨.int .u64, [], 0, 0, 0⟩ := ⟨⟨rfl, rfl, ⟨_, rfl, rfl, _, rfl, rfl⟩, ⟨_, rfl, rfl⟩⟩, rfl⟩
theorem tyY_AwC252 : TyOK Tryz.prog 252 ⟨.optr, [], 0, 162, 0⟩ := ⟨⟨trivial, rfl, ⟨_, rfl, rfl, _, rfl, rfl⟩, ⟨_, rfl, rfl⟩⟩, ⟨rfl, _, rfl, by decide⟩⟩
theorem tyY_AwC262 : TyOK Tryz.prog 262 ⟨.map (.str) (.agg (.pair (.int .i64) (.pair (.str) (.pair (.int .i64) (.pair (.slice (.str)) (.oslice 0)))))), [], 9, 25, 0⟩ := ⟨⟨trivial, rfl, ⟨_, rfl, rfl, _, rfl, rfl⟩, ⟨_, rfl, rfl⟩⟩, ⟨rfl, tyY_AwC25.1, rfl⟩⟩
theorem tyY_AwC282 : TyOK Tryz.prog 282 ⟨.agg (.pair (.agg (.pair (.int .i64) (.pair (.str) (.pair (.int .i64) (.pair (.slice (.str)) (.oslice 0)))))) (.pair (.int .i64) (.oslice 0))), [(0, 160), (5, 3), (6, 280)], 0, 0, 0⟩ := ⟨⟨trivial, rfl, ⟨_, rfl, rfl, _, rfl, rfl⟩, ⟨_, rfl, rfl⟩⟩, ⟨_, rfl, rfl, fun f off tf h => by
  match f, h with
  | 0, h => cases h; exact ⟨_, rfl, rfl, rfl, _, rfl⟩
  | 1, h => cases h; exact ⟨_, rfl, rfl, rfl, _, rfl⟩
  | 2, h => cases h; exact ⟨_, rfl, rfl, rfl, _, rfl⟩
  | _ + 3, h => cases h⟩⟩
theorem tyY_AwC280 : TyOK Tryz.prog 280 ⟨.slice (.agg (.pair (.agg (.pair (.int .i64) (.pair (.str) (.pair (.int .i64) (.pair (.slice (.str)) (.oslice 0)))))) (.pair (.int .i64) (.oslice 0)))), [], 0, 282, 112⟩ := ⟨⟨trivial, rfl, ⟨_, rfl, rfl, _, rfl, rfl⟩, ⟨_, rfl, rfl⟩⟩, ⟨rfl, tyY_AwC282.1, fun i h => by cases h; rfl⟩⟩
theorem tyY_AwC288 : TyOK Tryz.prog 288 ⟨.slice (.agg (.pair (.int .i64) (.pair (.str) (.pair (.int .i64) (.pair (.slice (.str)) (.oslice 0)))))), [], 0, 25, 80⟩ := ⟨⟨trivial, rfl, ⟨_, rfl, rfl, _, rfl, rfl⟩, ⟨_, rfl, rfl⟩⟩, ⟨rfl, tyY_AwC25.1, fun i h => by cases h; rfl⟩⟩
theorem tyY_AwC293 : TyOK Tryz.prog 293 ⟨.ofn, [], 0, 0, 0⟩ := ⟨⟨trivial, rfl, ⟨_, rfl, rfl, _, rfl, rfl⟩, ⟨_, rfl, rfl⟩⟩, trivial⟩
def tysYAwC : List (Nat × Ty) := [(1, ⟨.ofn, [], 0, 0, 0⟩), (2, ⟨.int .i64, [], 0, 0, 0⟩), (3, ⟨.int .i64, [], 0, 0, 0⟩), (4, ⟨.bool, [], 0, 0, 0⟩), (5, ⟨.int .u8, [], 0, 0, 0⟩), (6, ⟨.int .u8, [], 0, 0, 0⟩), (7, ⟨.agg (.pair (.int .i64) (.pair (.int .i64) (.pair (.bool) (.int .u8)))), [(0, 2), (1, 3), (2, 4), (3, 6)], 0, 0, 0⟩), (8, ⟨.agg (.pair (.int .i64) (.pair (.int .i64) (.pair (.bool) (.int .u8)))), [(0, 2), (1, 3), (2, 4), (3, 6)], 0, 0, 0⟩), (9, ⟨.str, [], 0, 0, 0⟩), (22, ⟨.slice (.str), [], 0, 9, 16⟩), (25, ⟨.agg (.pair (.int .i64) (.pair (.str) (.pair (.int .i64) (.pair (.slice (.str)) (.oslice 0))))), [(0, 3), (1, 9), (2, 3), (3, 22), (4, 23)], 0, 0, 0⟩), (72, ⟨.agg (.pair (.str) (.agg (.pair (.int .i64) (.pair (.str) (.pair (.int .i64) (.pair (.slice (.str)) (.oslice 0))))))), [(0, 9), (1, 25)], 0, 0, 0⟩), (23, ⟨.slice (.agg (.pair (.str) (.agg (.pair (.int .i64) (.pair (.str) (.pair (.int .i64) (.pair (.slice (.str)) (.oslice 0)))))))), [], 0, 72, 96⟩), (26, ⟨.int .i64, [], 0, 0, 0⟩), (85, ⟨.agg (.pair (.str) (.agg (.pair (.int .i64) (.pair (.str) (.pair (.int .i64) (.pair (.slice (.str)) (.oslice 0))))))), [(0, 9), (1, 25)], 0, 0, 0⟩), (39, ⟨.slice (.agg (.pair (.str) (.agg (.pair (.int .i64) (.pair (.str) (.pair (.int .i64) (.pair (.slice (.str)) (.oslice 0)))))))), [], 0, 85, 96⟩), (41, ⟨.agg (.pair (.str) (.pair (.str) (.slice (.agg (.pair (.str) (.agg (.pair (.int .i64) (.pair (.str) (.pair (.int .i64) (.pair (.slice (.str)) (.oslice 0))))))))))), [(0, 9), (1, 9), (2, 39)], 0, 0, 0⟩), (36, ⟨.slice (.agg (.pair (.str) (.pair (.str) (.slice (.agg (.pair (.str) (.agg (.pair (.int .i64) (.pair (.str) (.pair (.int .i64) (.pair (.slice (.str)) (.oslice 0)))))))))))), [], 0, 41, 56⟩), (38, ⟨.agg (.pair (.str) (.slice (.agg (.pair (.str) (.pair (.str) (.slice (.agg (.pair (.str) (.agg (.pair (.int .i64) (.pair (.str) (.pair (.int .i64) (.pair (.slice (.str)) (.oslice 0)))))))))))))), [(0, 9), (1, 36)], 0, 0, 0⟩), (145, ⟨.agg (.pair (.str) (.str)), [(0, 9), (1, 9)], 0, 0, 0⟩), (66, ⟨.slice (.agg (.pair (.str) (.str))), [], 0, 145, 32⟩), (193, ⟨.slice (.int .u8), [], 0, 5, 1⟩), (195, ⟨.agg (.pair (.str) (.pair (.bool) (.slice (.int .u8)))), [(0, 9), (1, 4), (2, 193)], 0, 0, 0⟩), (67, ⟨.slice (.agg (.pair (.str) (.pair (.bool) (.slice (.int .u8))))), [], 0, 195, 48⟩), (69, ⟨.agg (.pair (.str) (.pair (.str) (.pair (.slice (.agg (.pair (.str) (.str)))) (.slice (.agg (.pair (.str) (.pair (.bool) (.slice (.int .u8))))))))), [(0, 9), (1, 9), (2, 66), (3, 67)], 0, 0, 0⟩), (76, ⟨.ofn, [], 0, 0, 0⟩), (99, ⟨.map (.str) (.agg (.pair (.str) (.pair (.str) (.slice (.agg (.pair (.str) (.agg (.pair (.int .i64) (.pair (.str) (.pair (.int .i64) (.pair (.slice (.str)) (.oslice 0)))))))))))), [], 9, 41, 0⟩), (160, ⟨.agg (.pair (.int .i64) (.pair (.str) (.pair (.int .i64) (.pair (.slice (.str)) (.oslice 0))))), [(0, 3), (1, 9), (2, 3), (3, 22), (4, 158)], 0, 0, 0⟩), (158, ⟨.slice (.agg (.pair (.int .i64) (.pair (.str) (.pair (.int .i64) (.pair (.slice (.str)) (.oslice 0)))))), [], 0, 160, 80⟩), (258, ⟨.agg (.pair (.str) (.agg (.pair (.int .i64) (.pair (.str) (.pair (.int .i64) (.pair (.slice (.str)) (.oslice 0))))))), [(0, 9), (1, 160)], 0, 0, 0⟩), (157, ⟨.slice (.agg (.pair (.str) (.agg (.pair (.int .i64) (.pair (.str) (.pair (.int .i64) (.pair (.slice (.str)) (.oslice 0)))))))), [], 0, 258, 96⟩), (162, ⟨.agg (.pair (.int .i64) (.pair (.str) (.pair (.str) (.pair (.slice (.str)) (.pair (.slice (.agg (.pair (.str) (.agg (.pair (.int .i64) (.pair (.str) (.pair (.int .i64) (.pair (.slice (.str)) (.oslice 0))))))))) (.pair (.agg (.pair (.int .i64) (.pair (.str) (.pair (.int .i64) (.pair (.slice (.str)) (.oslice 0)))))) (.pair (.oslice 0) (.pair (.oslice 0) (.int .i64))))))))), [(0, 3), (1, 9), (2, 9), (3, 22), (4, 157), (5, 160), (10, 105), (11, 105), (12, 3)], 0, 0, 0⟩), (105, ⟨.slice (.agg (.pair (.int .i64) (.pair (.str) (.pair (.str) (.pair (.slice (.str)) (.pair (.slice (.agg (.pair (.str) (.agg (.pair (.int .i64) (.pair (.str) (.pair (.int .i64) (.pair (.slice (.str)) (.oslice 0))))))))) (.pair (.agg (.pair (.int .i64) (.pair (.str) (.pair (.int .i64) (.pair (.slice (.str)) (.oslice 0)))))) (.pair (.oslice 0) (.pair (.oslice 0) (.int .i64)))))))))), [], 0, 162, 224⟩), (221, ⟨.agg (.pair (.optr) (.pair (.agg (.pair (.int .i64) (.pair (.str) (.pair (.str) (.pair (.slice (.str)) (.pair (.slice (.agg (.pair (.str) (.agg (.pair (.int .i64) (.pair (.str) (.pair (.int .i64) (.pair (.slice (.str)) (.oslice 0))))))))) (.pair (.agg (.pair (.int .i64) (.pair (.str) (.pair (.int .i64) (.pair (.slice (.str)) (.oslice 0)))))) (.pair (.oslice 0) (.pair (.oslice 0) (.int .i64)))))))))) (.bool))), [(0, 112), (1, 162), (14, 4)], 0, 0, 0⟩), (215, ⟨.optr, [], 0, 221, 0⟩), (217, ⟨.agg (.pair (.agg (.pair (.int .i64) (.pair (.str) (.pair (.int .i64) (.pair (.slice (.str)) (.oslice 0)))))) (.optr)), [(0, 25), (5, 215)], 0, 0, 0⟩), (210, ⟨.map (.str) (.agg (.pair (.agg (.pair (.int .i64) (.pair (.str) (.pair (.int .i64) (.pair (.slice (.str)) (.oslice 0)))))) (.optr))), [], 9, 217, 0⟩), (212, ⟨.agg (.pair (.optr) (.pair (.map (.str) (.agg (.pair (.agg (.pair (.int .i64) (.pair (.str) (.pair (.int .i64) (.pair (.slice (.str)) (.oslice 0)))))) (.optr)))) (.slice (.str)))), [(0, 115), (1, 210), (2, 22)], 0, 0, 0⟩), (115, ⟨.optr, [], 0, 212, 0⟩), (116, ⟨.map (.str) (.bool), [], 9, 4, 0⟩), (118, ⟨.agg (.pair (.optr) (.pair (.map (.str) (.bool)) (.pair (.bool) (.bool)))), [(0, 115), (1, 116), (2, 4), (3, 4)], 0, 0, 0⟩), (112, ⟨.optr, [], 0, 118, 0⟩), (109, ⟨.map (.str) (.optr), [], 9, 112, 0⟩), (111, ⟨.agg (.pair (.agg (.pair (.str) (.pair (.str) (.pair (.slice (.agg (.pair (.str) (.str)))) (.slice (.agg (.pair (.str) (.pair (.bool) (.slice (.int .u8)))))))))) (.pair (.int .i64) (.pair (.int .i64) (.pair (.int .i64) (.pair (.map (.str) (.optr)) (.map (.str) (.agg (.pair (.str) (.pair (.str) (.slice (.agg (.pair (.str) (.agg (.pair (.int .i64) (.pair (.str) (.pair (.int .i64) (.pair (.slice (.str)) (.oslice 0)))))))))))))))))), [(0, 69), (4, 3), (5, 3), (6, 3), (7, 109), (8, 99)], 0, 0, 0⟩), (108, ⟨.optr, [], 0, 111, 0⟩), (120, ⟨.ofn, [], 0, 0, 0⟩), (125, ⟨.ofn, [], 0, 0, 0⟩), (140, ⟨.int .u64, [], 0, 0, 0⟩), (201, ⟨.agg (.pair (.int .i64) (.pair (.str) (.pair (.int .i64) (.int .i64)))), [(0, 3), (1, 9), (2, 3), (3, 3)], 0, 0, 0⟩), (147, ⟨.slice (.agg (.pair (.int .i64) (.pair (.str) (.pair (.int .i64) (.int .i64))))), [], 0, 201, 40⟩), (152, ⟨.agg (.pair (.slice (.agg (.pair (.int .i64) (.pair (.str) (.pair (.int .i64) (.int .i64)))))) (.pair (.int .i64) (.int .i64))), [(0, 147), (1, 3), (2, 3)], 0, 0, 0⟩), (150, ⟨.optr, [], 0, 152, 0⟩), (174, ⟨.int .i64, [], 0, 0, 0⟩), (182, ⟨.int .u32, [], 0, 0, 0⟩), (184, ⟨.int .u64, [], 0, 0, 0⟩), (252, ⟨.optr, [], 0, 162, 0⟩), (262, ⟨.map (.str) (.agg (.pair (.int .i64) (.pair (.str) (.pair (.int .i64) (.pair (.slice (.str)) (.oslice 0)))))), [], 9, 25, 0⟩), (282, ⟨.agg (.pair (.agg (.pair (.int .i64) (.pair (.str) (.pair (.int .i64) (.pair (.slice (.str)) (.oslice 0)))))) (.pair (.int .i64) (.oslice 0))), [(0, 160), (5, 3), (6, 280)], 0, 0, 0⟩), (280, ⟨.slice (.agg (.pair (.agg (.pair (.int .i64) (.pair (.str) (.pair (.int .i64) (.pair (.slice (.str)) (.oslice 0)))))) (.pair (.int .i64) (.oslice 0)))), [], 0, 282, 112⟩), (288, ⟨.slice (.agg (.pair (.int .i64) (.pair (.str) (.pair (.int .i64) (.pair (.slice (.str)) (.oslice 0)))))), [], 0, 25, 80⟩), (293, ⟨.ofn, [], 0, 0, 0⟩)]
def eqsYAwC : List Nat := []
theorem eqsOKYAwC : ∀ t k, eqsYAwC.any (Nat.beq t) = true → (match alookup tysYAwC t with | some y => some y.k | none => none) = some k → EqOK Tryz.prog t k := by
  intro t k h hk
  cases h
theorem tysOKYAwC : AllL (TyOK Tryz.prog) tysYAwC := ⟨tyY_AwC1, tyY_AwC2, tyY_AwC3, tyY_AwC4, tyY_AwC5, tyY_AwC6, tyY_AwC7, tyY_AwC8, tyY_AwC9, tyY_AwC22, tyY_AwC25, tyY_AwC72, tyY_AwC23, tyY_AwC26, tyY_AwC85, tyY_AwC39, tyY_AwC41, tyY_AwC36, tyY_AwC38, tyY_AwC145, tyY_AwC66, tyY_AwC193, tyY_AwC195, tyY_AwC67, tyY_AwC69, tyY_AwC76, tyY_AwC99, tyY_AwC160, tyY_AwC158, tyY_AwC258, tyY_AwC157, tyY_AwC162, tyY_AwC105, tyY_AwC221, tyY_AwC215, tyY_AwC217, tyY_AwC210, tyY_AwC212, tyY_AwC115, tyY_AwC116, tyY_AwC118, tyY_AwC112, tyY_AwC109, tyY_AwC111, tyY_AwC108, tyY_AwC120, tyY_AwC125, tyY_AwC140, tyY_AwC201, tyY_AwC147, tyY_AwC152, tyY_AwC150, tyY_AwC174, tyY_AwC182, tyY_AwC184, tyY_AwC252, tyY_AwC262, tyY_AwC282, tyY_AwC280, tyY_AwC288, tyY_AwC293, trivial⟩
def fnsYAwC : List (Nat × Fn) := [(56, F56), (75, F75), (94, F94), (114, F114), (116, F116), (130, F130)]
theorem fnsOKYAwC : AllL (FnOK Tryz.prog JS) fnsYAwC := ⟨ok56, ok75, ok94, ok114, ok116, ok130, trivial⟩
def iosYAwC : List (Nat × IoFn) := []
theorem iosOKYAwC : AllL (IoOK Tryz.prog JS) iosYAwC := trivial
def ΓYAwC (draws : List (Nat × Nat)) (cuts svs : List Nat) : Ctx := ⟨alookup tysYAwC, alookup fnsYAwC, [], [], draws, cuts, [], eqsYAwC, [], svs, alookup iosYAwC, alookup [], alookup []⟩
theorem cYAwC (draws : List (Nat × Nat)) (cuts svs : List Nat) : CtxOK Tryz.prog JS (ΓYAwC draws cuts svs) := ⟨tysOKYAwC.get, fnsOKYAwC.get, by kernel_rfl, eqsOKYAwC, iosOKYAwC.get, AllL.get (l := []) trivial, AllL.get (l := []) trivial⟩
def mkRowYAwC (draws : List (Nat × Nat)) (cuts svs : List Nat) (f : Func) : YRow := ⟨ΓYAwC draws cuts svs, f.ntmps, f.results.toList, f.body.getD .skip⟩
/-- smithyard/smithyardlaw2.awake -/
noncomputable def rowYAwC10 : YRow := mkRowYAwC [] [] [] Tryz.f10
theorem rowYAwC10_ok : YRowOK Tryz.prog JS 10 rowYAwC10 := ⟨cYAwC _ _ _, Tryz.f10, rfl, rfl, by decide, rfl, rfl⟩
/-- smithyard/script.Eval -/
noncomputable def rowYAwC37 : YRow := mkRowYAwC [(11, 1000008)] [] [19, 30, 36, 49, 57] Tryz.f37
theorem rowYAwC37_ok : YRowOK Tryz.prog JS 37 rowYAwC37 := ⟨cYAwC _ _ _, Tryz.f37, rfl, rfl, by decide, rfl, rfl⟩
/-- smithyard/script.checkSource -/
noncomputable def rowYAwC78 : YRow := mkRowYAwC [(10, 12)] [] [] Tryz.f78
theorem rowYAwC78_ok : YRowOK Tryz.prog JS 78 rowYAwC78 := ⟨cYAwC _ _ _, Tryz.f78, rfl, rfl, by decide, rfl, rfl⟩
/-- smithyard/blob.IsPath -/
noncomputable def rowYAwC59 : YRow := mkRowYAwC [] [] [] Tryz.f59
theorem rowYAwC59_ok : YRowOK Tryz.prog JS 59 rowYAwC59 := ⟨cYAwC _ _ _, Tryz.f59, rfl, rfl, by decide, rfl, rfl⟩
/-- smithyard/blob.isPart -/
noncomputable def rowYAwC101 : YRow := mkRowYAwC [] [] [] Tryz.f101
theorem rowYAwC101_ok : YRowOK Tryz.prog JS 101 rowYAwC101 := ⟨cYAwC _ _ _, Tryz.f101, rfl, rfl, by decide, rfl, rfl⟩
/-- smithyard/blob.inPart -/
noncomputable def rowYAwC126 : YRow := mkRowYAwC [] [] [] Tryz.f126
theorem rowYAwC126_ok : YRowOK Tryz.prog JS 126 rowYAwC126 := ⟨cYAwC _ _ _, Tryz.f126, rfl, rfl, by decide, rfl, rfl⟩
/-- smithyard/blob.CheckFiles -/
noncomputable def rowYAwC113 : YRow := mkRowYAwC [(12, 11)] [] [] Tryz.f113
theorem rowYAwC113_ok : YRowOK Tryz.prog JS 113 rowYAwC113 := ⟨cYAwC _ _ _, Tryz.f113, rfl, rfl, by decide, rfl, rfl⟩
/-- smithyard/blob.clashes -/
noncomputable def rowYAwC154 : YRow := mkRowYAwC [] [] [] Tryz.f154
theorem rowYAwC154_ok : YRowOK Tryz.prog JS 154 rowYAwC154 := ⟨cYAwC _ _ _, Tryz.f154, rfl, rfl, by decide, rfl, rfl⟩
/-- smithyard/script.Parse -/
noncomputable def rowYAwC79 : YRow := mkRowYAwC [(9, 5)] [] [25] Tryz.f79
theorem rowYAwC79_ok : YRowOK Tryz.prog JS 79 rowYAwC79 := ⟨cYAwC _ _ _, Tryz.f79, rfl, rfl, by decide, rfl, rfl⟩
/-- (*smithyard/script.parser).statement -/
noncomputable def rowYAwC158 : YRow := mkRowYAwC [] [] [8] Tryz.f158
theorem rowYAwC158_ok : YRowOK Tryz.prog JS 158 rowYAwC158 := ⟨cYAwC _ _ _, Tryz.f158, rfl, rfl, by decide, rfl, rfl⟩
/-- (*smithyard/script.parser).at -/
noncomputable def rowYAwC196 : YRow := mkRowYAwC [] [] [] Tryz.f196
theorem rowYAwC196_ok : YRowOK Tryz.prog JS 196 rowYAwC196 := ⟨cYAwC _ _ _, Tryz.f196, rfl, rfl, by decide, rfl, rfl⟩
/-- (*smithyard/script.parser).look -/
noncomputable def rowYAwC197 : YRow := mkRowYAwC [] [] [] Tryz.f197
theorem rowYAwC197_ok : YRowOK Tryz.prog JS 197 rowYAwC197 := ⟨cYAwC _ _ _, Tryz.f197, rfl, rfl, by decide, rfl, rfl⟩
/-- (*smithyard/script.parser).take -/
noncomputable def rowYAwC198 : YRow := mkRowYAwC [] [] [] Tryz.f198
theorem rowYAwC198_ok : YRowOK Tryz.prog JS 198 rowYAwC198 := ⟨cYAwC _ _ _, Tryz.f198, rfl, rfl, by decide, rfl, rfl⟩
/-- (*smithyard/script.parser).is -/
noncomputable def rowYAwC231 : YRow := mkRowYAwC [] [] [] Tryz.f231
theorem rowYAwC231_ok : YRowOK Tryz.prog JS 231 rowYAwC231 := ⟨cYAwC _ _ _, Tryz.f231, rfl, rfl, by decide, rfl, rfl⟩
/-- (*smithyard/script.parser).name -/
noncomputable def rowYAwC199 : YRow := mkRowYAwC [] [] [] Tryz.f199
theorem rowYAwC199_ok : YRowOK Tryz.prog JS 199 rowYAwC199 := ⟨cYAwC _ _ _, Tryz.f199, rfl, rfl, by decide, rfl, rfl⟩
/-- smithyard/script.IsName -/
noncomputable def rowYAwC57 : YRow := mkRowYAwC [] [] [] Tryz.f57
theorem rowYAwC57_ok : YRowOK Tryz.prog JS 57 rowYAwC57 := ⟨cYAwC _ _ _, Tryz.f57, rfl, rfl, by decide, rfl, rfl⟩
/-- smithyard/script.isSmall -/
noncomputable def rowYAwC97 : YRow := mkRowYAwC [] [] [] Tryz.f97
theorem rowYAwC97_ok : YRowOK Tryz.prog JS 97 rowYAwC97 := ⟨cYAwC _ _ _, Tryz.f97, rfl, rfl, by decide, rfl, rfl⟩
/-- smithyard/script.isDigit -/
noncomputable def rowYAwC98 : YRow := mkRowYAwC [] [] [] Tryz.f98
theorem rowYAwC98_ok : YRowOK Tryz.prog JS 98 rowYAwC98 := ⟨cYAwC _ _ _, Tryz.f98, rfl, rfl, by decide, rfl, rfl⟩
/-- smithyard/script.words -/
noncomputable def rowYAwC99 : YRow := mkRowYAwC [] [] [] Tryz.f99
theorem rowYAwC99_ok : YRowOK Tryz.prog JS 99 rowYAwC99 := ⟨cYAwC _ _ _, Tryz.f99, rfl, rfl, by decide, rfl, rfl⟩
/-- slices.Contains[[]string,string] -/
noncomputable def rowYAwC93 : YRow := mkRowYAwC [] [] [] Tryz.f93
theorem rowYAwC93_ok : YRowOK Tryz.prog JS 93 rowYAwC93 := ⟨cYAwC _ _ _, Tryz.f93, rfl, rfl, by decide, rfl, rfl⟩
/-- slices.Index[[]string,string] -/
noncomputable def rowYAwC123 : YRow := mkRowYAwC [] [] [] Tryz.f123
theorem rowYAwC123_ok : YRowOK Tryz.prog JS 123 rowYAwC123 := ⟨cYAwC _ _ _, Tryz.f123, rfl, rfl, by decide, rfl, rfl⟩
/-- (*smithyard/script.parser).sign -/
noncomputable def rowYAwC200 : YRow := mkRowYAwC [] [] [] Tryz.f200
theorem rowYAwC200_ok : YRowOK Tryz.prog JS 200 rowYAwC200 := ⟨cYAwC _ _ _, Tryz.f200, rfl, rfl, by decide, rfl, rfl⟩
/-- (*smithyard/script.parser).statement$1 -/
noncomputable def rowYAwC202 : YRow := mkRowYAwC [(0, 1000005)] [] [] Tryz.f202
theorem rowYAwC202_ok : YRowOK Tryz.prog JS 202 rowYAwC202 := ⟨cYAwC _ _ _, Tryz.f202, rfl, rfl, by decide, rfl, rfl⟩
/-- (*smithyard/script.parser).row -/
noncomputable def rowYAwC201 : YRow := mkRowYAwC [] [] [] Tryz.f201
theorem rowYAwC201_ok : YRowOK Tryz.prog JS 201 rowYAwC201 := ⟨cYAwC _ _ _, Tryz.f201, rfl, rfl, by decide, rfl, rfl⟩
/-- (*smithyard/script.parser).block -/
noncomputable def rowYAwC203 : YRow := mkRowYAwC [] [] [] Tryz.f203
theorem rowYAwC203_ok : YRowOK Tryz.prog JS 203 rowYAwC203 := ⟨cYAwC _ _ _, Tryz.f203, rfl, rfl, by decide, rfl, rfl⟩
/-- (*smithyard/script.parser).word -/
noncomputable def rowYAwC204 : YRow := mkRowYAwC [] [] [] Tryz.f204
theorem rowYAwC204_ok : YRowOK Tryz.prog JS 204 rowYAwC204 := ⟨cYAwC _ _ _, Tryz.f204, rfl, rfl, by decide, rfl, rfl⟩
/-- (*smithyard/script.parser).value -/
noncomputable def rowYAwC205 : YRow := mkRowYAwC [] [] [] Tryz.f205
theorem rowYAwC205_ok : YRowOK Tryz.prog JS 205 rowYAwC205 := ⟨cYAwC _ _ _, Tryz.f205, rfl, rfl, by decide, rfl, rfl⟩
/-- (*smithyard/script.parser).expr -/
noncomputable def rowYAwC234 : YRow := mkRowYAwC [] [] [19] Tryz.f234
theorem rowYAwC234_ok : YRowOK Tryz.prog JS 234 rowYAwC234 := ⟨cYAwC _ _ _, Tryz.f234, rfl, rfl, by decide, rfl, rfl⟩
/-- (*smithyard/script.parser).sum -/
noncomputable def rowYAwC249 : YRow := mkRowYAwC [] [] [17] Tryz.f249
theorem rowYAwC249_ok : YRowOK Tryz.prog JS 249 rowYAwC249 := ⟨cYAwC _ _ _, Tryz.f249, rfl, rfl, by decide, rfl, rfl⟩
/-- (*smithyard/script.parser).one -/
noncomputable def rowYAwC256 : YRow := mkRowYAwC [(10, 1000005), (11, 6)] [] [8] Tryz.f256
theorem rowYAwC256_ok : YRowOK Tryz.prog JS 256 rowYAwC256 := ⟨cYAwC _ _ _, Tryz.f256, rfl, rfl, by decide, rfl, rfl⟩
/-- (*smithyard/script.parser).one$1 -/
noncomputable def rowYAwC272 : YRow := mkRowYAwC [(0, 2000011)] [] [] Tryz.f272
theorem rowYAwC272_ok : YRowOK Tryz.prog JS 272 rowYAwC272 := ⟨cYAwC _ _ _, Tryz.f272, rfl, rfl, by decide, rfl, rfl⟩
/-- (*smithyard/script.parser).text -/
noncomputable def rowYAwC206 : YRow := mkRowYAwC [] [] [] Tryz.f206
theorem rowYAwC206_ok : YRowOK Tryz.prog JS 206 rowYAwC206 := ⟨cYAwC _ _ _, Tryz.f206, rfl, rfl, by decide, rfl, rfl⟩
/-- (*smithyard/script.parser).one$2 -/
noncomputable def rowYAwC273 : YRow := mkRowYAwC [(0, 1000006)] [] [] Tryz.f273
theorem rowYAwC273_ok : YRowOK Tryz.prog JS 273 rowYAwC273 := ⟨cYAwC _ _ _, Tryz.f273, rfl, rfl, by decide, rfl, rfl⟩
/-- (*smithyard/script.parser).made -/
noncomputable def rowYAwC233 : YRow := mkRowYAwC [(10, 1000007)] [] [] Tryz.f233
theorem rowYAwC233_ok : YRowOK Tryz.prog JS 233 rowYAwC233 := ⟨cYAwC _ _ _, Tryz.f233, rfl, rfl, by decide, rfl, rfl⟩
/-- (*smithyard/script.parser).simple -/
noncomputable def rowYAwC207 : YRow := mkRowYAwC [(6, 1000004)] [] [] Tryz.f207
theorem rowYAwC207_ok : YRowOK Tryz.prog JS 207 rowYAwC207 := ⟨cYAwC _ _ _, Tryz.f207, rfl, rfl, by decide, rfl, rfl⟩
/-- (*smithyard/script.parser).simple$1 -/
noncomputable def rowYAwC235 : YRow := mkRowYAwC [(3, 2000008)] [] [6] Tryz.f235
theorem rowYAwC235_ok : YRowOK Tryz.prog JS 235 rowYAwC235 := ⟨cYAwC _ _ _, Tryz.f235, rfl, rfl, by decide, rfl, rfl⟩
/-- smithyard/script.newProgram -/
noncomputable def rowYAwC80 : YRow := mkRowYAwC [] [] [6] Tryz.f80
theorem rowYAwC80_ok : YRowOK Tryz.prog JS 80 rowYAwC80 := ⟨cYAwC _ _ _, Tryz.f80, rfl, rfl, by decide, rfl, rfl⟩
/-- smithyard/script.newScope -/
noncomputable def rowYAwC117 : YRow := mkRowYAwC [] [] [5] Tryz.f117
theorem rowYAwC117_ok : YRowOK Tryz.prog JS 117 rowYAwC117 := ⟨cYAwC _ _ _, Tryz.f117, rfl, rfl, by decide, rfl, rfl⟩
/-- (*smithyard/script.machine).run -/
noncomputable def rowYAwC81 : YRow := mkRowYAwC [] [] [] Tryz.f81
theorem rowYAwC81_ok : YRowOK Tryz.prog JS 81 rowYAwC81 := ⟨cYAwC _ _ _, Tryz.f81, rfl, rfl, by decide, rfl, rfl⟩
/-- (*smithyard/script.machine).step -/
noncomputable def rowYAwC118 : YRow := mkRowYAwC [] [] [] Tryz.f118
theorem rowYAwC118_ok : YRowOK Tryz.prog JS 118 rowYAwC118 := ⟨cYAwC _ _ _, Tryz.f118, rfl, rfl, by decide, rfl, rfl⟩
/-- (*smithyard/script.machine).statement -/
noncomputable def rowYAwC119 : YRow := mkRowYAwC [(10, 1000012), (28, 1000006), (29, 1000006)] [] [69] Tryz.f119
theorem rowYAwC119_ok : YRowOK Tryz.prog JS 119 rowYAwC119 := ⟨cYAwC _ _ _, Tryz.f119, rfl, rfl, by decide, rfl, rfl⟩
/-- (*smithyard/script.machine).expr -/
noncomputable def rowYAwC161 : YRow := mkRowYAwC [] [] [15, 30] Tryz.f161
theorem rowYAwC161_ok : YRowOK Tryz.prog JS 161 rowYAwC161 := ⟨cYAwC _ _ _, Tryz.f161, rfl, rfl, by decide, rfl, rfl⟩
/-- (*smithyard/script.machine).value -/
noncomputable def rowYAwC212 : YRow := mkRowYAwC [(20, 1000010), (22, 1000009), (25, 6), (32, 1000009)] [] [22, 27, 39, 43, 56, 91, 101] Tryz.f212
theorem rowYAwC212_ok : YRowOK Tryz.prog JS 212 rowYAwC212 := ⟨cYAwC _ _ _, Tryz.f212, rfl, rfl, by decide, rfl, rfl⟩
/-- (*smithyard/script.scope).find -/
noncomputable def rowYAwC214 : YRow := mkRowYAwC [] [] [25] Tryz.f214
theorem rowYAwC214_ok : YRowOK Tryz.prog JS 214 rowYAwC214 := ⟨cYAwC _ _ _, Tryz.f214, rfl, rfl, by decide, rfl, rfl⟩
/-- (*smithyard/script.machine).exprs -/
noncomputable def rowYAwC242 : YRow := mkRowYAwC [] [] [] Tryz.f242
theorem rowYAwC242_ok : YRowOK Tryz.prog JS 242 rowYAwC242 := ⟨cYAwC _ _ _, Tryz.f242, rfl, rfl, by decide, rfl, rfl⟩
/-- smithyard/script.CheckValue -/
noncomputable def rowYAwC16 : YRow := mkRowYAwC [] [] [] Tryz.f16
theorem rowYAwC16_ok : YRowOK Tryz.prog JS 16 rowYAwC16 := ⟨cYAwC _ _ _, Tryz.f16, rfl, rfl, by decide, rfl, rfl⟩
/-- slices.ContainsFunc[[]string,string] -/
noncomputable def rowYAwC46 : YRow := mkRowYAwC [] [] [] Tryz.f46
theorem rowYAwC46_ok : YRowOK Tryz.prog JS 46 rowYAwC46 := ⟨cYAwC _ _ _, Tryz.f46, rfl, rfl, by decide, rfl, rfl⟩
/-- slices.IndexFunc[[]string,string] -/
noncomputable def rowYAwC86 : YRow := mkRowYAwC [] [] [] Tryz.f86
theorem rowYAwC86_ok : YRowOK Tryz.prog JS 86 rowYAwC86 := ⟨cYAwC _ _ _, Tryz.f86, rfl, rfl, by decide, rfl, rfl⟩
/-- smithyard/script.CheckValue$1 -/
noncomputable def rowYAwC47 : YRow := mkRowYAwC [] [] [] Tryz.f47
theorem rowYAwC47_ok : YRowOK Tryz.prog JS 47 rowYAwC47 := ⟨cYAwC _ _ _, Tryz.f47, rfl, rfl, by decide, rfl, rfl⟩
/-- smithyard/script.isText -/
noncomputable def rowYAwC48 : YRow := mkRowYAwC [] [] [] Tryz.f48
theorem rowYAwC48_ok : YRowOK Tryz.prog JS 48 rowYAwC48 := ⟨cYAwC _ _ _, Tryz.f48, rfl, rfl, by decide, rfl, rfl⟩
/-- smithyard/script.CheckValue$2 -/
noncomputable def rowYAwC49 : YRow := mkRowYAwC [] [] [] Tryz.f49
theorem rowYAwC49_ok : YRowOK Tryz.prog JS 49 rowYAwC49 := ⟨cYAwC _ _ _, Tryz.f49, rfl, rfl, by decide, rfl, rfl⟩
/-- smithyard/script.checkCases -/
noncomputable def rowYAwC50 : YRow := mkRowYAwC [(16, 8)] [] [] Tryz.f50
theorem rowYAwC50_ok : YRowOK Tryz.prog JS 50 rowYAwC50 := ⟨cYAwC _ _ _, Tryz.f50, rfl, rfl, by decide, rfl, rfl⟩
/-- smithyard/script.checkText -/
noncomputable def rowYAwC87 : YRow := mkRowYAwC [] [] [] Tryz.f87
theorem rowYAwC87_ok : YRowOK Tryz.prog JS 87 rowYAwC87 := ⟨cYAwC _ _ _, Tryz.f87, rfl, rfl, by decide, rfl, rfl⟩
/-- smithyard/script.checkCases$1 -/
noncomputable def rowYAwC89 : YRow := mkRowYAwC [] [] [] Tryz.f89
theorem rowYAwC89_ok : YRowOK Tryz.prog JS 89 rowYAwC89 := ⟨cYAwC _ _ _, Tryz.f89, rfl, rfl, by decide, rfl, rfl⟩
/-- (*smithyard/script.scope).define -/
noncomputable def rowYAwC162 : YRow := mkRowYAwC [] [] [] Tryz.f162
theorem rowYAwC162_ok : YRowOK Tryz.prog JS 162 rowYAwC162 := ⟨cYAwC _ _ _, Tryz.f162, rfl, rfl, by decide, rfl, rfl⟩
/-- (*smithyard/script.scope).give -/
noncomputable def rowYAwC213 : YRow := mkRowYAwC [(4, 6)] [] [] Tryz.f213
theorem rowYAwC213_ok : YRowOK Tryz.prog JS 213 rowYAwC213 := ⟨cYAwC _ _ _, Tryz.f213, rfl, rfl, by decide, rfl, rfl⟩
/-- (*smithyard/script.machine).call -/
noncomputable def rowYAwC163 : YRow := mkRowYAwC [] [] [] Tryz.f163
theorem rowYAwC163_ok : YRowOK Tryz.prog JS 163 rowYAwC163 := ⟨cYAwC _ _ _, Tryz.f163, rfl, rfl, by decide, rfl, rfl⟩
/-- (*smithyard/script.machine).target -/
noncomputable def rowYAwC215 : YRow := mkRowYAwC [(7, 9000000), (15, 1000007), (22, 7)] [] [54] Tryz.f215
theorem rowYAwC215_ok : YRowOK Tryz.prog JS 215 rowYAwC215 := ⟨cYAwC _ _ _, Tryz.f215, rfl, rfl, by decide, rfl, rfl⟩
/-- slices.SortFunc[[]smithyard/api.Attr,smithyard/api.Attr] -/
noncomputable def rowYAwC245 : YRow := mkRowYAwC [] [] [] Tryz.f245
theorem rowYAwC245_ok : YRowOK Tryz.prog JS 245 rowYAwC245 := ⟨cYAwC _ _ _, Tryz.f245, rfl, rfl, by decide, rfl, rfl⟩
/-- math/bits.Len -/
noncomputable def rowYAwC108 : YRow := mkRowYAwC [] [] [] Tryz.f108
theorem rowYAwC108_ok : YRowOK Tryz.prog JS 108 rowYAwC108 := ⟨cYAwC _ _ _, Tryz.f108, rfl, rfl, by decide, rfl, rfl⟩
/-- math/bits.Len32 -/
noncomputable def rowYAwC140 : YRow := mkRowYAwC [] [] [] Tryz.f140
theorem rowYAwC140_ok : YRowOK Tryz.prog JS 140 rowYAwC140 := ⟨cYAwC _ _ _, Tryz.f140, rfl, rfl, by decide, rfl, rfl⟩
/-- math/bits.Len64 -/
noncomputable def rowYAwC141 : YRow := mkRowYAwC [] [] [] Tryz.f141
theorem rowYAwC141_ok : YRowOK Tryz.prog JS 141 rowYAwC141 := ⟨cYAwC _ _ _, Tryz.f141, rfl, rfl, by decide, rfl, rfl⟩
/-- slices.pdqsortCmpFunc[smithyard/api.Attr] -/
noncomputable def rowYAwC255 : YRow := mkRowYAwC [(17, 13)] [] [] Tryz.f255
theorem rowYAwC255_ok : YRowOK Tryz.prog JS 255 rowYAwC255 := ⟨cYAwC _ _ _, Tryz.f255, rfl, rfl, by decide, rfl, rfl⟩
/-- slices.insertionSortCmpFunc[smithyard/api.Attr] -/
noncomputable def rowYAwC264 : YRow := mkRowYAwC [(4, 14), (6, 1000016)] [] [] Tryz.f264
theorem rowYAwC264_ok : YRowOK Tryz.prog JS 264 rowYAwC264 := ⟨cYAwC _ _ _, Tryz.f264, rfl, rfl, by decide, rfl, rfl⟩
/-- (*smithyard/script.machine).target$1 -/
noncomputable def rowYAwC246 : YRow := mkRowYAwC [] [] [] Tryz.f246
theorem rowYAwC246_ok : YRowOK Tryz.prog JS 246 rowYAwC246 := ⟨cYAwC _ _ _, Tryz.f246, rfl, rfl, by decide, rfl, rfl⟩
/-- slices.SortFunc[[]smithyard/api.Target,smithyard/api.Target] -/
noncomputable def rowYAwC82 : YRow := mkRowYAwC [] [] [] Tryz.f82
theorem rowYAwC82_ok : YRowOK Tryz.prog JS 82 rowYAwC82 := ⟨cYAwC _ _ _, Tryz.f82, rfl, rfl, by decide, rfl, rfl⟩
/-- slices.pdqsortCmpFunc[smithyard/api.Target] -/
noncomputable def rowYAwC120 : YRow := mkRowYAwC [(17, 13)] [] [] Tryz.f120
theorem rowYAwC120_ok : YRowOK Tryz.prog JS 120 rowYAwC120 := ⟨cYAwC _ _ _, Tryz.f120, rfl, rfl, by decide, rfl, rfl⟩
/-- slices.insertionSortCmpFunc[smithyard/api.Target] -/
noncomputable def rowYAwC166 : YRow := mkRowYAwC [(4, 14), (6, 1000016)] [] [] Tryz.f166
theorem rowYAwC166_ok : YRowOK Tryz.prog JS 166 rowYAwC166 := ⟨cYAwC _ _ _, Tryz.f166, rfl, rfl, by decide, rfl, rfl⟩
/-- smithyard/script.Eval$1 -/
noncomputable def rowYAwC83 : YRow := mkRowYAwC [] [] [] Tryz.f83
theorem rowYAwC83_ok : YRowOK Tryz.prog JS 83 rowYAwC83 := ⟨cYAwC _ _ _, Tryz.f83, rfl, rfl, by decide, rfl, rfl⟩
noncomputable def tabYAwC : List (Nat × YRow) := [(10, rowYAwC10), (37, rowYAwC37), (78, rowYAwC78), (59, rowYAwC59), (101, rowYAwC101), (126, rowYAwC126), (113, rowYAwC113), (154, rowYAwC154), (79, rowYAwC79), (158, rowYAwC158), (196, rowYAwC196), (197, rowYAwC197), (198, rowYAwC198), (231, rowYAwC231), (199, rowYAwC199), (57, rowYAwC57), (97, rowYAwC97), (98, rowYAwC98), (99, rowYAwC99), (93, rowYAwC93), (123, rowYAwC123), (200, rowYAwC200), (202, rowYAwC202), (201, rowYAwC201), (203, rowYAwC203), (204, rowYAwC204), (205, rowYAwC205), (234, rowYAwC234), (249, rowYAwC249), (256, rowYAwC256), (272, rowYAwC272), (206, rowYAwC206), (273, rowYAwC273), (233, rowYAwC233), (207, rowYAwC207), (235, rowYAwC235), (80, rowYAwC80), (117, rowYAwC117), (81, rowYAwC81), (118, rowYAwC118), (119, rowYAwC119), (161, rowYAwC161), (212, rowYAwC212), (214, rowYAwC214), (242, rowYAwC242), (16, rowYAwC16), (46, rowYAwC46), (86, rowYAwC86), (47, rowYAwC47), (48, rowYAwC48), (49, rowYAwC49), (50, rowYAwC50), (87, rowYAwC87), (89, rowYAwC89), (162, rowYAwC162), (213, rowYAwC213), (163, rowYAwC163), (215, rowYAwC215), (245, rowYAwC245), (108, rowYAwC108), (140, rowYAwC140), (141, rowYAwC141), (255, rowYAwC255), (264, rowYAwC264), (246, rowYAwC246), (82, rowYAwC82), (120, rowYAwC120), (166, rowYAwC166), (83, rowYAwC83)]
theorem tabYAwC_ok : ∀ g r, alookup tabYAwC g = some r → YRowOK Tryz.prog JS g r := AllL.get (l := tabYAwC) (Q := YRowOK Tryz.prog JS) ⟨rowYAwC10_ok, rowYAwC37_ok, rowYAwC78_ok, rowYAwC59_ok, rowYAwC101_ok, rowYAwC126_ok, rowYAwC113_ok, rowYAwC154_ok, rowYAwC79_ok, rowYAwC158_ok, rowYAwC196_ok, rowYAwC197_ok, rowYAwC198_ok, rowYAwC231_ok, rowYAwC199_ok, rowYAwC57_ok, rowYAwC97_ok, rowYAwC98_ok, rowYAwC99_ok, rowYAwC93_ok, rowYAwC123_ok, rowYAwC200_ok, rowYAwC202_ok, rowYAwC201_ok, rowYAwC203_ok, rowYAwC204_ok, rowYAwC205_ok, rowYAwC234_ok, rowYAwC249_ok, rowYAwC256_ok, rowYAwC272_ok, rowYAwC206_ok, rowYAwC273_ok, rowYAwC233_ok, rowYAwC207_ok, rowYAwC235_ok, rowYAwC80_ok, rowYAwC117_ok, rowYAwC81_ok, rowYAwC118_ok, rowYAwC119_ok, rowYAwC161_ok, rowYAwC212_ok, rowYAwC214_ok, rowYAwC242_ok, rowYAwC16_ok, rowYAwC46_ok, rowYAwC86_ok, rowYAwC47_ok, rowYAwC48_ok, rowYAwC49_ok, rowYAwC50_ok, rowYAwC87_ok, rowYAwC89_ok, rowYAwC162_ok, rowYAwC213_ok, rowYAwC163_ok, rowYAwC215_ok, rowYAwC245_ok, rowYAwC108_ok, rowYAwC140_ok, rowYAwC141_ok, rowYAwC255_ok, rowYAwC264_ok, rowYAwC246_ok, rowYAwC82_ok, rowYAwC120_ok, rowYAwC166_ok, rowYAwC83_ok, trivial⟩
end Go.Proofs.YtbliiipcjbmbiaaGreatDoor.Ev
