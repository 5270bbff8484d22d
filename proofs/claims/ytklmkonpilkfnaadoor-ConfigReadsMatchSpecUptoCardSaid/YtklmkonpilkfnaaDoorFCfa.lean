/- Cfa: the functions as plain Lean, and that they are the program's (printed by this session's own wip/ev/gen.py) -/
import Derived.Test.YtklmkonpilkfnaaDoorEv2
import Derived.Test.YtklmkonpilkfnaaDoorProg
import Derived.Test.YtklmkonpilkfnaaDoorGvCfg
namespace Go.Proofs.YtklmkonpilkfnaaDoor.Ev
open Go Go.Proofs Go.RowKit
set_option linter.unusedVariables false
set_option maxRecDepth 100000
theorem ty_2 : TyOK Tryd.prog 2 ⟨.int .i64, [], 0, 0, 0⟩ := ⟨⟨rfl, rfl, ⟨_, rfl, rfl, _, rfl, rfl⟩, ⟨_, rfl, rfl⟩⟩, rfl⟩
theorem ty_3 : TyOK Tryd.prog 3 ⟨.int .i64, [], 0, 0, 0⟩ := ⟨⟨rfl, rfl, ⟨_, rfl, rfl, _, rfl, rfl⟩, ⟨_, rfl, rfl⟩⟩, rfl⟩
theorem ty_4 : TyOK Tryd.prog 4 ⟨.bool, [], 0, 0, 0⟩ := ⟨⟨rfl, rfl, ⟨_, rfl, rfl, _, rfl, rfl⟩, ⟨_, rfl, rfl⟩⟩, rfl⟩
theorem ty_5 : TyOK Tryd.prog 5 ⟨.int .u8, [], 0, 0, 0⟩ := ⟨⟨rfl, rfl, ⟨_, rfl, rfl, _, rfl, rfl⟩, ⟨_, rfl, rfl⟩⟩, rfl⟩
theorem ty_9 : TyOK Tryd.prog 9 ⟨.str, [], 0, 0, 0⟩ := ⟨⟨rfl, rfl, ⟨_, rfl, rfl, _, rfl, rfl⟩, ⟨_, rfl, rfl⟩⟩, rfl⟩
theorem ty_43 : TyOK Tryd.prog 43 ⟨.slice (.str), [], 0, 9, 16⟩ := ⟨⟨trivial, rfl, ⟨_, rfl, rfl, _, rfl, rfl⟩, ⟨_, rfl, rfl⟩⟩, ⟨rfl, ty_9.1, fun i h => by cases h; rfl⟩⟩
theorem ty_70 : TyOK Tryd.prog 70 ⟨.agg (.pair (.str) (.slice (.str))), [(0, 9), (1, 43)], 0, 0, 0⟩ := ⟨⟨trivial, rfl, ⟨_, rfl, rfl, _, rfl, rfl⟩, ⟨_, rfl, rfl⟩⟩, ⟨_, rfl, rfl, fun f off tf h => by
  match f, h with
  | 0, h => cases h; exact ⟨_, rfl, rfl, rfl, _, rfl⟩
  | 1, h => cases h; exact ⟨_, rfl, rfl, rfl, _, rfl⟩
  | _ + 2, h => cases h⟩⟩
theorem ty_22 : TyOK Tryd.prog 22 ⟨.slice (.agg (.pair (.str) (.slice (.str)))), [], 0, 70, 40⟩ := ⟨⟨trivial, rfl, ⟨_, rfl, rfl, _, rfl, rfl⟩, ⟨_, rfl, rfl⟩⟩, ⟨rfl, ty_70.1, fun i h => by cases h; rfl⟩⟩
theorem ty_27 : TyOK Tryd.prog 27 ⟨.agg (.pair (.str) (.str)), [(0, 9), (1, 9)], 0, 0, 0⟩ := ⟨⟨trivial, rfl, ⟨_, rfl, rfl, _, rfl, rfl⟩, ⟨_, rfl, rfl⟩⟩, ⟨_, rfl, rfl, fun f off tf h => by
  match f, h with
  | 0, h => cases h; exact ⟨_, rfl, rfl, rfl, _, rfl⟩
  | 1, h => cases h; exact ⟨_, rfl, rfl, rfl, _, rfl⟩
  | _ + 2, h => cases h⟩⟩
theorem ty_23 : TyOK Tryd.prog 23 ⟨.slice (.agg (.pair (.str) (.str))), [], 0, 27, 32⟩ := ⟨⟨trivial, rfl, ⟨_, rfl, rfl, _, rfl, rfl⟩, ⟨_, rfl, rfl⟩⟩, ⟨rfl, ty_27.1, fun i h => by cases h; rfl⟩⟩
theorem ty_28 : TyOK Tryd.prog 28 ⟨.int .i64, [], 0, 0, 0⟩ := ⟨⟨rfl, rfl, ⟨_, rfl, rfl, _, rfl, rfl⟩, ⟨_, rfl, rfl⟩⟩, rfl⟩
def tys : List (Nat × Ty) := [(2, ⟨.int .i64, [], 0, 0, 0⟩), (3, ⟨.int .i64, [], 0, 0, 0⟩), (4, ⟨.bool, [], 0, 0, 0⟩), (5, ⟨.int .u8, [], 0, 0, 0⟩), (9, ⟨.str, [], 0, 0, 0⟩), (43, ⟨.slice (.str), [], 0, 9, 16⟩), (70, ⟨.agg (.pair (.str) (.slice (.str))), [(0, 9), (1, 43)], 0, 0, 0⟩), (22, ⟨.slice (.agg (.pair (.str) (.slice (.str)))), [], 0, 70, 40⟩), (27, ⟨.agg (.pair (.str) (.str)), [(0, 9), (1, 9)], 0, 0, 0⟩), (23, ⟨.slice (.agg (.pair (.str) (.str))), [], 0, 27, 32⟩), (28, ⟨.int .i64, [], 0, 0, 0⟩)]
def eqs : List Nat := [27]
theorem eq_27 : EqOK Tryd.prog 27 (.agg (.pair (.str) (.str))) := eqOK_agg rfl (by kernel_rfl) (by kernel_rfl) ⟨⟨by decide, rfl, rfl⟩, ⟨by decide, rfl, rfl⟩⟩
theorem eqsOK : ∀ t k, eqs.any (Nat.beq t) = true → (match alookup tys t with | some y => some y.k | none => none) = some k → EqOK Tryd.prog t k := by
  intro t k h hk
  obtain ⟨x, hx, e⟩ := List.any_eq_true.1 h
  obtain rfl := Nat.eq_of_beq_eq_true e
  simp only [eqs, List.mem_cons, List.not_mem_nil, or_false] at hx
  rcases hx with rfl
  · cases hk; exact eq_27
theorem tysOK : AllL (TyOK Tryd.prog) tys := ⟨ty_2, ty_3, ty_4, ty_5, ty_9, ty_43, ty_70, ty_22, ty_27, ty_23, ty_28, trivial⟩
/-- smithyard/smithyardref3.CopySettings -/
def S13 (k : Nat) (x : PT [.val (.slice (.agg (.pair (.str) (.slice (.str)))))]) : Option (OT [.val (.slice (.agg (.pair (.str) (.slice (.str)))))]) :=
loopN k (fun (a2 : (((List (ByteArray × (List ByteArray))) × Int) → (Option (List (ByteArray × (List ByteArray)))))) (a3 : ((List (ByteArray × (List ByteArray))) × Int)) => cnd (ilt a3.2 (len x.1)) (bnd (at? x.1 a3.2) (fun (a4 : (ByteArray × (List ByteArray))) => bnd (S25 k (a4.2, ())) (fun (a5 : (List ByteArray)) => bnd (app? 40 a3.1 ((a4.1, a5) :: ([] : List (ByteArray × (List ByteArray))))) (fun (a6 : (List (ByteArray × (List ByteArray)))) => a2 (a6, iadd Go.IntKind.i64 a3.2 1))))) (some a3.1)) (([] : List (ByteArray × (List ByteArray))), 0)
def F13 : Fn := ⟨[.val (.slice (.agg (.pair (.str) (.slice (.str)))))], [.val (.slice (.agg (.pair (.str) (.slice (.str)))))], S13⟩
def Γ13 : Ctx := ⟨alookup tys, alookup [(25, F25)], [(3, [3, 8], [])], [(3, [6])], [(5, 8)], [], [2, 17, 19], eqs, []⟩
theorem e13 (k : Nat) (x : PT [.val (.slice (.agg (.pair (.str) (.slice (.str)))))]) : S13 k x = runFn Γ13 k [.val (.slice (.agg (.pair (.str) (.slice (.str)))))] [.val (.slice (.agg (.pair (.str) (.slice (.str)))))] Tryd.f13.ntmps Tryd.f13.results.toList (Tryd.f13.body.getD .skip) x := by kernel_rfl
theorem c13 : CtxOK Tryd.prog JS Γ13 := ⟨tysOK.get, AllL.get (l := [(25, F25)]) ⟨ok25, trivial⟩, by kernel_rfl, eqsOK⟩
theorem ok13 : FnOK Tryd.prog JS 13 F13 := fnOK_of c13 (fn := Tryd.f13) (c := Tryd.f13.body.getD .skip) rfl rfl rfl (by decide) e13
/-- smithyard/config.IsWord -/
def S60 (k : Nat) (x : PT [.val (.str)]) : Option (OT [.val (.bool)]) :=
jn (fun (a2 : (Bool → (Option Bool))) => cnd (ilt (ssz x.1) 1) (a2 true) (cnd (igt (ssz x.1) 40) (a2 true) (bnd (bt? x.1 0) (fun (a3 : Int) => cnd (ilt a3 97) (a2 true) (bnd (bt? x.1 0) (fun (a4 : Int) => a2 (igt a4 122))))))) (fun (a2 : Bool) => cnd a2 (some false) (bnd (S98 k (x.1, (⟨#[97, 98, 99, 100, 101, 102, 103, 104, 105, 106, 107, 108, 109, 110, 111, 112, 113, 114, 115, 116, 117, 118, 119, 120,
  121, 122, 48, 49, 50, 51, 52, 53, 54, 55, 56, 57, 95, 45]⟩ : ByteArray), ())) (fun (a3 : ByteArray) => some (seq a3 (⟨#[]⟩ : ByteArray)))))
def F60 : Fn := ⟨[.val (.str)], [.val (.bool)], S60⟩
def Γ60 : Ctx := ⟨alookup tys, alookup [(98, F98)], [], [], [], [], [], eqs, [(2, [], [20], [.val (.bool)], [])]⟩
theorem e60 (k : Nat) (x : PT [.val (.str)]) : S60 k x = runFn Γ60 k [.val (.str)] [.val (.bool)] Tryd.f60.ntmps Tryd.f60.results.toList (Tryd.f60.body.getD .skip) x := by kernel_rfl
theorem c60 : CtxOK Tryd.prog JS Γ60 := ⟨tysOK.get, AllL.get (l := [(98, F98)]) ⟨ok98, trivial⟩, by kernel_rfl, eqsOK⟩
theorem ok60 : FnOK Tryd.prog JS 60 F60 := fnOK_of c60 (fn := Tryd.f60) (c := Tryd.f60.body.getD .skip) rfl rfl rfl (by decide) e60
/-- slices.Index[[]string,string] -/
def S99 (k : Nat) (x : PT [.val (.slice (.str)), .val (.str)]) : Option (OT [.val (.int .i64)]) :=
loopN k (fun (a2 : (Int → (Option Int))) (a3 : Int) => cnd (ilt a3 (len x.1)) (bnd (at? x.1 a3) (fun (a4 : ByteArray) => cnd (seq x.2.1 a4) (some a3) (a2 (iadd Go.IntKind.i64 a3 1)))) (some (-1))) 0
def F99 : Fn := ⟨[.val (.slice (.str)), .val (.str)], [.val (.int .i64)], S99⟩
def Γ99 : Ctx := ⟨alookup tys, alookup [], [(2, [8], [])], [], [], [], [], eqs, []⟩
theorem e99 (k : Nat) (x : PT [.val (.slice (.str)), .val (.str)]) : S99 k x = runFn Γ99 k [.val (.slice (.str)), .val (.str)] [.val (.int .i64)] Tryd.f99.ntmps Tryd.f99.results.toList (Tryd.f99.body.getD .skip) x := by kernel_rfl
theorem c99 : CtxOK Tryd.prog JS Γ99 := ⟨tysOK.get, AllL.get (l := []) trivial, by kernel_rfl, eqsOK⟩
theorem ok99 : FnOK Tryd.prog JS 99 F99 := fnOK_of c99 (fn := Tryd.f99) (c := Tryd.f99.body.getD .skip) rfl rfl rfl (by decide) e99
/-- slices.Contains[[]string,string] -/
def S61 (k : Nat) (x : PT [.val (.slice (.str)), .val (.str)]) : Option (OT [.val (.bool)]) :=
bnd (S99 k (x.1, x.2.1, ())) (fun (a2 : Int) => some (ige a2 0))
def F61 : Fn := ⟨[.val (.slice (.str)), .val (.str)], [.val (.bool)], S61⟩
def Γ61 : Ctx := ⟨alookup tys, alookup [(99, F99)], [], [], [], [], [], eqs, []⟩
theorem e61 (k : Nat) (x : PT [.val (.slice (.str)), .val (.str)]) : S61 k x = runFn Γ61 k [.val (.slice (.str)), .val (.str)] [.val (.bool)] Tryd.f61.ntmps Tryd.f61.results.toList (Tryd.f61.body.getD .skip) x := by kernel_rfl
theorem c61 : CtxOK Tryd.prog JS Γ61 := ⟨tysOK.get, AllL.get (l := [(99, F99)]) ⟨ok99, trivial⟩, by kernel_rfl, eqsOK⟩
theorem ok61 : FnOK Tryd.prog JS 61 F61 := fnOK_of c61 (fn := Tryd.f61) (c := Tryd.f61.body.getD .skip) rfl rfl rfl (by decide) e61
/-- smithyard/config.CheckSettings -/
def S17 (k : Nat) (x : PT [.val (.slice (.agg (.pair (.str) (.slice (.str)))))]) : Option (OT [.val (.int .i64)]) :=
cnd (igt (len x.1) 30) (some 2) (loopN k (fun (a2 : (Int → (Option Int))) (a3 : Int) => cnd (ilt a3 (len x.1)) (bnd (at? x.1 a3) (fun (a4 : (ByteArray × (List ByteArray))) => bnd (S60 k (a4.1, ())) (fun (a5 : Bool) => cnd (bnot a5) (some 5) (cnd (ieq (len a4.2) 0) (some 9) (cnd (igt (len a4.2) 20) (some 2) (loopN k (fun (a6 : (Int → (Option Int))) (a7 : Int) => cnd (ilt a7 (len a4.2)) (bnd (at? a4.2 a7) (fun (a8 : ByteArray) => bnd (S60 k (a8, ())) (fun (a9 : Bool) => cnd (bnot a9) (some 5) (bnd (cut? a4.2 0 a7) (fun (a10 : (List ByteArray)) => bnd (S61 k (a10, a8, ())) (fun (a11 : Bool) => cnd a11 (some 7) (a6 (iadd Go.IntKind.i64 a7 1)))))))) (cnd (igt a3 0) (bnd (at? x.1 (isub Go.IntKind.i64 a3 1)) (fun (a8 : (ByteArray × (List ByteArray))) => cnd (sle a4.1 a8.1) (some 8) (a2 (iadd Go.IntKind.i64 a3 1)))) (a2 (iadd Go.IntKind.i64 a3 1)))) 0)))))) (some 0)) 0)
def F17 : Fn := ⟨[.val (.slice (.agg (.pair (.str) (.slice (.str)))))], [.val (.int .i64)], S17⟩
def Γ17 : Ctx := ⟨alookup tys, alookup [(60, F60), (61, F61)], [(4, [12], []), (13, [35], [])], [(4, [10]), (13, [10, 33])], [(20, 11)], [], [], eqs, []⟩
theorem e17 (k : Nat) (x : PT [.val (.slice (.agg (.pair (.str) (.slice (.str)))))]) : S17 k x = runFn Γ17 k [.val (.slice (.agg (.pair (.str) (.slice (.str)))))] [.val (.int .i64)] Tryd.f17.ntmps Tryd.f17.results.toList (Tryd.f17.body.getD .skip) x := by kernel_rfl
theorem c17 : CtxOK Tryd.prog JS Γ17 := ⟨tysOK.get, AllL.get (l := [(60, F60), (61, F61)]) ⟨ok60, ok61, trivial⟩, by kernel_rfl, eqsOK⟩
theorem ok17 : FnOK Tryd.prog JS 17 F17 := fnOK_of c17 (fn := Tryd.f17) (c := Tryd.f17.body.getD .skip) rfl rfl rfl (by decide) e17
/-- smithyard/config.find$1 -/
def S96 (k : Nat) (x : PT [.val (.agg (.pair (.str) (.slice (.str)))), .rptr (.str)]) : Option (OT [.val (.bool)]) :=
some (seq x.1.1 x.2.1)
def F96 : Fn := ⟨[.val (.agg (.pair (.str) (.slice (.str)))), .rptr (.str)], [.val (.bool)], S96⟩
def Γ96 : Ctx := ⟨alookup tys, alookup [], [], [], [], [], [], eqs, []⟩
theorem e96 (k : Nat) (x : PT [.val (.agg (.pair (.str) (.slice (.str)))), .rptr (.str)]) : S96 k x = runFn Γ96 k [.val (.agg (.pair (.str) (.slice (.str)))), .rptr (.str)] [.val (.bool)] Tryd.f96.ntmps Tryd.f96.results.toList (Tryd.f96.body.getD .skip) x := by kernel_rfl
theorem c96 : CtxOK Tryd.prog JS Γ96 := ⟨tysOK.get, AllL.get (l := []) trivial, by kernel_rfl, eqsOK⟩
theorem ok96 : FnOK Tryd.prog JS 96 F96 := fnOK_of c96 (fn := Tryd.f96) (c := Tryd.f96.body.getD .skip) rfl rfl rfl (by decide) e96
/-- slices.IndexFunc[[]smithyard/api.Setting,smithyard/api.Setting] -/
def S95 (k : Nat) (x : PT [.val (.slice (.agg (.pair (.str) (.slice (.str))))), .fnv (.agg (.pair (.str) (.slice (.str)))) (.bool)]) : Option (OT [.val (.int .i64)]) :=
loopN k (fun (a2 : (Int → (Option Int))) (a3 : Int) => cnd (ilt a3 (len x.1)) (bnd (at? x.1 a3) (fun (a4 : (ByteArray × (List ByteArray))) => bnd (x.2.1 a4) (fun (a5 : Bool) => cnd a5 (some a3) (a2 (iadd Go.IntKind.i64 a3 1))))) (some (-1))) 0
def F95 : Fn := ⟨[.val (.slice (.agg (.pair (.str) (.slice (.str))))), .fnv (.agg (.pair (.str) (.slice (.str)))) (.bool)], [.val (.int .i64)], S95⟩
def Γ95 : Ctx := ⟨alookup tys, alookup [], [(2, [8], [])], [], [], [], [], eqs, []⟩
theorem e95 (k : Nat) (x : PT [.val (.slice (.agg (.pair (.str) (.slice (.str))))), .fnv (.agg (.pair (.str) (.slice (.str)))) (.bool)]) : S95 k x = runFn Γ95 k [.val (.slice (.agg (.pair (.str) (.slice (.str))))), .fnv (.agg (.pair (.str) (.slice (.str)))) (.bool)] [.val (.int .i64)] Tryd.f95.ntmps Tryd.f95.results.toList (Tryd.f95.body.getD .skip) x := by kernel_rfl
theorem c95 : CtxOK Tryd.prog JS Γ95 := ⟨tysOK.get, AllL.get (l := []) trivial, by kernel_rfl, eqsOK⟩
theorem ok95 : FnOK Tryd.prog JS 95 F95 := fnOK_of c95 (fn := Tryd.f95) (c := Tryd.f95.body.getD .skip) rfl rfl rfl (by decide) e95
/-- smithyard/config.find -/
def S56 (k : Nat) (x : PT [.val (.slice (.agg (.pair (.str) (.slice (.str))))), .val (.str)]) : Option (OT [.val (.int .i64)]) :=
bnd (S95 k (x.1, fun (a2 : (ByteArray × (List ByteArray))) => S96 k (a2, x.2.1, ()), ())) (fun (a2 : Int) => some a2)
def F56 : Fn := ⟨[.val (.slice (.agg (.pair (.str) (.slice (.str))))), .val (.str)], [.val (.int .i64)], S56⟩
def Γ56 : Ctx := ⟨alookup tys, alookup [(96, F96), (95, F95)], [], [], [], [], [], eqs, []⟩
theorem e56 (k : Nat) (x : PT [.val (.slice (.agg (.pair (.str) (.slice (.str))))), .val (.str)]) : S56 k x = runFn Γ56 k [.val (.slice (.agg (.pair (.str) (.slice (.str))))), .val (.str)] [.val (.int .i64)] Tryd.f56.ntmps Tryd.f56.results.toList (Tryd.f56.body.getD .skip) x := by kernel_rfl
theorem c56 : CtxOK Tryd.prog JS Γ56 := ⟨tysOK.get, AllL.get (l := [(96, F96), (95, F95)]) ⟨ok96, ok95, trivial⟩, by kernel_rfl, eqsOK⟩
theorem ok56 : FnOK Tryd.prog JS 56 F56 := fnOK_of c56 (fn := Tryd.f56) (c := Tryd.f56.body.getD .skip) rfl rfl rfl (by decide) e56
/-- smithyard/config.checkSet -/
def S63 (k : Nat) (x : PT [.val (.slice (.agg (.pair (.str) (.slice (.str))))), .val (.slice (.agg (.pair (.str) (.str)))), .val (.bool)]) : Option (OT [.val (.int .i64)]) :=
loopN k (fun (a2 : (Int → (Option Int))) (a3 : Int) => cnd (ilt a3 (len x.2.1)) (bnd (at? x.2.1 a3) (fun (a4 : (ByteArray × ByteArray)) => bnd (S56 k (x.1, a4.1, ())) (fun (a5 : Int) => cnd (ilt a5 0) (some 5) (bnd (at? x.1 a5) (fun (a6 : (ByteArray × (List ByteArray))) => bnd (S61 k (a6.2, a4.2, ())) (fun (a7 : Bool) => cnd (bnot a7) (some 1) (jn (fun (a8 : (Bool → (Option Int))) => cnd x.2.2.1 (bnd (at? x.1 a5) (fun (a9 : (ByteArray × (List ByteArray))) => bnd (at? a9.2 0) (fun (a10 : ByteArray) => a8 (seq a4.2 a10)))) (a8 false)) (fun (a8 : Bool) => cnd a8 (some 3) (cnd (igt a3 0) (bnd (at? x.2.1 (isub Go.IntKind.i64 a3 1)) (fun (a9 : (ByteArray × ByteArray)) => cnd (sle a4.1 a9.1) (some 8) (a2 (iadd Go.IntKind.i64 a3 1)))) (a2 (iadd Go.IntKind.i64 a3 1))))))))))) (some 0)) 0
def F63 : Fn := ⟨[.val (.slice (.agg (.pair (.str) (.slice (.str))))), .val (.slice (.agg (.pair (.str) (.str)))), .val (.bool)], [.val (.int .i64)], S63⟩
def Γ63 : Ctx := ⟨alookup tys, alookup [(56, F56), (61, F61)], [(2, [12], [])], [(2, [10])], [(7, 7), (9, 11), (11, 11)], [], [], eqs, [(10, [], [34], [.val (.bool)], [])]⟩
theorem e63 (k : Nat) (x : PT [.val (.slice (.agg (.pair (.str) (.slice (.str))))), .val (.slice (.agg (.pair (.str) (.str)))), .val (.bool)]) : S63 k x = runFn Γ63 k [.val (.slice (.agg (.pair (.str) (.slice (.str))))), .val (.slice (.agg (.pair (.str) (.str)))), .val (.bool)] [.val (.int .i64)] Tryd.f63.ntmps Tryd.f63.results.toList (Tryd.f63.body.getD .skip) x := by kernel_rfl
theorem c63 : CtxOK Tryd.prog JS Γ63 := ⟨tysOK.get, AllL.get (l := [(56, F56), (61, F61)]) ⟨ok56, ok61, trivial⟩, by kernel_rfl, eqsOK⟩
theorem ok63 : FnOK Tryd.prog JS 63 F63 := fnOK_of c63 (fn := Tryd.f63) (c := Tryd.f63.body.getD .skip) rfl rfl rfl (by decide) e63
/-- smithyard/config.CheckConfig -/
def S19 (k : Nat) (x : PT [.val (.slice (.agg (.pair (.str) (.slice (.str))))), .val (.slice (.agg (.pair (.str) (.str))))]) : Option (OT [.val (.int .i64)]) :=
bnd (S17 k (x.1, ())) (fun (a2 : Int) => cnd (ine a2 0) (some a2) (bnd (S63 k (x.1, x.2.1, true, ())) (fun (a3 : Int) => some a3)))
def F19 : Fn := ⟨[.val (.slice (.agg (.pair (.str) (.slice (.str))))), .val (.slice (.agg (.pair (.str) (.str))))], [.val (.int .i64)], S19⟩
def Γ19 : Ctx := ⟨alookup tys, alookup [(17, F17), (63, F63)], [], [], [], [], [], eqs, []⟩
theorem e19 (k : Nat) (x : PT [.val (.slice (.agg (.pair (.str) (.slice (.str))))), .val (.slice (.agg (.pair (.str) (.str))))]) : S19 k x = runFn Γ19 k [.val (.slice (.agg (.pair (.str) (.slice (.str))))), .val (.slice (.agg (.pair (.str) (.str))))] [.val (.int .i64)] Tryd.f19.ntmps Tryd.f19.results.toList (Tryd.f19.body.getD .skip) x := by kernel_rfl
theorem c19 : CtxOK Tryd.prog JS Γ19 := ⟨tysOK.get, AllL.get (l := [(17, F17), (63, F63)]) ⟨ok17, ok63, trivial⟩, by kernel_rfl, eqsOK⟩
theorem ok19 : FnOK Tryd.prog JS 19 F19 := fnOK_of c19 (fn := Tryd.f19) (c := Tryd.f19.body.getD .skip) rfl rfl rfl (by decide) e19
/-- smithyard/config.pairOf -/
def S97 (k : Nat) (x : PT [.val (.slice (.agg (.pair (.str) (.str)))), .val (.str)]) : Option (OT [.val (.str), .val (.bool)]) :=
loopN k (fun (a2 : (Int → (Option (ByteArray × Bool)))) (a3 : Int) => cnd (ilt a3 (len x.1)) (bnd (at? x.1 a3) (fun (a4 : (ByteArray × ByteArray)) => cnd (seq a4.1 x.2.1) (some (a4.2, true)) (a2 (iadd Go.IntKind.i64 a3 1)))) (some ((⟨#[]⟩ : ByteArray), false))) 0
def F97 : Fn := ⟨[.val (.slice (.agg (.pair (.str) (.str)))), .val (.str)], [.val (.str), .val (.bool)], S97⟩
def Γ97 : Ctx := ⟨alookup tys, alookup [], [(2, [10], [])], [(2, [8])], [], [], [], eqs, []⟩
theorem e97 (k : Nat) (x : PT [.val (.slice (.agg (.pair (.str) (.str)))), .val (.str)]) : S97 k x = runFn Γ97 k [.val (.slice (.agg (.pair (.str) (.str)))), .val (.str)] [.val (.str), .val (.bool)] Tryd.f97.ntmps Tryd.f97.results.toList (Tryd.f97.body.getD .skip) x := by kernel_rfl
theorem c97 : CtxOK Tryd.prog JS Γ97 := ⟨tysOK.get, AllL.get (l := []) trivial, by kernel_rfl, eqsOK⟩
theorem ok97 : FnOK Tryd.prog JS 97 F97 := fnOK_of c97 (fn := Tryd.f97) (c := Tryd.f97.body.getD .skip) rfl rfl rfl (by decide) e97
/-- smithyard/config.valueOf -/
def S57 (k : Nat) (x : PT [.val (.slice (.agg (.pair (.str) (.slice (.str))))), .val (.slice (.agg (.pair (.str) (.str)))), .val (.str)]) : Option (OT [.val (.str)]) :=
bnd (S97 k (x.2.1, x.2.2.1, ())) (fun (a2 : (ByteArray × Bool)) => cnd a2.2 (some a2.1) (bnd (S56 k (x.1, x.2.2.1, ())) (fun (a3 : Int) => bnd (at? x.1 a3) (fun (a4 : (ByteArray × (List ByteArray))) => bnd (at? a4.2 0) (fun (a5 : ByteArray) => some a5)))))
def F57 : Fn := ⟨[.val (.slice (.agg (.pair (.str) (.slice (.str))))), .val (.slice (.agg (.pair (.str) (.str)))), .val (.str)], [.val (.str)], S57⟩
def Γ57 : Ctx := ⟨alookup tys, alookup [(97, F97), (56, F56)], [], [], [], [], [], eqs, []⟩
theorem e57 (k : Nat) (x : PT [.val (.slice (.agg (.pair (.str) (.slice (.str))))), .val (.slice (.agg (.pair (.str) (.str)))), .val (.str)]) : S57 k x = runFn Γ57 k [.val (.slice (.agg (.pair (.str) (.slice (.str))))), .val (.slice (.agg (.pair (.str) (.str)))), .val (.str)] [.val (.str)] Tryd.f57.ntmps Tryd.f57.results.toList (Tryd.f57.body.getD .skip) x := by kernel_rfl
theorem c57 : CtxOK Tryd.prog JS Γ57 := ⟨tysOK.get, AllL.get (l := [(97, F97), (56, F56)]) ⟨ok97, ok56, trivial⟩, by kernel_rfl, eqsOK⟩
theorem ok57 : FnOK Tryd.prog JS 57 F57 := fnOK_of c57 (fn := Tryd.f57) (c := Tryd.f57.body.getD .skip) rfl rfl rfl (by decide) e57
/-- smithyard/config.ValueOf -/
def S15 (k : Nat) (x : PT [.val (.slice (.agg (.pair (.str) (.slice (.str))))), .val (.slice (.agg (.pair (.str) (.str)))), .val (.str)]) : Option (OT [.val (.str), .val (.int .i64)]) :=
bnd (S19 k (x.1, x.2.1, ())) (fun (a2 : Int) => cnd (ine a2 0) (some ((⟨#[]⟩ : ByteArray), a2)) (bnd (S56 k (x.1, x.2.2.1, ())) (fun (a3 : Int) => cnd (ilt a3 0) (some ((⟨#[]⟩ : ByteArray), 5)) (bnd (S57 k (x.1, x.2.1, x.2.2.1, ())) (fun (a4 : ByteArray) => some (a4, 0))))))
def F15 : Fn := ⟨[.val (.slice (.agg (.pair (.str) (.slice (.str))))), .val (.slice (.agg (.pair (.str) (.str)))), .val (.str)], [.val (.str), .val (.int .i64)], S15⟩
def Γ15 : Ctx := ⟨alookup tys, alookup [(19, F19), (56, F56), (57, F57)], [], [], [], [], [], eqs, []⟩
theorem e15 (k : Nat) (x : PT [.val (.slice (.agg (.pair (.str) (.slice (.str))))), .val (.slice (.agg (.pair (.str) (.str)))), .val (.str)]) : S15 k x = runFn Γ15 k [.val (.slice (.agg (.pair (.str) (.slice (.str))))), .val (.slice (.agg (.pair (.str) (.str)))), .val (.str)] [.val (.str), .val (.int .i64)] Tryd.f15.ntmps Tryd.f15.results.toList (Tryd.f15.body.getD .skip) x := by kernel_rfl
theorem c15 : CtxOK Tryd.prog JS Γ15 := ⟨tysOK.get, AllL.get (l := [(19, F19), (56, F56), (57, F57)]) ⟨ok19, ok56, ok57, trivial⟩, by kernel_rfl, eqsOK⟩
theorem ok15 : FnOK Tryd.prog JS 15 F15 := fnOK_of c15 (fn := Tryd.f15) (c := Tryd.f15.body.getD .skip) rfl rfl rfl (by decide) e15
/-- smithyard/smithyardref3.within -/
def S100 (k : Nat) (x : PT [.val (.int .i64), .val (.int .i64), .val (.int .i64)]) : Option (OT [.val (.bool)]) :=
cnd (ile x.2.1 x.1) (some (ile x.1 x.2.2.1)) (some false)
def F100 : Fn := ⟨[.val (.int .i64), .val (.int .i64), .val (.int .i64)], [.val (.bool)], S100⟩
def Γ100 : Ctx := ⟨alookup tys, alookup [], [], [], [], [], [], eqs, []⟩
theorem e100 (k : Nat) (x : PT [.val (.int .i64), .val (.int .i64), .val (.int .i64)]) : S100 k x = runFn Γ100 k [.val (.int .i64), .val (.int .i64), .val (.int .i64)] [.val (.bool)] Tryd.f100.ntmps Tryd.f100.results.toList (Tryd.f100.body.getD .skip) x := by kernel_rfl
theorem c100 : CtxOK Tryd.prog JS Γ100 := ⟨tysOK.get, AllL.get (l := []) trivial, by kernel_rfl, eqsOK⟩
theorem ok100 : FnOK Tryd.prog JS 100 F100 := fnOK_of c100 (fn := Tryd.f100) (c := Tryd.f100.body.getD .skip) rfl rfl rfl (by decide) e100
/-- smithyard/smithyardref3.IsWord -/
def S62 (k : Nat) (x : PT [.val (.str)]) : Option (OT [.val (.bool)]) :=
jn (fun (a2 : (Unit → (Option Bool))) => bnd (S100 k (ssz x.1, 1, 40, ())) (fun (a3 : Bool) => cnd (bnot a3) (some false) (bnd (bt? x.1 0) (fun (a4 : Int) => cnd (ilt a4 97) (some false) (bnd (bt? x.1 0) (fun (a5 : Int) => cnd (igt a5 122) (some false) (a2 ()))))))) (fun (a2 : Unit) => loopN k (fun (a3 : (Int → (Option Bool))) (a4 : Int) => cnd (ilt a4 (ssz x.1)) (bnd (bt? x.1 a4) (fun (a5 : Int) => jn (fun (a6 : (Bool → (Option Bool))) => cnd (ilt a5 97) (cnd (ilt a5 48) (cnd (ine a5 45) (a6 (ine a5 95)) (a6 false)) (cnd (igt a5 57) (cnd (ine a5 45) (a6 (ine a5 95)) (a6 false)) (a6 false))) (cnd (igt a5 122) (cnd (ilt a5 48) (cnd (ine a5 45) (a6 (ine a5 95)) (a6 false)) (cnd (igt a5 57) (cnd (ine a5 45) (a6 (ine a5 95)) (a6 false)) (a6 false))) (a6 false))) (fun (a6 : Bool) => cnd a6 (some false) (a3 (iadd Go.IntKind.i64 a4 1))))) (some true)) 0)
def F62 : Fn := ⟨[.val (.str)], [.val (.bool)], S62⟩
def Γ62 : Ctx := ⟨alookup tys, alookup [(100, F100)], [(4, [21], [])], [], [], [], [], eqs, [(8, [], [48], [.val (.bool)], []), (3, [], [], [], [])]⟩
theorem e62 (k : Nat) (x : PT [.val (.str)]) : S62 k x = runFn Γ62 k [.val (.str)] [.val (.bool)] Tryd.f62.ntmps Tryd.f62.results.toList (Tryd.f62.body.getD .skip) x := by kernel_rfl
theorem c62 : CtxOK Tryd.prog JS Γ62 := ⟨tysOK.get, AllL.get (l := [(100, F100)]) ⟨ok100, trivial⟩, by kernel_rfl, eqsOK⟩
theorem ok62 : FnOK Tryd.prog JS 62 F62 := fnOK_of c62 (fn := Tryd.f62) (c := Tryd.f62.body.getD .skip) rfl rfl rfl (by decide) e62
/-- smithyard/smithyardref3.CheckSettings -/
def S18 (k : Nat) (x : PT [.val (.slice (.agg (.pair (.str) (.slice (.str)))))]) : Option (OT [.val (.int .i64)]) :=
cnd (igt (len x.1) 30) (some 2) (loopN k (fun (a2 : (Int → (Option Int))) (a3 : Int) => cnd (ilt a3 (len x.1)) (bnd (at? x.1 a3) (fun (a4 : (ByteArray × (List ByteArray))) => bnd (S62 k (a4.1, ())) (fun (a5 : Bool) => cnd (bnot a5) (some 5) (cnd (ieq (len a4.2) 0) (some 9) (cnd (igt (len a4.2) 20) (some 2) (loopN k (fun (a6 : (Int → (Option Int))) (a7 : Int) => cnd (ilt a7 (len a4.2)) (bnd (at? a4.2 a7) (fun (a8 : ByteArray) => bnd (S62 k (a8, ())) (fun (a9 : Bool) => cnd (bnot a9) (some 5) (bnd (cut? a4.2 0 a7) (fun (a10 : (List ByteArray)) => bnd (S61 k (a10, a8, ())) (fun (a11 : Bool) => cnd a11 (some 7) (a6 (iadd Go.IntKind.i64 a7 1)))))))) (cnd (igt a3 0) (bnd (at? x.1 (isub Go.IntKind.i64 a3 1)) (fun (a8 : (ByteArray × (List ByteArray))) => cnd (sle a4.1 a8.1) (some 8) (a2 (iadd Go.IntKind.i64 a3 1)))) (a2 (iadd Go.IntKind.i64 a3 1)))) 0)))))) (some 0)) 0)
def F18 : Fn := ⟨[.val (.slice (.agg (.pair (.str) (.slice (.str)))))], [.val (.int .i64)], S18⟩
def Γ18 : Ctx := ⟨alookup tys, alookup [(62, F62), (61, F61)], [(4, [12], []), (13, [35], [])], [(4, [10]), (13, [10, 33])], [(20, 11)], [], [], eqs, []⟩
theorem e18 (k : Nat) (x : PT [.val (.slice (.agg (.pair (.str) (.slice (.str)))))]) : S18 k x = runFn Γ18 k [.val (.slice (.agg (.pair (.str) (.slice (.str)))))] [.val (.int .i64)] Tryd.f18.ntmps Tryd.f18.results.toList (Tryd.f18.body.getD .skip) x := by kernel_rfl
theorem c18 : CtxOK Tryd.prog JS Γ18 := ⟨tysOK.get, AllL.get (l := [(62, F62), (61, F61)]) ⟨ok62, ok61, trivial⟩, by kernel_rfl, eqsOK⟩
theorem ok18 : FnOK Tryd.prog JS 18 F18 := fnOK_of c18 (fn := Tryd.f18) (c := Tryd.f18.body.getD .skip) rfl rfl rfl (by decide) e18
/-- smithyard/smithyardref3.settingOf -/
def S58 (k : Nat) (x : PT [.val (.slice (.agg (.pair (.str) (.slice (.str))))), .val (.str)]) : Option (OT [.val (.agg (.pair (.str) (.slice (.str)))), .val (.bool)]) :=
loopN k (fun (a2 : ((Int × (ByteArray × (List ByteArray))) → (Option ((ByteArray × (List ByteArray)) × Bool)))) (a3 : (Int × (ByteArray × (List ByteArray)))) => cnd (ilt a3.1 (len x.1)) (bnd (at? x.1 a3.1) (fun (a4 : (ByteArray × (List ByteArray))) => cnd (seq a4.1 x.2.1) (some ((a4.1, a4.2), true)) (a2 (iadd Go.IntKind.i64 a3.1 1, a3.2.1, a3.2.2)))) (some (((⟨#[]⟩ : ByteArray), ([] : List ByteArray)), false))) (0, (⟨#[]⟩ : ByteArray), ([] : List ByteArray))
def F58 : Fn := ⟨[.val (.slice (.agg (.pair (.str) (.slice (.str))))), .val (.str)], [.val (.agg (.pair (.str) (.slice (.str)))), .val (.bool)], S58⟩
def Γ58 : Ctx := ⟨alookup tys, alookup [], [(2, [10], [4])], [(2, [8])], [], [], [], eqs, []⟩
theorem e58 (k : Nat) (x : PT [.val (.slice (.agg (.pair (.str) (.slice (.str))))), .val (.str)]) : S58 k x = runFn Γ58 k [.val (.slice (.agg (.pair (.str) (.slice (.str))))), .val (.str)] [.val (.agg (.pair (.str) (.slice (.str)))), .val (.bool)] Tryd.f58.ntmps Tryd.f58.results.toList (Tryd.f58.body.getD .skip) x := by kernel_rfl
theorem c58 : CtxOK Tryd.prog JS Γ58 := ⟨tysOK.get, AllL.get (l := []) trivial, by kernel_rfl, eqsOK⟩
theorem ok58 : FnOK Tryd.prog JS 58 F58 := fnOK_of c58 (fn := Tryd.f58) (c := Tryd.f58.body.getD .skip) rfl rfl rfl (by decide) e58
/-- smithyard/smithyardref3.CheckConfig -/
def S20 (k : Nat) (x : PT [.val (.slice (.agg (.pair (.str) (.slice (.str))))), .val (.slice (.agg (.pair (.str) (.str))))]) : Option (OT [.val (.int .i64)]) :=
bnd (S18 k (x.1, ())) (fun (a2 : Int) => cnd (ine a2 0) (some a2) (loopN k (fun (a3 : (Int → (Option Int))) (a4 : Int) => cnd (ilt a4 (len x.2.1)) (bnd (at? x.2.1 a4) (fun (a5 : (ByteArray × ByteArray)) => bnd (S58 k (x.1, a5.1, ())) (fun (a6 : ((ByteArray × (List ByteArray)) × Bool)) => cnd (bnot a6.2) (some 5) (bnd (S61 k (a6.1.2, a5.2, ())) (fun (a7 : Bool) => cnd (bnot a7) (some 1) (bnd (at? a6.1.2 0) (fun (a8 : ByteArray) => cnd (seq a8 a5.2) (some 3) (cnd (igt a4 0) (bnd (at? x.2.1 (isub Go.IntKind.i64 a4 1)) (fun (a9 : (ByteArray × ByteArray)) => cnd (sle a5.1 a9.1) (some 8) (a3 (iadd Go.IntKind.i64 a4 1)))) (a3 (iadd Go.IntKind.i64 a4 1)))))))))) (some 0)) 0))
def F20 : Fn := ⟨[.val (.slice (.agg (.pair (.str) (.slice (.str))))), .val (.slice (.agg (.pair (.str) (.str))))], [.val (.int .i64)], S20⟩
def Γ20 : Ctx := ⟨alookup tys, alookup [(18, F18), (58, F58), (61, F61)], [(5, [17], [])], [(5, [15])], [(12, 6), (14, 11)], [], [], eqs, []⟩
theorem e20 (k : Nat) (x : PT [.val (.slice (.agg (.pair (.str) (.slice (.str))))), .val (.slice (.agg (.pair (.str) (.str))))]) : S20 k x = runFn Γ20 k [.val (.slice (.agg (.pair (.str) (.slice (.str))))), .val (.slice (.agg (.pair (.str) (.str))))] [.val (.int .i64)] Tryd.f20.ntmps Tryd.f20.results.toList (Tryd.f20.body.getD .skip) x := by kernel_rfl
theorem c20 : CtxOK Tryd.prog JS Γ20 := ⟨tysOK.get, AllL.get (l := [(18, F18), (58, F58), (61, F61)]) ⟨ok18, ok58, ok61, trivial⟩, by kernel_rfl, eqsOK⟩
theorem ok20 : FnOK Tryd.prog JS 20 F20 := fnOK_of c20 (fn := Tryd.f20) (c := Tryd.f20.body.getD .skip) rfl rfl rfl (by decide) e20
/-- smithyard/smithyardref3.valueOf -/
def S59 (k : Nat) (x : PT [.val (.slice (.agg (.pair (.str) (.slice (.str))))), .val (.slice (.agg (.pair (.str) (.str)))), .val (.str)]) : Option (OT [.val (.str)]) :=
loopN k (fun (a2 : (Int → (Option ByteArray))) (a3 : Int) => cnd (ilt a3 (len x.2.1)) (bnd (at? x.2.1 a3) (fun (a4 : (ByteArray × ByteArray)) => cnd (seq a4.1 x.2.2.1) (some a4.2) (a2 (iadd Go.IntKind.i64 a3 1)))) (bnd (S58 k (x.1, x.2.2.1, ())) (fun (a4 : ((ByteArray × (List ByteArray)) × Bool)) => bnd (at? a4.1.2 0) (fun (a5 : ByteArray) => some a5)))) 0
def F59 : Fn := ⟨[.val (.slice (.agg (.pair (.str) (.slice (.str))))), .val (.slice (.agg (.pair (.str) (.str)))), .val (.str)], [.val (.str)], S59⟩
def Γ59 : Ctx := ⟨alookup tys, alookup [(58, F58)], [(2, [13], [])], [(2, [11])], [], [], [], eqs, []⟩
theorem e59 (k : Nat) (x : PT [.val (.slice (.agg (.pair (.str) (.slice (.str))))), .val (.slice (.agg (.pair (.str) (.str)))), .val (.str)]) : S59 k x = runFn Γ59 k [.val (.slice (.agg (.pair (.str) (.slice (.str))))), .val (.slice (.agg (.pair (.str) (.str)))), .val (.str)] [.val (.str)] Tryd.f59.ntmps Tryd.f59.results.toList (Tryd.f59.body.getD .skip) x := by kernel_rfl
theorem c59 : CtxOK Tryd.prog JS Γ59 := ⟨tysOK.get, AllL.get (l := [(58, F58)]) ⟨ok58, trivial⟩, by kernel_rfl, eqsOK⟩
theorem ok59 : FnOK Tryd.prog JS 59 F59 := fnOK_of c59 (fn := Tryd.f59) (c := Tryd.f59.body.getD .skip) rfl rfl rfl (by decide) e59
/-- smithyard/smithyardref3.ValueOf -/
def S16 (k : Nat) (x : PT [.val (.slice (.agg (.pair (.str) (.slice (.str))))), .val (.slice (.agg (.pair (.str) (.str)))), .val (.str)]) : Option (OT [.val (.str), .val (.int .i64)]) :=
bnd (S20 k (x.1, x.2.1, ())) (fun (a2 : Int) => cnd (ine a2 0) (some ((⟨#[]⟩ : ByteArray), a2)) (bnd (S58 k (x.1, x.2.2.1, ())) (fun (a3 : ((ByteArray × (List ByteArray)) × Bool)) => cnd (bnot a3.2) (some ((⟨#[]⟩ : ByteArray), 5)) (bnd (S59 k (x.1, x.2.1, x.2.2.1, ())) (fun (a4 : ByteArray) => some (a4, 0))))))
def F16 : Fn := ⟨[.val (.slice (.agg (.pair (.str) (.slice (.str))))), .val (.slice (.agg (.pair (.str) (.str)))), .val (.str)], [.val (.str), .val (.int .i64)], S16⟩
def Γ16 : Ctx := ⟨alookup tys, alookup [(20, F20), (58, F58), (59, F59)], [], [], [], [], [], eqs, []⟩
theorem e16 (k : Nat) (x : PT [.val (.slice (.agg (.pair (.str) (.slice (.str))))), .val (.slice (.agg (.pair (.str) (.str)))), .val (.str)]) : S16 k x = runFn Γ16 k [.val (.slice (.agg (.pair (.str) (.slice (.str))))), .val (.slice (.agg (.pair (.str) (.str)))), .val (.str)] [.val (.str), .val (.int .i64)] Tryd.f16.ntmps Tryd.f16.results.toList (Tryd.f16.body.getD .skip) x := by kernel_rfl
theorem c16 : CtxOK Tryd.prog JS Γ16 := ⟨tysOK.get, AllL.get (l := [(20, F20), (58, F58), (59, F59)]) ⟨ok20, ok58, ok59, trivial⟩, by kernel_rfl, eqsOK⟩
theorem ok16 : FnOK Tryd.prog JS 16 F16 := fnOK_of c16 (fn := Tryd.f16) (c := Tryd.f16.body.getD .skip) rfl rfl rfl (by decide) e16
/-- slices.Equal[[]string,string] -/
def S31 (k : Nat) (x : PT [.val (.slice (.str)), .val (.slice (.str))]) : Option (OT [.val (.bool)]) :=
cnd (ine (len x.1) (len x.2.1)) (some false) (loopN k (fun (a2 : (Int → (Option Bool))) (a3 : Int) => cnd (ilt a3 (len x.1)) (bnd (at? x.1 a3) (fun (a4 : ByteArray) => bnd (at? x.2.1 a3) (fun (a5 : ByteArray) => cnd (sne a4 a5) (some false) (a2 (iadd Go.IntKind.i64 a3 1))))) (some true)) 0)
def F31 : Fn := ⟨[.val (.slice (.str)), .val (.slice (.str))], [.val (.bool)], S31⟩
def Γ31 : Ctx := ⟨alookup tys, alookup [], [(4, [13], [])], [], [(6, 8)], [], [], eqs, []⟩
theorem e31 (k : Nat) (x : PT [.val (.slice (.str)), .val (.slice (.str))]) : S31 k x = runFn Γ31 k [.val (.slice (.str)), .val (.slice (.str))] [.val (.bool)] Tryd.f31.ntmps Tryd.f31.results.toList (Tryd.f31.body.getD .skip) x := by kernel_rfl
theorem c31 : CtxOK Tryd.prog JS Γ31 := ⟨tysOK.get, AllL.get (l := []) trivial, by kernel_rfl, eqsOK⟩
theorem ok31 : FnOK Tryd.prog JS 31 F31 := fnOK_of c31 (fn := Tryd.f31) (c := Tryd.f31.body.getD .skip) rfl rfl rfl (by decide) e31
/-- smithyard/smithyardref3.SameSettings -/
def S21 (k : Nat) (x : PT [.val (.slice (.agg (.pair (.str) (.slice (.str))))), .val (.slice (.agg (.pair (.str) (.slice (.str)))))]) : Option (OT [.val (.bool)]) :=
cnd (ine (len x.1) (len x.2.1)) (some false) (loopN k (fun (a2 : (Int → (Option Bool))) (a3 : Int) => cnd (ilt a3 (len x.1)) (bnd (at? x.1 a3) (fun (a4 : (ByteArray × (List ByteArray))) => bnd (at? x.2.1 a3) (fun (a5 : (ByteArray × (List ByteArray))) => cnd (sne a4.1 a5.1) (some false) (bnd (at? x.1 a3) (fun (a6 : (ByteArray × (List ByteArray))) => bnd (at? x.2.1 a3) (fun (a7 : (ByteArray × (List ByteArray))) => bnd (S31 k (a6.2, a7.2, ())) (fun (a8 : Bool) => cnd (bnot a8) (some false) (a2 (iadd Go.IntKind.i64 a3 1))))))))) (some true)) 0)
def F21 : Fn := ⟨[.val (.slice (.agg (.pair (.str) (.slice (.str))))), .val (.slice (.agg (.pair (.str) (.slice (.str)))))], [.val (.bool)], S21⟩
def Γ21 : Ctx := ⟨alookup tys, alookup [(31, F31)], [(4, [13], [])], [], [(6, 22)], [], [], eqs, []⟩
theorem e21 (k : Nat) (x : PT [.val (.slice (.agg (.pair (.str) (.slice (.str))))), .val (.slice (.agg (.pair (.str) (.slice (.str)))))]) : S21 k x = runFn Γ21 k [.val (.slice (.agg (.pair (.str) (.slice (.str))))), .val (.slice (.agg (.pair (.str) (.slice (.str)))))] [.val (.bool)] Tryd.f21.ntmps Tryd.f21.results.toList (Tryd.f21.body.getD .skip) x := by kernel_rfl
theorem c21 : CtxOK Tryd.prog JS Γ21 := ⟨tysOK.get, AllL.get (l := [(31, F31)]) ⟨ok31, trivial⟩, by kernel_rfl, eqsOK⟩
theorem ok21 : FnOK Tryd.prog JS 21 F21 := fnOK_of c21 (fn := Tryd.f21) (c := Tryd.f21.body.getD .skip) rfl rfl rfl (by decide) e21
/-- slices.Equal[[]smithyard/api.Pair,smithyard/api.Pair] -/
def S22 (k : Nat) (x : PT [.val (.slice (.agg (.pair (.str) (.str)))), .val (.slice (.agg (.pair (.str) (.str))))]) : Option (OT [.val (.bool)]) :=
cnd (ine (len x.1) (len x.2.1)) (some false) (loopN k (fun (a2 : (Int → (Option Bool))) (a3 : Int) => cnd (ilt a3 (len x.1)) (bnd (at? x.1 a3) (fun (a4 : (ByteArray × ByteArray)) => bnd (at? x.2.1 a3) (fun (a5 : (ByteArray × ByteArray)) => cnd (bnot (kbeq (Kd.agg (Kd.pair Kd.str Kd.str)) a4 a5)) (some false) (a2 (iadd Go.IntKind.i64 a3 1))))) (some true)) 0)
def F22 : Fn := ⟨[.val (.slice (.agg (.pair (.str) (.str)))), .val (.slice (.agg (.pair (.str) (.str))))], [.val (.bool)], S22⟩
def Γ22 : Ctx := ⟨alookup tys, alookup [], [(4, [13], [])], [], [(6, 8)], [], [], eqs, []⟩
theorem e22 (k : Nat) (x : PT [.val (.slice (.agg (.pair (.str) (.str)))), .val (.slice (.agg (.pair (.str) (.str))))]) : S22 k x = runFn Γ22 k [.val (.slice (.agg (.pair (.str) (.str)))), .val (.slice (.agg (.pair (.str) (.str))))] [.val (.bool)] Tryd.f22.ntmps Tryd.f22.results.toList (Tryd.f22.body.getD .skip) x := by kernel_rfl
theorem c22 : CtxOK Tryd.prog JS Γ22 := ⟨tysOK.get, AllL.get (l := []) trivial, by kernel_rfl, eqsOK⟩
theorem ok22 : FnOK Tryd.prog JS 22 F22 := fnOK_of c22 (fn := Tryd.f22) (c := Tryd.f22.body.getD .skip) rfl rfl rfl (by decide) e22
/-- smithyard/config.ConfigText -/
def S45 (k : Nat) (x : PT [.val (.slice (.agg (.pair (.str) (.slice (.str))))), .val (.slice (.agg (.pair (.str) (.str))))]) : Option (OT [.val (.str), .val (.int .i64)]) :=
bnd (S19 k (x.1, x.2.1, ())) (fun (a2 : Int) => cnd (ine a2 0) (some ((⟨#[]⟩ : ByteArray), a2)) (cnd (ieq (len x.2.1) 0) (some ((⟨#[45]⟩ : ByteArray), 0)) (loopN k (fun (a3 : (((List ByteArray) × Int) → (Option (ByteArray × Int)))) (a4 : ((List ByteArray) × Int)) => cnd (ilt a4.2 (len x.2.1)) (bnd (at? x.2.1 a4.2) (fun (a5 : (ByteArray × ByteArray)) => bnd (cat? a5.1 (⟨#[61]⟩ : ByteArray)) (fun (a6 : ByteArray) => bnd (cat? a6 a5.2) (fun (a7 : ByteArray) => bnd (app? 16 a4.1 (a7 :: ([] : List ByteArray))) (fun (a8 : (List ByteArray)) => a3 (a8, iadd Go.IntKind.i64 a4.2 1)))))) (bnd (S83 k (a4.1, (⟨#[44]⟩ : ByteArray), ())) (fun (a5 : ByteArray) => some (a5, 0)))) (([] : List ByteArray), 0))))
def F45 : Fn := ⟨[.val (.slice (.agg (.pair (.str) (.slice (.str))))), .val (.slice (.agg (.pair (.str) (.str))))], [.val (.str), .val (.int .i64)], S45⟩
def Γ45 : Ctx := ⟨alookup tys, alookup [(19, F19), (83, F83)], [(8, [7, 21], [])], [(8, [19])], [], [], [32], eqs, []⟩
theorem e45 (k : Nat) (x : PT [.val (.slice (.agg (.pair (.str) (.slice (.str))))), .val (.slice (.agg (.pair (.str) (.str))))]) : S45 k x = runFn Γ45 k [.val (.slice (.agg (.pair (.str) (.slice (.str))))), .val (.slice (.agg (.pair (.str) (.str))))] [.val (.str), .val (.int .i64)] Tryd.f45.ntmps Tryd.f45.results.toList (Tryd.f45.body.getD .skip) x := by kernel_rfl
theorem c45 : CtxOK Tryd.prog JS Γ45 := ⟨tysOK.get, AllL.get (l := [(19, F19), (83, F83)]) ⟨ok19, ok83, trivial⟩, by kernel_rfl, eqsOK⟩
theorem ok45 : FnOK Tryd.prog JS 45 F45 := fnOK_of c45 (fn := Tryd.f45) (c := Tryd.f45.body.getD .skip) rfl rfl rfl (by decide) e45
/-- smithyard/smithyardlaw3.awake -/
def S23 (k : Nat) (x : PT []) : Option (OT [.val (.bool)]) :=
bnd (S45 k ((((⟨#[109]⟩ : ByteArray), ((⟨#[97]⟩ : ByteArray) :: ((⟨#[98]⟩ : ByteArray) :: ([] : List ByteArray)))) :: ([] : List (ByteArray × (List ByteArray)))), (((⟨#[109]⟩ : ByteArray), (⟨#[98]⟩ : ByteArray)) :: ([] : List (ByteArray × ByteArray))), ())) (fun (a2 : (ByteArray × Int)) => cnd (ieq a2.2 0) (some (seq a2.1 (⟨#[109, 61, 98]⟩ : ByteArray))) (some false))
def F23 : Fn := ⟨[], [.val (.bool)], S23⟩
def Γ23 : Ctx := ⟨alookup tys, alookup [(45, F45)], [], [], [], [], [4, 6, 8], eqs, []⟩
theorem e23 (k : Nat) (x : PT []) : S23 k x = runFn Γ23 k [] [.val (.bool)] Tryd.f23.ntmps Tryd.f23.results.toList (Tryd.f23.body.getD .skip) x := by kernel_rfl
theorem c23 : CtxOK Tryd.prog JS Γ23 := ⟨tysOK.get, AllL.get (l := [(45, F45)]) ⟨ok45, trivial⟩, by kernel_rfl, eqsOK⟩
theorem ok23 : FnOK Tryd.prog JS 23 F23 := fnOK_of c23 (fn := Tryd.f23) (c := Tryd.f23.body.getD .skip) rfl rfl rfl (by decide) e23
/-- smithyard/smithyardlaw3.ConfigChecksMatchSpec -/
def S3 (k : Nat) (x : PT [.val (.slice (.agg (.pair (.str) (.slice (.str))))), .val (.slice (.agg (.pair (.str) (.str)))), .val (.str)]) : Option (OT [.val (.bool)]) :=
bnd (S13 k (x.1, ())) (fun (a2 : (List (ByteArray × (List ByteArray)))) => bnd (S14 k (x.2.1, ())) (fun (a3 : (List (ByteArray × ByteArray))) => bnd (S15 k (x.1, x.2.1, x.2.2.1, ())) (fun (a4 : (ByteArray × Int)) => bnd (S16 k (a2, a3, x.2.2.1, ())) (fun (a5 : (ByteArray × Int)) => bnd (S17 k (x.1, ())) (fun (a6 : Int) => bnd (S18 k (a2, ())) (fun (a7 : Int) => cnd (ieq a6 a7) (bnd (S19 k (x.1, x.2.1, ())) (fun (a8 : Int) => bnd (S20 k (a2, a3, ())) (fun (a9 : Int) => cnd (ieq a8 a9) (cnd (ieq a4.2 a5.2) (cnd (seq a4.1 a5.1) (bnd (S21 k (x.1, a2, ())) (fun (a10 : Bool) => cnd a10 (bnd (S22 k (x.2.1, a3, ())) (fun (a11 : Bool) => cnd a11 (bnd (S23 k ()) (fun (a12 : Bool) => some a12)) (some false))) (some false))) (some false)) (some false)) (some false)))) (some false)))))))
def F3 : Fn := ⟨[.val (.slice (.agg (.pair (.str) (.slice (.str))))), .val (.slice (.agg (.pair (.str) (.str)))), .val (.str)], [.val (.bool)], S3⟩
def Γ3 : Ctx := ⟨alookup tys, alookup [(13, F13), (14, F14), (15, F15), (16, F16), (17, F17), (18, F18), (19, F19), (20, F20), (21, F21), (22, F22), (23, F23)], [], [], [], [], [7, 8, 14, 16], eqs, []⟩
theorem e3 (k : Nat) (x : PT [.val (.slice (.agg (.pair (.str) (.slice (.str))))), .val (.slice (.agg (.pair (.str) (.str)))), .val (.str)]) : S3 k x = runFn Γ3 k [.val (.slice (.agg (.pair (.str) (.slice (.str))))), .val (.slice (.agg (.pair (.str) (.str)))), .val (.str)] [.val (.bool)] Tryd.f3.ntmps Tryd.f3.results.toList (Tryd.f3.body.getD .skip) x := by kernel_rfl
theorem c3 : CtxOK Tryd.prog JS Γ3 := ⟨tysOK.get, AllL.get (l := [(13, F13), (14, F14), (15, F15), (16, F16), (17, F17), (18, F18), (19, F19), (20, F20), (21, F21), (22, F22), (23, F23)]) ⟨ok13, ok14, ok15, ok16, ok17, ok18, ok19, ok20, ok21, ok22, ok23, trivial⟩, by kernel_rfl, eqsOK⟩
theorem ok3 : FnOK Tryd.prog JS 3 F3 := fnOK_of c3 (fn := Tryd.f3) (c := Tryd.f3.body.getD .skip) rfl rfl rfl (by decide) e3
/-- smithyard/smithyardref3.ConfigText -/
def S46 (k : Nat) (x : PT [.val (.slice (.agg (.pair (.str) (.slice (.str))))), .val (.slice (.agg (.pair (.str) (.str))))]) : Option (OT [.val (.str), .val (.int .i64)]) :=
bnd (S20 k (x.1, x.2.1, ())) (fun (a2 : Int) => cnd (ine a2 0) (some ((⟨#[]⟩ : ByteArray), a2)) (cnd (ieq (len x.2.1) 0) (some ((⟨#[45]⟩ : ByteArray), 0)) (loopN k (fun (a3 : (((List ByteArray) × Int) → (Option (ByteArray × Int)))) (a4 : ((List ByteArray) × Int)) => cnd (ilt a4.2 (len x.2.1)) (bnd (at? x.2.1 a4.2) (fun (a5 : (ByteArray × ByteArray)) => bnd (cat? a5.1 (⟨#[61]⟩ : ByteArray)) (fun (a6 : ByteArray) => bnd (cat? a6 a5.2) (fun (a7 : ByteArray) => bnd (app? 16 a4.1 (a7 :: ([] : List ByteArray))) (fun (a8 : (List ByteArray)) => a3 (a8, iadd Go.IntKind.i64 a4.2 1)))))) (bnd (S83 k (a4.1, (⟨#[44]⟩ : ByteArray), ())) (fun (a5 : ByteArray) => some (a5, 0)))) (([] : List ByteArray), 0))))
def F46 : Fn := ⟨[.val (.slice (.agg (.pair (.str) (.slice (.str))))), .val (.slice (.agg (.pair (.str) (.str))))], [.val (.str), .val (.int .i64)], S46⟩
def Γ46 : Ctx := ⟨alookup tys, alookup [(20, F20), (83, F83)], [(8, [7, 21], [])], [(8, [19])], [], [], [32], eqs, []⟩
theorem e46 (k : Nat) (x : PT [.val (.slice (.agg (.pair (.str) (.slice (.str))))), .val (.slice (.agg (.pair (.str) (.str))))]) : S46 k x = runFn Γ46 k [.val (.slice (.agg (.pair (.str) (.slice (.str))))), .val (.slice (.agg (.pair (.str) (.str))))] [.val (.str), .val (.int .i64)] Tryd.f46.ntmps Tryd.f46.results.toList (Tryd.f46.body.getD .skip) x := by kernel_rfl
theorem c46 : CtxOK Tryd.prog JS Γ46 := ⟨tysOK.get, AllL.get (l := [(20, F20), (83, F83)]) ⟨ok20, ok83, trivial⟩, by kernel_rfl, eqsOK⟩
theorem ok46 : FnOK Tryd.prog JS 46 F46 := fnOK_of c46 (fn := Tryd.f46) (c := Tryd.f46.body.getD .skip) rfl rfl rfl (by decide) e46
/-- smithyard/config.ReadConfig -/
def S47 (k : Nat) (x : PT [.val (.slice (.agg (.pair (.str) (.slice (.str))))), .val (.str)]) : Option (OT [.val (.slice (.agg (.pair (.str) (.str)))), .val (.int .i64), .val (.int .i64)]) :=
bnd (S17 k (x.1, ())) (fun (a2 : Int) => cnd (ine a2 0) (some (([] : List (ByteArray × ByteArray)), 0, a2)) (cnd (seq x.2.1 (⟨#[45]⟩ : ByteArray)) (some (([] : List (ByteArray × ByteArray)), 0, 0)) (bnd (S84 k (x.2.1, (⟨#[44]⟩ : ByteArray), ())) (fun (a3 : (List ByteArray)) => loopN k (fun (a4 : (((List (ByteArray × ByteArray)) × (Int × Int)) → (Option ((List (ByteArray × ByteArray)) × (Int × Int))))) (a5 : ((List (ByteArray × ByteArray)) × (Int × Int))) => cnd (ilt a5.2.2 (len a3)) (bnd (at? a3 a5.2.2) (fun (a6 : ByteArray) => bnd (S85 k (a6, (⟨#[61]⟩ : ByteArray), ())) (fun (a7 : (ByteArray × (ByteArray × Bool))) => jn (fun (a8 : (Bool → (Option ((List (ByteArray × ByteArray)) × (Int × Int))))) => cnd (bnot a7.2.2) (a8 true) (bnd (S60 k (a7.1, ())) (fun (a9 : Bool) => cnd (bnot a9) (a8 true) (bnd (S60 k (a7.2.1, ())) (fun (a10 : Bool) => a8 (bnot a10)))))) (fun (a8 : Bool) => cnd a8 (some (([] : List (ByteArray × ByteArray)), a5.2.1, 10)) (bnd (app? 32 a5.1 ((a7.1, a7.2.1) :: ([] : List (ByteArray × ByteArray)))) (fun (a9 : (List (ByteArray × ByteArray))) => a4 (a9, iadd Go.IntKind.i64 a5.2.1 (iadd Go.IntKind.i64 (ssz a6) 1), iadd Go.IntKind.i64 a5.2.2 1))))))) (bnd (S63 k (x.1, a5.1, true, ())) (fun (a6 : Int) => cnd (ine a6 0) (some (([] : List (ByteArray × ByteArray)), 0, a6)) (some (a5.1, 0, 0))))) (([] : List (ByteArray × ByteArray)), 0, 0)))))
def F47 : Fn := ⟨[.val (.slice (.agg (.pair (.str) (.slice (.str))))), .val (.str)], [.val (.slice (.agg (.pair (.str) (.str)))), .val (.int .i64), .val (.int .i64)], S47⟩
def Γ47 : Ctx := ⟨alookup tys, alookup [(17, F17), (84, F84), (85, F85), (60, F60), (63, F63)], [(9, [8, 9, 26], [])], [(9, [24])], [], [], [4, 24, 53], eqs, [(13, [], [47], [.val (.bool)], [])]⟩
theorem e47 (k : Nat) (x : PT [.val (.slice (.agg (.pair (.str) (.slice (.str))))), .val (.str)]) : S47 k x = runFn Γ47 k [.val (.slice (.agg (.pair (.str) (.slice (.str))))), .val (.str)] [.val (.slice (.agg (.pair (.str) (.str)))), .val (.int .i64), .val (.int .i64)] Tryd.f47.ntmps Tryd.f47.results.toList (Tryd.f47.body.getD .skip) x := by kernel_rfl
theorem c47 : CtxOK Tryd.prog JS Γ47 := ⟨tysOK.get, AllL.get (l := [(17, F17), (84, F84), (85, F85), (60, F60), (63, F63)]) ⟨ok17, ok84, ok85, ok60, ok63, trivial⟩, by kernel_rfl, eqsOK⟩
theorem ok47 : FnOK Tryd.prog JS 47 F47 := fnOK_of c47 (fn := Tryd.f47) (c := Tryd.f47.body.getD .skip) rfl rfl rfl (by decide) e47
/-- smithyard/smithyardlaw3.ConfigTextsMatchSpec -/
def S8 (k : Nat) (x : PT [.val (.slice (.agg (.pair (.str) (.slice (.str))))), .val (.slice (.agg (.pair (.str) (.str))))]) : Option (OT [.val (.bool)]) :=
bnd (S13 k (x.1, ())) (fun (a2 : (List (ByteArray × (List ByteArray)))) => bnd (S14 k (x.2.1, ())) (fun (a3 : (List (ByteArray × ByteArray))) => bnd (S45 k (x.1, x.2.1, ())) (fun (a4 : (ByteArray × Int)) => bnd (S46 k (a2, a3, ())) (fun (a5 : (ByteArray × Int)) => jn (fun (a6 : (Bool → (Option Bool))) => cnd (ine a4.2 a5.2) (a6 true) (cnd (sne a4.1 a5.1) (a6 true) (bnd (S21 k (x.1, a2, ())) (fun (a7 : Bool) => cnd (bnot a7) (a6 true) (bnd (S22 k (x.2.1, a3, ())) (fun (a8 : Bool) => cnd (bnot a8) (a6 true) (bnd (S23 k ()) (fun (a9 : Bool) => a6 (bnot a9))))))))) (fun (a6 : Bool) => cnd a6 (some false) (cnd (ine a4.2 0) (some true) (bnd (S47 k (x.1, a4.1, ())) (fun (a7 : ((List (ByteArray × ByteArray)) × (Int × Int))) => cnd (ieq a7.2.2 0) (cnd (ieq a7.2.1 0) (bnd (S22 k (x.2.1, a7.1, ())) (fun (a8 : Bool) => some a8)) (some false)) (some false)))))))))
def F8 : Fn := ⟨[.val (.slice (.agg (.pair (.str) (.slice (.str))))), .val (.slice (.agg (.pair (.str) (.str))))], [.val (.bool)], S8⟩
def Γ8 : Ctx := ⟨alookup tys, alookup [(13, F13), (14, F14), (45, F45), (46, F46), (21, F21), (22, F22), (23, F23), (47, F47)], [], [], [], [], [5, 6, 11, 14, 16], eqs, [(5, [], [52], [.val (.bool)], [])]⟩
theorem e8 (k : Nat) (x : PT [.val (.slice (.agg (.pair (.str) (.slice (.str))))), .val (.slice (.agg (.pair (.str) (.str))))]) : S8 k x = runFn Γ8 k [.val (.slice (.agg (.pair (.str) (.slice (.str))))), .val (.slice (.agg (.pair (.str) (.str))))] [.val (.bool)] Tryd.f8.ntmps Tryd.f8.results.toList (Tryd.f8.body.getD .skip) x := by kernel_rfl
theorem c8 : CtxOK Tryd.prog JS Γ8 := ⟨tysOK.get, AllL.get (l := [(13, F13), (14, F14), (45, F45), (46, F46), (21, F21), (22, F22), (23, F23), (47, F47)]) ⟨ok13, ok14, ok45, ok46, ok21, ok22, ok23, ok47, trivial⟩, by kernel_rfl, eqsOK⟩
theorem ok8 : FnOK Tryd.prog JS 8 F8 := fnOK_of c8 (fn := Tryd.f8) (c := Tryd.f8.body.getD .skip) rfl rfl rfl (by decide) e8
/-- smithyard/smithyardref3.ReadConfig -/
def S48 (k : Nat) (x : PT [.val (.slice (.agg (.pair (.str) (.slice (.str))))), .val (.str)]) : Option (OT [.val (.slice (.agg (.pair (.str) (.str)))), .val (.int .i64), .val (.int .i64)]) :=
bnd (S18 k (x.1, ())) (fun (a2 : Int) => cnd (ine a2 0) (some (([] : List (ByteArray × ByteArray)), 0, a2)) (cnd (seq x.2.1 (⟨#[45]⟩ : ByteArray)) (some (([] : List (ByteArray × ByteArray)), 0, 0)) (bnd (S84 k (x.2.1, (⟨#[44]⟩ : ByteArray), ())) (fun (a3 : (List ByteArray)) => loopN k (fun (a4 : (((List (ByteArray × ByteArray)) × (Int × Int)) → (Option ((List (ByteArray × ByteArray)) × (Int × Int))))) (a5 : ((List (ByteArray × ByteArray)) × (Int × Int))) => cnd (ilt a5.2.2 (len a3)) (bnd (at? a3 a5.2.2) (fun (a6 : ByteArray) => bnd (S85 k (a6, (⟨#[61]⟩ : ByteArray), ())) (fun (a7 : (ByteArray × (ByteArray × Bool))) => jn (fun (a8 : (Bool → (Option ((List (ByteArray × ByteArray)) × (Int × Int))))) => cnd (bnot a7.2.2) (a8 true) (bnd (S62 k (a7.1, ())) (fun (a9 : Bool) => cnd (bnot a9) (a8 true) (bnd (S62 k (a7.2.1, ())) (fun (a10 : Bool) => a8 (bnot a10)))))) (fun (a8 : Bool) => cnd a8 (some (([] : List (ByteArray × ByteArray)), a5.2.1, 10)) (bnd (app? 32 a5.1 ((a7.1, a7.2.1) :: ([] : List (ByteArray × ByteArray)))) (fun (a9 : (List (ByteArray × ByteArray))) => a4 (a9, iadd Go.IntKind.i64 a5.2.1 (iadd Go.IntKind.i64 (ssz a6) 1), iadd Go.IntKind.i64 a5.2.2 1))))))) (bnd (S20 k (x.1, a5.1, ())) (fun (a6 : Int) => cnd (ine a6 0) (some (([] : List (ByteArray × ByteArray)), 0, a6)) (some (a5.1, 0, 0))))) (([] : List (ByteArray × ByteArray)), 0, 0)))))
def F48 : Fn := ⟨[.val (.slice (.agg (.pair (.str) (.slice (.str))))), .val (.str)], [.val (.slice (.agg (.pair (.str) (.str)))), .val (.int .i64), .val (.int .i64)], S48⟩
def Γ48 : Ctx := ⟨alookup tys, alookup [(18, F18), (84, F84), (85, F85), (62, F62), (20, F20)], [(9, [8, 9, 26], [])], [(9, [24])], [], [], [4, 24, 53], eqs, [(13, [], [47], [.val (.bool)], [])]⟩
theorem e48 (k : Nat) (x : PT [.val (.slice (.agg (.pair (.str) (.slice (.str))))), .val (.str)]) : S48 k x = runFn Γ48 k [.val (.slice (.agg (.pair (.str) (.slice (.str))))), .val (.str)] [.val (.slice (.agg (.pair (.str) (.str)))), .val (.int .i64), .val (.int .i64)] Tryd.f48.ntmps Tryd.f48.results.toList (Tryd.f48.body.getD .skip) x := by kernel_rfl
theorem c48 : CtxOK Tryd.prog JS Γ48 := ⟨tysOK.get, AllL.get (l := [(18, F18), (84, F84), (85, F85), (62, F62), (20, F20)]) ⟨ok18, ok84, ok85, ok62, ok20, trivial⟩, by kernel_rfl, eqsOK⟩
theorem ok48 : FnOK Tryd.prog JS 48 F48 := fnOK_of c48 (fn := Tryd.f48) (c := Tryd.f48.body.getD .skip) rfl rfl rfl (by decide) e48
/-- smithyard/smithyardlaw3.ConfigReadsMatchSpec -/
def S9 (k : Nat) (x : PT [.val (.slice (.agg (.pair (.str) (.slice (.str))))), .val (.str)]) : Option (OT [.val (.bool)]) :=
bnd (S13 k (x.1, ())) (fun (a2 : (List (ByteArray × (List ByteArray)))) => bnd (S47 k (x.1, x.2.1, ())) (fun (a3 : ((List (ByteArray × ByteArray)) × (Int × Int))) => bnd (S48 k (a2, x.2.1, ())) (fun (a4 : ((List (ByteArray × ByteArray)) × (Int × Int))) => cnd (ieq a3.2.2 a4.2.2) (cnd (ieq a3.2.1 a4.2.1) (bnd (S22 k (a3.1, a4.1, ())) (fun (a5 : Bool) => cnd a5 (bnd (S21 k (x.1, a2, ())) (fun (a6 : Bool) => cnd a6 (bnd (S23 k ()) (fun (a7 : Bool) => some a7)) (some false))) (some false))) (some false)) (some false))))
def F9 : Fn := ⟨[.val (.slice (.agg (.pair (.str) (.slice (.str))))), .val (.str)], [.val (.bool)], S9⟩
def Γ9 : Ctx := ⟨alookup tys, alookup [(13, F13), (47, F47), (48, F48), (22, F22), (21, F21), (23, F23)], [], [], [], [], [5, 6, 9, 13], eqs, []⟩
theorem e9 (k : Nat) (x : PT [.val (.slice (.agg (.pair (.str) (.slice (.str))))), .val (.str)]) : S9 k x = runFn Γ9 k [.val (.slice (.agg (.pair (.str) (.slice (.str))))), .val (.str)] [.val (.bool)] Tryd.f9.ntmps Tryd.f9.results.toList (Tryd.f9.body.getD .skip) x := by kernel_rfl
theorem c9 : CtxOK Tryd.prog JS Γ9 := ⟨tysOK.get, AllL.get (l := [(13, F13), (47, F47), (48, F48), (22, F22), (21, F21), (23, F23)]) ⟨ok13, ok47, ok48, ok22, ok21, ok23, trivial⟩, by kernel_rfl, eqsOK⟩
theorem ok9 : FnOK Tryd.prog JS 9 F9 := fnOK_of c9 (fn := Tryd.f9) (c := Tryd.f9.body.getD .skip) rfl rfl rfl (by decide) e9
end Go.Proofs.YtklmkonpilkfnaaDoor.Ev
