/- Slt: the functions as plain Lean, and that they are the program's (printed by this session's own wip/ev/gen.py) -/
import Derived.Test.YtocgdpnealaoeaaDoorEv2
import Derived.Test.YtocgdpnealaoeaaDoorProg
import Derived.Test.YtocgdpnealaoeaaDoorGvSlc
namespace Go.Proofs.YtocgdpnealaoeaaDoor.Ev
open Go Go.Proofs Go.RowKit
set_option linter.unusedVariables false
set_option maxRecDepth 100000
theorem ty_2 : TyOK Tryd.prog 2 ⟨.int .i64, [], 0, 0, 0⟩ := ⟨⟨rfl, rfl, ⟨_, rfl, rfl, _, rfl, rfl⟩, ⟨_, rfl, rfl⟩⟩, rfl⟩
theorem ty_3 : TyOK Tryd.prog 3 ⟨.int .i64, [], 0, 0, 0⟩ := ⟨⟨rfl, rfl, ⟨_, rfl, rfl, _, rfl, rfl⟩, ⟨_, rfl, rfl⟩⟩, rfl⟩
theorem ty_4 : TyOK Tryd.prog 4 ⟨.bool, [], 0, 0, 0⟩ := ⟨⟨rfl, rfl, ⟨_, rfl, rfl, _, rfl, rfl⟩, ⟨_, rfl, rfl⟩⟩, rfl⟩
theorem ty_5 : TyOK Tryd.prog 5 ⟨.int .u8, [], 0, 0, 0⟩ := ⟨⟨rfl, rfl, ⟨_, rfl, rfl, _, rfl, rfl⟩, ⟨_, rfl, rfl⟩⟩, rfl⟩
theorem ty_9 : TyOK Tryd.prog 9 ⟨.str, [], 0, 0, 0⟩ := ⟨⟨rfl, rfl, ⟨_, rfl, rfl, _, rfl, rfl⟩, ⟨_, rfl, rfl⟩⟩, rfl⟩
theorem ty_47 : TyOK Tryd.prog 47 ⟨.slice (.int .u8), [], 0, 5, 1⟩ := ⟨⟨trivial, rfl, ⟨_, rfl, rfl, _, rfl, rfl⟩, ⟨_, rfl, rfl⟩⟩, ⟨rfl, ty_5.1, fun i h => by cases h; rfl⟩⟩
theorem ty_49 : TyOK Tryd.prog 49 ⟨.agg (.pair (.str) (.pair (.bool) (.slice (.int .u8)))), [(0, 9), (1, 4), (2, 47)], 0, 0, 0⟩ := ⟨⟨trivial, rfl, ⟨_, rfl, rfl, _, rfl, rfl⟩, ⟨_, rfl, rfl⟩⟩, ⟨_, rfl, rfl, fun f off tf h => by
  match f, h with
  | 0, h => cases h; exact ⟨_, rfl, rfl, rfl, _, rfl⟩
  | 1, h => cases h; exact ⟨_, rfl, rfl, rfl, _, rfl⟩
  | 2, h => cases h; exact ⟨_, rfl, rfl, rfl, _, rfl⟩
  | _ + 3, h => cases h⟩⟩
theorem ty_22 : TyOK Tryd.prog 22 ⟨.slice (.agg (.pair (.str) (.pair (.bool) (.slice (.int .u8))))), [], 0, 49, 48⟩ := ⟨⟨trivial, rfl, ⟨_, rfl, rfl, _, rfl, rfl⟩, ⟨_, rfl, rfl⟩⟩, ⟨rfl, ty_49.1, fun i h => by cases h; rfl⟩⟩
theorem ty_23 : TyOK Tryd.prog 23 ⟨.slice (.str), [], 0, 9, 16⟩ := ⟨⟨trivial, rfl, ⟨_, rfl, rfl, _, rfl, rfl⟩, ⟨_, rfl, rfl⟩⟩, ⟨rfl, ty_9.1, fun i h => by cases h; rfl⟩⟩
theorem ty_26 : TyOK Tryd.prog 26 ⟨.int .i64, [], 0, 0, 0⟩ := ⟨⟨rfl, rfl, ⟨_, rfl, rfl, _, rfl, rfl⟩, ⟨_, rfl, rfl⟩⟩, rfl⟩
theorem ty_71 : TyOK Tryd.prog 71 ⟨.map (.str) (.bool), [], 9, 4, 0⟩ := ⟨⟨trivial, rfl, ⟨_, rfl, rfl, _, rfl, rfl⟩, ⟨_, rfl, rfl⟩⟩, ⟨rfl, ty_4.1, rfl⟩⟩
theorem ty_73 : TyOK Tryd.prog 73 ⟨.slice (.slice (.str)), [], 0, 23, 24⟩ := ⟨⟨trivial, rfl, ⟨_, rfl, rfl, _, rfl, rfl⟩, ⟨_, rfl, rfl⟩⟩, ⟨rfl, ty_23.1, fun i h => by cases h; rfl⟩⟩
theorem ty_82 : TyOK Tryd.prog 82 ⟨.int .u64, [], 0, 0, 0⟩ := ⟨⟨rfl, rfl, ⟨_, rfl, rfl, _, rfl, rfl⟩, ⟨_, rfl, rfl⟩⟩, rfl⟩
theorem ty_83 : TyOK Tryd.prog 83 ⟨.int .u64, [], 0, 0, 0⟩ := ⟨⟨rfl, rfl, ⟨_, rfl, rfl, _, rfl, rfl⟩, ⟨_, rfl, rfl⟩⟩, rfl⟩
theorem ty_98 : TyOK Tryd.prog 98 ⟨.slice (.bool), [], 0, 4, 1⟩ := ⟨⟨trivial, rfl, ⟨_, rfl, rfl, _, rfl, rfl⟩, ⟨_, rfl, rfl⟩⟩, ⟨rfl, ty_4.1, fun i h => by cases h; rfl⟩⟩
def tys : List (Nat × Ty) := [(2, ⟨.int .i64, [], 0, 0, 0⟩), (3, ⟨.int .i64, [], 0, 0, 0⟩), (4, ⟨.bool, [], 0, 0, 0⟩), (5, ⟨.int .u8, [], 0, 0, 0⟩), (9, ⟨.str, [], 0, 0, 0⟩), (47, ⟨.slice (.int .u8), [], 0, 5, 1⟩), (49, ⟨.agg (.pair (.str) (.pair (.bool) (.slice (.int .u8)))), [(0, 9), (1, 4), (2, 47)], 0, 0, 0⟩), (22, ⟨.slice (.agg (.pair (.str) (.pair (.bool) (.slice (.int .u8))))), [], 0, 49, 48⟩), (23, ⟨.slice (.str), [], 0, 9, 16⟩), (26, ⟨.int .i64, [], 0, 0, 0⟩), (71, ⟨.map (.str) (.bool), [], 9, 4, 0⟩), (73, ⟨.slice (.slice (.str)), [], 0, 23, 24⟩), (82, ⟨.int .u64, [], 0, 0, 0⟩), (83, ⟨.int .u64, [], 0, 0, 0⟩), (98, ⟨.slice (.bool), [], 0, 4, 1⟩)]
def eqs : List Nat := []
theorem eqsOK : ∀ t k, eqs.any (Nat.beq t) = true → (match alookup tys t with | some y => some y.k | none => none) = some k → EqOK Tryd.prog t k := by
  intro t k h hk
  cases h
theorem tysOK : AllL (TyOK Tryd.prog) tys := ⟨ty_2, ty_3, ty_4, ty_5, ty_9, ty_47, ty_49, ty_22, ty_23, ty_26, ty_71, ty_73, ty_82, ty_83, ty_98, trivial⟩
/-- smithyard/smithyardref1.CopyBytes -/
def S15 (k : Nat) (x : PT [.val (.slice (.int .u8))]) : Option (OT [.val (.slice (.int .u8))]) :=
bnd (app? 1 ([] : List Int) x.1) (fun (a2 : (List Int)) => some a2)
def F15 : Fn := ⟨[.val (.slice (.int .u8))], [.val (.slice (.int .u8))], S15⟩
def Γ15 : Ctx := ⟨alookup tys, alookup [], [], [], [], [], [2, 6], eqs, [], [], alookup [], alookup [], alookup []⟩
theorem e15 (k : Nat) (x : PT [.val (.slice (.int .u8))]) : S15 k x = runFn Γ15 k [.val (.slice (.int .u8))] [.val (.slice (.int .u8))] Tryd.f15.ntmps Tryd.f15.results.toList (Tryd.f15.body.getD .skip) x := by kernel_rfl
theorem c15 : CtxOK Tryd.prog JS Γ15 := ⟨tysOK.get, AllL.get (l := []) trivial, by kernel_rfl, eqsOK, AllL.get (l := []) trivial, AllL.get (l := []) trivial, AllL.get (l := []) trivial⟩
theorem ok15 : FnOK Tryd.prog JS 15 F15 := fnOK_of c15 (fn := Tryd.f15) (c := Tryd.f15.body.getD .skip) rfl rfl rfl (by decide) e15
/-- smithyard/smithyardref1.CopyFiles -/
def S5 (k : Nat) (x : PT [.val (.slice (.agg (.pair (.str) (.pair (.bool) (.slice (.int .u8))))))]) : Option (OT [.val (.slice (.agg (.pair (.str) (.pair (.bool) (.slice (.int .u8))))))]) :=
loopN k (fun (a2 : (((List (ByteArray × (Bool × (List Int)))) × Int) → (Option (List (ByteArray × (Bool × (List Int))))))) (a3 : ((List (ByteArray × (Bool × (List Int)))) × Int)) => cnd (ilt a3.2 (len x.1)) (bnd (at? x.1 a3.2) (fun (a4 : (ByteArray × (Bool × (List Int)))) => bnd (at? x.1 a3.2) (fun (a5 : (ByteArray × (Bool × (List Int)))) => bnd (at? x.1 a3.2) (fun (a6 : (ByteArray × (Bool × (List Int)))) => bnd (S15 k (a6.2.2, ())) (fun (a7 : (List Int)) => bnd (app? 48 a3.1 ((a4.1, a5.2.1, a7) :: ([] : List (ByteArray × (Bool × (List Int)))))) (fun (a8 : (List (ByteArray × (Bool × (List Int))))) => a2 (a8, iadd Go.IntKind.i64 a3.2 1))))))) (some a3.1)) (([] : List (ByteArray × (Bool × (List Int)))), 0)
def F5 : Fn := ⟨[.val (.slice (.agg (.pair (.str) (.pair (.bool) (.slice (.int .u8))))))], [.val (.slice (.agg (.pair (.str) (.pair (.bool) (.slice (.int .u8))))))], S5⟩
def Γ5 : Ctx := ⟨alookup tys, alookup [(15, F15)], [(3, [3, 4], [])], [], [(5, 19)], [], [2, 27, 29], eqs, [], [], alookup [], alookup [], alookup []⟩
theorem e5 (k : Nat) (x : PT [.val (.slice (.agg (.pair (.str) (.pair (.bool) (.slice (.int .u8))))))]) : S5 k x = runFn Γ5 k [.val (.slice (.agg (.pair (.str) (.pair (.bool) (.slice (.int .u8))))))] [.val (.slice (.agg (.pair (.str) (.pair (.bool) (.slice (.int .u8))))))] Tryd.f5.ntmps Tryd.f5.results.toList (Tryd.f5.body.getD .skip) x := by kernel_rfl
theorem c5 : CtxOK Tryd.prog JS Γ5 := ⟨tysOK.get, AllL.get (l := [(15, F15)]) ⟨ok15, trivial⟩, by kernel_rfl, eqsOK, AllL.get (l := []) trivial, AllL.get (l := []) trivial, AllL.get (l := []) trivial⟩
theorem ok5 : FnOK Tryd.prog JS 5 F5 := fnOK_of c5 (fn := Tryd.f5) (c := Tryd.f5.body.getD .skip) rfl rfl rfl (by decide) e5
/-- smithyard/blob.inPart -/
def S37 (k : Nat) (x : PT [.val (.int .u8)]) : Option (OT [.val (.bool)]) :=
cnd (ige x.1 97) (cnd (ile x.1 122) (some true) (cnd (ige x.1 65) (cnd (ile x.1 90) (some true) (cnd (ige x.1 48) (cnd (ile x.1 57) (some true) (bnd (S62 k ((⟨#[46, 95, 45, 43]⟩ : ByteArray), x.1, ())) (fun (a2 : Int) => some (ige a2 0)))) (bnd (S62 k ((⟨#[46, 95, 45, 43]⟩ : ByteArray), x.1, ())) (fun (a2 : Int) => some (ige a2 0))))) (cnd (ige x.1 48) (cnd (ile x.1 57) (some true) (bnd (S62 k ((⟨#[46, 95, 45, 43]⟩ : ByteArray), x.1, ())) (fun (a2 : Int) => some (ige a2 0)))) (bnd (S62 k ((⟨#[46, 95, 45, 43]⟩ : ByteArray), x.1, ())) (fun (a2 : Int) => some (ige a2 0)))))) (cnd (ige x.1 65) (cnd (ile x.1 90) (some true) (cnd (ige x.1 48) (cnd (ile x.1 57) (some true) (bnd (S62 k ((⟨#[46, 95, 45, 43]⟩ : ByteArray), x.1, ())) (fun (a2 : Int) => some (ige a2 0)))) (bnd (S62 k ((⟨#[46, 95, 45, 43]⟩ : ByteArray), x.1, ())) (fun (a2 : Int) => some (ige a2 0))))) (cnd (ige x.1 48) (cnd (ile x.1 57) (some true) (bnd (S62 k ((⟨#[46, 95, 45, 43]⟩ : ByteArray), x.1, ())) (fun (a2 : Int) => some (ige a2 0)))) (bnd (S62 k ((⟨#[46, 95, 45, 43]⟩ : ByteArray), x.1, ())) (fun (a2 : Int) => some (ige a2 0)))))
def F37 : Fn := ⟨[.val (.int .u8)], [.val (.bool)], S37⟩
def Γ37 : Ctx := ⟨alookup tys, alookup [(62, F62)], [], [], [], [], [], eqs, [], [], alookup [], alookup [], alookup []⟩
theorem e37 (k : Nat) (x : PT [.val (.int .u8)]) : S37 k x = runFn Γ37 k [.val (.int .u8)] [.val (.bool)] Tryd.f37.ntmps Tryd.f37.results.toList (Tryd.f37.body.getD .skip) x := by kernel_rfl
theorem c37 : CtxOK Tryd.prog JS Γ37 := ⟨tysOK.get, AllL.get (l := [(62, F62)]) ⟨ok62, trivial⟩, by kernel_rfl, eqsOK, AllL.get (l := []) trivial, AllL.get (l := []) trivial, AllL.get (l := []) trivial⟩
theorem ok37 : FnOK Tryd.prog JS 37 F37 := fnOK_of c37 (fn := Tryd.f37) (c := Tryd.f37.body.getD .skip) rfl rfl rfl (by decide) e37
/-- smithyard/blob.isPart -/
def S59 (k : Nat) (x : PT [.val (.str)]) : Option (OT [.val (.bool)]) :=
loopN k (fun (a2 : (Int → (Option Bool))) (a3 : Int) => cnd (ilt a3 (ssz x.1)) (bnd (bt? x.1 a3) (fun (a4 : Int) => bnd (S37 k (a4, ())) (fun (a5 : Bool) => cnd (bnot a5) (some false) (a2 (iadd Go.IntKind.i64 a3 1))))) (cnd (sne x.1 (⟨#[]⟩ : ByteArray)) (cnd (sne x.1 (⟨#[46]⟩ : ByteArray)) (some (sne x.1 (⟨#[46, 46]⟩ : ByteArray))) (some false)) (some false))) 0
def F59 : Fn := ⟨[.val (.str)], [.val (.bool)], S59⟩
def Γ59 : Ctx := ⟨alookup tys, alookup [(37, F37)], [(2, [6], [])], [], [], [], [], eqs, [], [], alookup [], alookup [], alookup []⟩
theorem e59 (k : Nat) (x : PT [.val (.str)]) : S59 k x = runFn Γ59 k [.val (.str)] [.val (.bool)] Tryd.f59.ntmps Tryd.f59.results.toList (Tryd.f59.body.getD .skip) x := by kernel_rfl
theorem c59 : CtxOK Tryd.prog JS Γ59 := ⟨tysOK.get, AllL.get (l := [(37, F37)]) ⟨ok37, trivial⟩, by kernel_rfl, eqsOK, AllL.get (l := []) trivial, AllL.get (l := []) trivial, AllL.get (l := []) trivial⟩
theorem ok59 : FnOK Tryd.prog JS 59 F59 := fnOK_of c59 (fn := Tryd.f59) (c := Tryd.f59.body.getD .skip) rfl rfl rfl (by decide) e59
/-- smithyard/blob.IsPath -/
def S32 (k : Nat) (x : PT [.val (.str)]) : Option (OT [.val (.bool)]) :=
jn (fun (a2 : (Unit → (Option Bool))) => cnd (ilt (ssz x.1) 1) (some false) (cnd (igt (ssz x.1) 200) (some false) (a2 ()))) (fun (a2 : Unit) => bnd (S35 k (x.1, (⟨#[47]⟩ : ByteArray), ())) (fun (a3 : (List ByteArray)) => loopN k (fun (a4 : (Int → (Option Bool))) (a5 : Int) => cnd (ilt a5 (len a3)) (bnd (at? a3 a5) (fun (a6 : ByteArray) => bnd (S59 k (a6, ())) (fun (a7 : Bool) => cnd (bnot a7) (some false) (a4 (iadd Go.IntKind.i64 a5 1))))) (some true)) 0))
def F32 : Fn := ⟨[.val (.str)], [.val (.bool)], S32⟩
def Γ32 : Ctx := ⟨alookup tys, alookup [(35, F35), (59, F59)], [(4, [16], [])], [(4, [14])], [], [], [14], eqs, [(3, [], [], [], [])], [], alookup [], alookup [], alookup []⟩
theorem e32 (k : Nat) (x : PT [.val (.str)]) : S32 k x = runFn Γ32 k [.val (.str)] [.val (.bool)] Tryd.f32.ntmps Tryd.f32.results.toList (Tryd.f32.body.getD .skip) x := by kernel_rfl
theorem c32 : CtxOK Tryd.prog JS Γ32 := ⟨tysOK.get, AllL.get (l := [(35, F35), (59, F59)]) ⟨ok35, ok59, trivial⟩, by kernel_rfl, eqsOK, AllL.get (l := []) trivial, AllL.get (l := []) trivial, AllL.get (l := []) trivial⟩
theorem ok32 : FnOK Tryd.prog JS 32 F32 := fnOK_of c32 (fn := Tryd.f32) (c := Tryd.f32.body.getD .skip) rfl rfl rfl (by decide) e32
/-- smithyard/blob.clashes -/
def S33 (k : Nat) (x : PT [.val (.map (.str) (.bool)), .val (.str)]) : Option (OT [.val (.bool)]) :=
loopN k (fun (a2 : (Int → (Option Bool))) (a3 : Int) => cnd (ilt a3 (ssz x.2.1)) (bnd (bt? x.2.1 a3) (fun (a4 : Int) => cnd (ieq a4 47) (bnd (sub? x.2.1 0 a3) (fun (a5 : ByteArray) => cnd (orD (mget? keq x.1 a5) false) (some true) (a2 (iadd Go.IntKind.i64 a3 1)))) (a2 (iadd Go.IntKind.i64 a3 1)))) (some false)) 0
def F33 : Fn := ⟨[.val (.map (.str) (.bool)), .val (.str)], [.val (.bool)], S33⟩
def Γ33 : Ctx := ⟨alookup tys, alookup [], [(2, [8], [])], [], [], [], [], eqs, [], [], alookup [], alookup [], alookup []⟩
theorem e33 (k : Nat) (x : PT [.val (.map (.str) (.bool)), .val (.str)]) : S33 k x = runFn Γ33 k [.val (.map (.str) (.bool)), .val (.str)] [.val (.bool)] Tryd.f33.ntmps Tryd.f33.results.toList (Tryd.f33.body.getD .skip) x := by kernel_rfl
theorem c33 : CtxOK Tryd.prog JS Γ33 := ⟨tysOK.get, AllL.get (l := []) trivial, by kernel_rfl, eqsOK, AllL.get (l := []) trivial, AllL.get (l := []) trivial, AllL.get (l := []) trivial⟩
theorem ok33 : FnOK Tryd.prog JS 33 F33 := fnOK_of c33 (fn := Tryd.f33) (c := Tryd.f33.body.getD .skip) rfl rfl rfl (by decide) e33
/-- smithyard/blob.CheckFiles -/
def S16 (k : Nat) (x : PT [.val (.slice (.agg (.pair (.str) (.pair (.bool) (.slice (.int .u8))))))]) : Option (OT [.val (.int .i64)]) :=
cnd (igt (len x.1) 1000) (some 2) (loopN k (fun (a2 : ((Int × (Int × (List (ByteArray × Bool)))) → (Option Int))) (a3 : (Int × (Int × (List (ByteArray × Bool))))) => cnd (ilt a3.2.1 (len x.1)) (bnd (at? x.1 a3.2.1) (fun (a4 : (ByteArray × (Bool × (List Int)))) => bnd (S32 k (a4.1, ())) (fun (a5 : Bool) => cnd (bnot a5) (some 3) (cnd (igt (len a4.2.2) 100000) (some 2) (cnd (igt a3.2.1 0) (bnd (at? x.1 (isub Go.IntKind.i64 a3.2.1 1)) (fun (a6 : (ByteArray × (Bool × (List Int)))) => cnd (sle a4.1 a6.1) (some 8) (a2 (iadd Go.IntKind.i64 a3.1 (len a4.2.2), iadd Go.IntKind.i64 a3.2.1 1, mput keq a3.2.2 a4.1 true)))) (a2 (iadd Go.IntKind.i64 a3.1 (len a4.2.2), iadd Go.IntKind.i64 a3.2.1 1, mput keq a3.2.2 a4.1 true))))))) (loopN k (fun (a4 : (Int → (Option Int))) (a5 : Int) => cnd (ilt a5 (len x.1)) (bnd (at? x.1 a5) (fun (a6 : (ByteArray × (Bool × (List Int)))) => bnd (S33 k (a3.2.2, a6.1, ())) (fun (a7 : Bool) => cnd a7 (some 12) (a4 (iadd Go.IntKind.i64 a5 1))))) (cnd (igt a3.1 2000000) (some 2) (some 0))) 0)) (0, 0, ([] : List (ByteArray × Bool))))
def F16 : Fn := ⟨[.val (.slice (.agg (.pair (.str) (.pair (.bool) (.slice (.int .u8))))))], [.val (.int .i64)], S16⟩
def Γ16 : Ctx := ⟨alookup tys, alookup [(32, F32), (33, F33)], [(6, [3, 15, 4], []), (18, [55], [])], [(6, [13]), (18, [4, 53])], [(12, 11)], [], [], eqs, [], [], alookup [], alookup [], alookup []⟩
theorem e16 (k : Nat) (x : PT [.val (.slice (.agg (.pair (.str) (.pair (.bool) (.slice (.int .u8))))))]) : S16 k x = runFn Γ16 k [.val (.slice (.agg (.pair (.str) (.pair (.bool) (.slice (.int .u8))))))] [.val (.int .i64)] Tryd.f16.ntmps Tryd.f16.results.toList (Tryd.f16.body.getD .skip) x := by kernel_rfl
theorem c16 : CtxOK Tryd.prog JS Γ16 := ⟨tysOK.get, AllL.get (l := [(32, F32), (33, F33)]) ⟨ok32, ok33, trivial⟩, by kernel_rfl, eqsOK, AllL.get (l := []) trivial, AllL.get (l := []) trivial, AllL.get (l := []) trivial⟩
theorem ok16 : FnOK Tryd.prog JS 16 F16 := fnOK_of c16 (fn := Tryd.f16) (c := Tryd.f16.body.getD .skip) rfl rfl rfl (by decide) e16
/-- smithyard/blob.CheckPattern -/
def S18 (k : Nat) (x : PT [.val (.str)]) : Option (OT [.val (.int .i64)]) :=
jn (fun (a2 : (Unit → (Option Int))) => cnd (ilt (ssz x.1) 1) (some 3) (cnd (igt (ssz x.1) 200) (some 3) (a2 ()))) (fun (a2 : Unit) => bnd (S35 k (x.1, (⟨#[47]⟩ : ByteArray), ())) (fun (a3 : (List ByteArray)) => loopN k (fun (a4 : (Int → (Option Int))) (a5 : Int) => cnd (ilt a5 (len a3)) (bnd (at? a3 a5) (fun (a6 : ByteArray) => cnd (seq a6 (⟨#[42, 42]⟩ : ByteArray)) (a4 (iadd Go.IntKind.i64 a5 1)) (jn (fun (a7 : (Bool → (Option Int))) => cnd (seq a6 (⟨#[]⟩ : ByteArray)) (a7 true) (cnd (seq a6 (⟨#[46]⟩ : ByteArray)) (a7 true) (cnd (seq a6 (⟨#[46, 46]⟩ : ByteArray)) (a7 true) (bnd (S36 k (a6, (⟨#[42, 42]⟩ : ByteArray), ())) (fun (a8 : Bool) => a7 a8))))) (fun (a7 : Bool) => cnd a7 (some 3) (loopN k (fun (a8 : (Int → (Option Int))) (a9 : Int) => cnd (ilt a9 (ssz a6)) (bnd (bt? a6 a9) (fun (a10 : Int) => bnd (S37 k (a10, ())) (fun (a11 : Bool) => cnd (bnot a11) (bnd (bt? a6 a9) (fun (a12 : Int) => cnd (ine a12 42) (bnd (bt? a6 a9) (fun (a13 : Int) => cnd (ine a13 63) (some 3) (a8 (iadd Go.IntKind.i64 a9 1)))) (a8 (iadd Go.IntKind.i64 a9 1)))) (a8 (iadd Go.IntKind.i64 a9 1))))) (a4 (iadd Go.IntKind.i64 a5 1))) 0))))) (some 0)) 0))
def F18 : Fn := ⟨[.val (.str)], [.val (.int .i64)], S18⟩
def Γ18 : Ctx := ⟨alookup tys, alookup [(35, F35), (36, F36), (37, F37)], [(4, [17], []), (10, [39], [])], [(4, [15]), (10, [15])], [], [], [15], eqs, [(8, [], [36], [.val (.bool)], []), (3, [], [], [], [])], [], alookup [], alookup [], alookup []⟩
theorem e18 (k : Nat) (x : PT [.val (.str)]) : S18 k x = runFn Γ18 k [.val (.str)] [.val (.int .i64)] Tryd.f18.ntmps Tryd.f18.results.toList (Tryd.f18.body.getD .skip) x := by kernel_rfl
theorem c18 : CtxOK Tryd.prog JS Γ18 := ⟨tysOK.get, AllL.get (l := [(35, F35), (36, F36), (37, F37)]) ⟨ok35, ok36, ok37, trivial⟩, by kernel_rfl, eqsOK, AllL.get (l := []) trivial, AllL.get (l := []) trivial, AllL.get (l := []) trivial⟩
theorem ok18 : FnOK Tryd.prog JS 18 F18 := fnOK_of c18 (fn := Tryd.f18) (c := Tryd.f18.body.getD .skip) rfl rfl rfl (by decide) e18
/-- smithyard/blob.fits[string] -/
def S38 (k : Nat) (x : PT [.val (.slice (.str)), .val (.slice (.str)), .fnv (.str) (.bool), .fnv (.pair (.str) (.str)) (.bool)]) : Option (OT [.val (.bool)]) :=
bnd (mk? 1 false (iadd Go.IntKind.i64 (len x.2.1) 1) (iadd Go.IntKind.i64 (len x.2.1) 1)) (fun (a2 : (List Bool)) => bnd (inb (len a2) 0) (fun (a3 : Unit) => loopN k (fun (a4 : (((List Bool) × Int) → (Option Bool))) (a5 : ((List Bool) × Int)) => cnd (ilt a5.2 (len x.1)) (bnd (at? x.1 a5.2) (fun (a6 : ByteArray) => bnd (mk? 1 false (len a5.1) (len a5.1)) (fun (a7 : (List Bool)) => loopN k (fun (a8 : ((Bool × (Int × (List Bool))) → (Option Bool))) (a9 : (Bool × (Int × (List Bool)))) => cnd (ilt a9.2.1 (len a5.1)) (bnd (x.2.2.1 a6) (fun (a10 : Bool) => cnd a10 (cnd a9.1 (bnd (inb (len a9.2.2) a9.2.1) (fun (a11 : Unit) => a8 (true, iadd Go.IntKind.i64 a9.2.1 1, setAt a9.2.2 a9.2.1 true))) (bnd (at? a5.1 a9.2.1) (fun (a11 : Bool) => bnd (inb (len a9.2.2) a9.2.1) (fun (a12 : Unit) => a8 (a11, iadd Go.IntKind.i64 a9.2.1 1, setAt a9.2.2 a9.2.1 a11))))) (cnd (igt a9.2.1 0) (bnd (at? a5.1 (isub Go.IntKind.i64 a9.2.1 1)) (fun (a11 : Bool) => cnd a11 (bnd (at? x.2.1 (isub Go.IntKind.i64 a9.2.1 1)) (fun (a12 : ByteArray) => bnd (x.2.2.2.1 (a6, a12)) (fun (a13 : Bool) => bnd (inb (len a9.2.2) a9.2.1) (fun (a14 : Unit) => a8 (a9.1, iadd Go.IntKind.i64 a9.2.1 1, setAt a9.2.2 a9.2.1 a13))))) (bnd (inb (len a9.2.2) a9.2.1) (fun (a12 : Unit) => a8 (a9.1, iadd Go.IntKind.i64 a9.2.1 1, setAt a9.2.2 a9.2.1 false))))) (a8 (a9.1, iadd Go.IntKind.i64 a9.2.1 1, a9.2.2))))) (a4 (a9.2.2, iadd Go.IntKind.i64 a5.2 1))) (false, 0, a7)))) (bnd (inb (len a5.1) (len x.2.1)) (fun (a6 : Unit) => some (gt false a5.1 (len x.2.1))))) (setAt a2 0 true, 0)))
def F38 : Fn := ⟨[.val (.slice (.str)), .val (.slice (.str)), .fnv (.str) (.bool), .fnv (.pair (.str) (.str)) (.bool)], [.val (.bool)], S38⟩
def Γ38 : Ctx := ⟨alookup tys, alookup [], [(4, [9, 23], []), (9, [13, 32, 12], [])], [(4, [21]), (9, [9, 21])], [], [], [], eqs, [], [], alookup [], alookup [], alookup []⟩
theorem e38 (k : Nat) (x : PT [.val (.slice (.str)), .val (.slice (.str)), .fnv (.str) (.bool), .fnv (.pair (.str) (.str)) (.bool)]) : S38 k x = runFn Γ38 k [.val (.slice (.str)), .val (.slice (.str)), .fnv (.str) (.bool), .fnv (.pair (.str) (.str)) (.bool)] [.val (.bool)] Tryd.f38.ntmps Tryd.f38.results.toList (Tryd.f38.body.getD .skip) x := by kernel_rfl
theorem c38 : CtxOK Tryd.prog JS Γ38 := ⟨tysOK.get, AllL.get (l := []) trivial, by kernel_rfl, eqsOK, AllL.get (l := []) trivial, AllL.get (l := []) trivial, AllL.get (l := []) trivial⟩
theorem ok38 : FnOK Tryd.prog JS 38 F38 := fnOK_of c38 (fn := Tryd.f38) (c := Tryd.f38.body.getD .skip) rfl rfl rfl (by decide) e38
/-- smithyard/blob.pathFits$1 -/
def S39 (k : Nat) (x : PT [.val (.str)]) : Option (OT [.val (.bool)]) :=
some (seq x.1 (⟨#[42, 42]⟩ : ByteArray))
def F39 : Fn := ⟨[.val (.str)], [.val (.bool)], S39⟩
def Γ39 : Ctx := ⟨alookup tys, alookup [], [], [], [], [], [], eqs, [], [], alookup [], alookup [], alookup []⟩
theorem e39 (k : Nat) (x : PT [.val (.str)]) : S39 k x = runFn Γ39 k [.val (.str)] [.val (.bool)] Tryd.f39.ntmps Tryd.f39.results.toList (Tryd.f39.body.getD .skip) x := by kernel_rfl
theorem c39 : CtxOK Tryd.prog JS Γ39 := ⟨tysOK.get, AllL.get (l := []) trivial, by kernel_rfl, eqsOK, AllL.get (l := []) trivial, AllL.get (l := []) trivial, AllL.get (l := []) trivial⟩
theorem ok39 : FnOK Tryd.prog JS 39 F39 := fnOK_of c39 (fn := Tryd.f39) (c := Tryd.f39.body.getD .skip) rfl rfl rfl (by decide) e39
/-- smithyard/blob.fits[byte] -/
def S63 (k : Nat) (x : PT [.val (.slice (.int .u8)), .val (.slice (.int .u8)), .fnv (.int .u8) (.bool), .fnv (.pair (.int .u8) (.int .u8)) (.bool)]) : Option (OT [.val (.bool)]) :=
bnd (mk? 1 false (iadd Go.IntKind.i64 (len x.2.1) 1) (iadd Go.IntKind.i64 (len x.2.1) 1)) (fun (a2 : (List Bool)) => bnd (inb (len a2) 0) (fun (a3 : Unit) => loopN k (fun (a4 : (((List Bool) × Int) → (Option Bool))) (a5 : ((List Bool) × Int)) => cnd (ilt a5.2 (len x.1)) (bnd (at? x.1 a5.2) (fun (a6 : Int) => bnd (mk? 1 false (len a5.1) (len a5.1)) (fun (a7 : (List Bool)) => loopN k (fun (a8 : ((Bool × (Int × (List Bool))) → (Option Bool))) (a9 : (Bool × (Int × (List Bool)))) => cnd (ilt a9.2.1 (len a5.1)) (bnd (x.2.2.1 a6) (fun (a10 : Bool) => cnd a10 (cnd a9.1 (bnd (inb (len a9.2.2) a9.2.1) (fun (a11 : Unit) => a8 (true, iadd Go.IntKind.i64 a9.2.1 1, setAt a9.2.2 a9.2.1 true))) (bnd (at? a5.1 a9.2.1) (fun (a11 : Bool) => bnd (inb (len a9.2.2) a9.2.1) (fun (a12 : Unit) => a8 (a11, iadd Go.IntKind.i64 a9.2.1 1, setAt a9.2.2 a9.2.1 a11))))) (cnd (igt a9.2.1 0) (bnd (at? a5.1 (isub Go.IntKind.i64 a9.2.1 1)) (fun (a11 : Bool) => cnd a11 (bnd (at? x.2.1 (isub Go.IntKind.i64 a9.2.1 1)) (fun (a12 : Int) => bnd (x.2.2.2.1 (a6, a12)) (fun (a13 : Bool) => bnd (inb (len a9.2.2) a9.2.1) (fun (a14 : Unit) => a8 (a9.1, iadd Go.IntKind.i64 a9.2.1 1, setAt a9.2.2 a9.2.1 a13))))) (bnd (inb (len a9.2.2) a9.2.1) (fun (a12 : Unit) => a8 (a9.1, iadd Go.IntKind.i64 a9.2.1 1, setAt a9.2.2 a9.2.1 false))))) (a8 (a9.1, iadd Go.IntKind.i64 a9.2.1 1, a9.2.2))))) (a4 (a9.2.2, iadd Go.IntKind.i64 a5.2 1))) (false, 0, a7)))) (bnd (inb (len a5.1) (len x.2.1)) (fun (a6 : Unit) => some (gt false a5.1 (len x.2.1))))) (setAt a2 0 true, 0)))
def F63 : Fn := ⟨[.val (.slice (.int .u8)), .val (.slice (.int .u8)), .fnv (.int .u8) (.bool), .fnv (.pair (.int .u8) (.int .u8)) (.bool)], [.val (.bool)], S63⟩
def Γ63 : Ctx := ⟨alookup tys, alookup [], [(4, [9, 23], []), (9, [13, 32, 12], [])], [(4, [21]), (9, [9, 21])], [], [], [], eqs, [], [], alookup [], alookup [], alookup []⟩
theorem e63 (k : Nat) (x : PT [.val (.slice (.int .u8)), .val (.slice (.int .u8)), .fnv (.int .u8) (.bool), .fnv (.pair (.int .u8) (.int .u8)) (.bool)]) : S63 k x = runFn Γ63 k [.val (.slice (.int .u8)), .val (.slice (.int .u8)), .fnv (.int .u8) (.bool), .fnv (.pair (.int .u8) (.int .u8)) (.bool)] [.val (.bool)] Tryd.f63.ntmps Tryd.f63.results.toList (Tryd.f63.body.getD .skip) x := by kernel_rfl
theorem c63 : CtxOK Tryd.prog JS Γ63 := ⟨tysOK.get, AllL.get (l := []) trivial, by kernel_rfl, eqsOK, AllL.get (l := []) trivial, AllL.get (l := []) trivial, AllL.get (l := []) trivial⟩
theorem ok63 : FnOK Tryd.prog JS 63 F63 := fnOK_of c63 (fn := Tryd.f63) (c := Tryd.f63.body.getD .skip) rfl rfl rfl (by decide) e63
/-- smithyard/blob.partFits$1 -/
def S64 (k : Nat) (x : PT [.val (.int .u8)]) : Option (OT [.val (.bool)]) :=
some (ieq x.1 42)
def F64 : Fn := ⟨[.val (.int .u8)], [.val (.bool)], S64⟩
def Γ64 : Ctx := ⟨alookup tys, alookup [], [], [], [], [], [], eqs, [], [], alookup [], alookup [], alookup []⟩
theorem e64 (k : Nat) (x : PT [.val (.int .u8)]) : S64 k x = runFn Γ64 k [.val (.int .u8)] [.val (.bool)] Tryd.f64.ntmps Tryd.f64.results.toList (Tryd.f64.body.getD .skip) x := by kernel_rfl
theorem c64 : CtxOK Tryd.prog JS Γ64 := ⟨tysOK.get, AllL.get (l := []) trivial, by kernel_rfl, eqsOK, AllL.get (l := []) trivial, AllL.get (l := []) trivial, AllL.get (l := []) trivial⟩
theorem ok64 : FnOK Tryd.prog JS 64 F64 := fnOK_of c64 (fn := Tryd.f64) (c := Tryd.f64.body.getD .skip) rfl rfl rfl (by decide) e64
/-- smithyard/blob.partFits$2 -/
def S65 (k : Nat) (x : PT [.val (.int .u8), .val (.int .u8)]) : Option (OT [.val (.bool)]) :=
cnd (ieq x.1 63) (some true) (some (ieq x.1 x.2.1))
def F65 : Fn := ⟨[.val (.int .u8), .val (.int .u8)], [.val (.bool)], S65⟩
def Γ65 : Ctx := ⟨alookup tys, alookup [], [], [], [], [], [], eqs, [], [], alookup [], alookup [], alookup []⟩
theorem e65 (k : Nat) (x : PT [.val (.int .u8), .val (.int .u8)]) : S65 k x = runFn Γ65 k [.val (.int .u8), .val (.int .u8)] [.val (.bool)] Tryd.f65.ntmps Tryd.f65.results.toList (Tryd.f65.body.getD .skip) x := by kernel_rfl
theorem c65 : CtxOK Tryd.prog JS Γ65 := ⟨tysOK.get, AllL.get (l := []) trivial, by kernel_rfl, eqsOK, AllL.get (l := []) trivial, AllL.get (l := []) trivial, AllL.get (l := []) trivial⟩
theorem ok65 : FnOK Tryd.prog JS 65 F65 := fnOK_of c65 (fn := Tryd.f65) (c := Tryd.f65.body.getD .skip) rfl rfl rfl (by decide) e65
/-- smithyard/blob.partFits -/
def S40 (k : Nat) (x : PT [.val (.str), .val (.str)]) : Option (OT [.val (.bool)]) :=
bnd (app? 1 ([] : List Int) (bytesOf x.1)) (fun (a2 : (List Int)) => bnd (app? 1 ([] : List Int) (bytesOf x.2.1)) (fun (a3 : (List Int)) => bnd (S63 k (a2, a3, fun (a4 : Int) => S64 k (a4, ()), fun (a4 : (Int × Int)) => S65 k (a4.1, a4.2, ()), ())) (fun (a4 : Bool) => some a4)))
def F40 : Fn := ⟨[.val (.str), .val (.str)], [.val (.bool)], S40⟩
def Γ40 : Ctx := ⟨alookup tys, alookup [(63, F63), (64, F64), (65, F65)], [], [], [], [], [], eqs, [], [], alookup [], alookup [], alookup []⟩
theorem e40 (k : Nat) (x : PT [.val (.str), .val (.str)]) : S40 k x = runFn Γ40 k [.val (.str), .val (.str)] [.val (.bool)] Tryd.f40.ntmps Tryd.f40.results.toList (Tryd.f40.body.getD .skip) x := by kernel_rfl
theorem c40 : CtxOK Tryd.prog JS Γ40 := ⟨tysOK.get, AllL.get (l := [(63, F63), (64, F64), (65, F65)]) ⟨ok63, ok64, ok65, trivial⟩, by kernel_rfl, eqsOK, AllL.get (l := []) trivial, AllL.get (l := []) trivial, AllL.get (l := []) trivial⟩
theorem ok40 : FnOK Tryd.prog JS 40 F40 := fnOK_of c40 (fn := Tryd.f40) (c := Tryd.f40.body.getD .skip) rfl rfl rfl (by decide) e40
/-- smithyard/blob.pathFits -/
def S20 (k : Nat) (x : PT [.val (.str), .val (.str)]) : Option (OT [.val (.bool)]) :=
bnd (S35 k (x.1, (⟨#[47]⟩ : ByteArray), ())) (fun (a2 : (List ByteArray)) => bnd (S35 k (x.2.1, (⟨#[47]⟩ : ByteArray), ())) (fun (a3 : (List ByteArray)) => bnd (S38 k (a2, a3, fun (a4 : ByteArray) => S39 k (a4, ()), fun (a4 : (ByteArray × ByteArray)) => S40 k (a4.1, a4.2, ()), ())) (fun (a4 : Bool) => some a4)))
def F20 : Fn := ⟨[.val (.str), .val (.str)], [.val (.bool)], S20⟩
def Γ20 : Ctx := ⟨alookup tys, alookup [(35, F35), (38, F38), (39, F39), (40, F40)], [], [], [], [], [6, 8], eqs, [], [], alookup [], alookup [], alookup []⟩
theorem e20 (k : Nat) (x : PT [.val (.str), .val (.str)]) : S20 k x = runFn Γ20 k [.val (.str), .val (.str)] [.val (.bool)] Tryd.f20.ntmps Tryd.f20.results.toList (Tryd.f20.body.getD .skip) x := by kernel_rfl
theorem c20 : CtxOK Tryd.prog JS Γ20 := ⟨tysOK.get, AllL.get (l := [(35, F35), (38, F38), (39, F39), (40, F40)]) ⟨ok35, ok38, ok39, ok40, trivial⟩, by kernel_rfl, eqsOK, AllL.get (l := []) trivial, AllL.get (l := []) trivial, AllL.get (l := []) trivial⟩
theorem ok20 : FnOK Tryd.prog JS 20 F20 := fnOK_of c20 (fn := Tryd.f20) (c := Tryd.f20.body.getD .skip) rfl rfl rfl (by decide) e20
/-- smithyard/blob.Select$1 -/
def S19 (k : Nat) (x : PT [.val (.str), .rptr (.agg (.pair (.str) (.pair (.bool) (.slice (.int .u8)))))]) : Option (OT [.val (.bool)]) :=
bnd (S20 k (x.1, x.2.1.1, ())) (fun (a2 : Bool) => some a2)
def F19 : Fn := ⟨[.val (.str), .rptr (.agg (.pair (.str) (.pair (.bool) (.slice (.int .u8)))))], [.val (.bool)], S19⟩
def Γ19 : Ctx := ⟨alookup tys, alookup [(20, F20)], [], [], [], [], [], eqs, [], [], alookup [], alookup [], alookup []⟩
theorem e19 (k : Nat) (x : PT [.val (.str), .rptr (.agg (.pair (.str) (.pair (.bool) (.slice (.int .u8)))))]) : S19 k x = runFn Γ19 k [.val (.str), .rptr (.agg (.pair (.str) (.pair (.bool) (.slice (.int .u8)))))] [.val (.bool)] Tryd.f19.ntmps Tryd.f19.results.toList (Tryd.f19.body.getD .skip) x := by kernel_rfl
theorem c19 : CtxOK Tryd.prog JS Γ19 := ⟨tysOK.get, AllL.get (l := [(20, F20)]) ⟨ok20, trivial⟩, by kernel_rfl, eqsOK, AllL.get (l := []) trivial, AllL.get (l := []) trivial, AllL.get (l := []) trivial⟩
theorem ok19 : FnOK Tryd.prog JS 19 F19 := fnOK_of c19 (fn := Tryd.f19) (c := Tryd.f19.body.getD .skip) rfl rfl rfl (by decide) e19
/-- slices.IndexFunc[[]string,string] -/
def S41 (k : Nat) (x : PT [.val (.slice (.str)), .fnv (.str) (.bool)]) : Option (OT [.val (.int .i64)]) :=
loopN k (fun (a2 : (Int → (Option Int))) (a3 : Int) => cnd (ilt a3 (len x.1)) (bnd (at? x.1 a3) (fun (a4 : ByteArray) => bnd (x.2.1 a4) (fun (a5 : Bool) => cnd a5 (some a3) (a2 (iadd Go.IntKind.i64 a3 1))))) (some (-1))) 0
def F41 : Fn := ⟨[.val (.slice (.str)), .fnv (.str) (.bool)], [.val (.int .i64)], S41⟩
def Γ41 : Ctx := ⟨alookup tys, alookup [], [(2, [8], [])], [], [], [], [], eqs, [], [], alookup [], alookup [], alookup []⟩
theorem e41 (k : Nat) (x : PT [.val (.slice (.str)), .fnv (.str) (.bool)]) : S41 k x = runFn Γ41 k [.val (.slice (.str)), .fnv (.str) (.bool)] [.val (.int .i64)] Tryd.f41.ntmps Tryd.f41.results.toList (Tryd.f41.body.getD .skip) x := by kernel_rfl
theorem c41 : CtxOK Tryd.prog JS Γ41 := ⟨tysOK.get, AllL.get (l := []) trivial, by kernel_rfl, eqsOK, AllL.get (l := []) trivial, AllL.get (l := []) trivial, AllL.get (l := []) trivial⟩
theorem ok41 : FnOK Tryd.prog JS 41 F41 := fnOK_of c41 (fn := Tryd.f41) (c := Tryd.f41.body.getD .skip) rfl rfl rfl (by decide) e41
/-- slices.ContainsFunc[[]string,string] -/
def S21 (k : Nat) (x : PT [.val (.slice (.str)), .fnv (.str) (.bool)]) : Option (OT [.val (.bool)]) :=
bnd (S41 k (x.1, fun (a2 : ByteArray) => x.2.1 a2, ())) (fun (a2 : Int) => some (ige a2 0))
def F21 : Fn := ⟨[.val (.slice (.str)), .fnv (.str) (.bool)], [.val (.bool)], S21⟩
def Γ21 : Ctx := ⟨alookup tys, alookup [(41, F41)], [], [], [], [], [], eqs, [], [], alookup [], alookup [], alookup []⟩
theorem e21 (k : Nat) (x : PT [.val (.slice (.str)), .fnv (.str) (.bool)]) : S21 k x = runFn Γ21 k [.val (.slice (.str)), .fnv (.str) (.bool)] [.val (.bool)] Tryd.f21.ntmps Tryd.f21.results.toList (Tryd.f21.body.getD .skip) x := by kernel_rfl
theorem c21 : CtxOK Tryd.prog JS Γ21 := ⟨tysOK.get, AllL.get (l := [(41, F41)]) ⟨ok41, trivial⟩, by kernel_rfl, eqsOK, AllL.get (l := []) trivial, AllL.get (l := []) trivial, AllL.get (l := []) trivial⟩
theorem ok21 : FnOK Tryd.prog JS 21 F21 := fnOK_of c21 (fn := Tryd.f21) (c := Tryd.f21.body.getD .skip) rfl rfl rfl (by decide) e21
/-- smithyard/blob.Select -/
def S7 (k : Nat) (x : PT [.val (.slice (.agg (.pair (.str) (.pair (.bool) (.slice (.int .u8)))))), .val (.slice (.str)), .val (.slice (.str))]) : Option (OT [.val (.slice (.str)), .val (.int .i64)]) :=
bnd (S16 k (x.1, ())) (fun (a2 : Int) => cnd (ine a2 0) (some (([] : List ByteArray), a2)) (bnd (S17 k ((x.2.1 :: (x.2.2.1 :: ([] : List (List ByteArray)))), ())) (fun (a3 : (List ByteArray)) => loopN k (fun (a4 : (Int → (Option ((List ByteArray) × Int)))) (a5 : Int) => cnd (ilt a5 (len a3)) (bnd (at? a3 a5) (fun (a6 : ByteArray) => bnd (S18 k (a6, ())) (fun (a7 : Int) => cnd (ine a7 0) (some (([] : List ByteArray), a7)) (a4 (iadd Go.IntKind.i64 a5 1))))) (loopN k (fun (a6 : (((List ByteArray) × Int) → (Option ((List ByteArray) × Int)))) (a7 : ((List ByteArray) × Int)) => cnd (ilt a7.2 (len x.1)) (bnd (at? x.1 a7.2) (fun (a8 : (ByteArray × (Bool × (List Int)))) => bnd (S21 k (x.2.1, fun (a9 : ByteArray) => S19 k (a9, (a8.1, a8.2.1, a8.2.2), ()), ())) (fun (a9 : Bool) => cnd a9 (bnd (S21 k (x.2.2.1, fun (a10 : ByteArray) => S19 k (a10, (a8.1, a8.2.1, a8.2.2), ()), ())) (fun (a10 : Bool) => cnd (bnot a10) (bnd (app? 16 a7.1 (a8.1 :: ([] : List ByteArray))) (fun (a11 : (List ByteArray)) => a6 (a11, iadd Go.IntKind.i64 a7.2 1))) (a6 (a7.1, iadd Go.IntKind.i64 a7.2 1)))) (a6 (a7.1, iadd Go.IntKind.i64 a7.2 1))))) (some (a7.1, 0))) (([] : List ByteArray), 0))) 0)))
def F7 : Fn := ⟨[.val (.slice (.agg (.pair (.str) (.pair (.bool) (.slice (.int .u8)))))), .val (.slice (.str)), .val (.slice (.str))], [.val (.slice (.str)), .val (.int .i64)], S7⟩
def Γ7 : Ctx := ⟨alookup tys, alookup [(16, F16), (17, F17), (18, F18), (19, F19), (21, F21)], [(5, [26], []), (13, [12, 38], [])], [(5, [24]), (13, [36])], [], [], [6, 23, 24, 55], eqs, [], [], alookup [], alookup [], alookup []⟩
theorem e7 (k : Nat) (x : PT [.val (.slice (.agg (.pair (.str) (.pair (.bool) (.slice (.int .u8)))))), .val (.slice (.str)), .val (.slice (.str))]) : S7 k x = runFn Γ7 k [.val (.slice (.agg (.pair (.str) (.pair (.bool) (.slice (.int .u8)))))), .val (.slice (.str)), .val (.slice (.str))] [.val (.slice (.str)), .val (.int .i64)] Tryd.f7.ntmps Tryd.f7.results.toList (Tryd.f7.body.getD .skip) x := by kernel_rfl
theorem c7 : CtxOK Tryd.prog JS Γ7 := ⟨tysOK.get, AllL.get (l := [(16, F16), (17, F17), (18, F18), (19, F19), (21, F21)]) ⟨ok16, ok17, ok18, ok19, ok21, trivial⟩, by kernel_rfl, eqsOK, AllL.get (l := []) trivial, AllL.get (l := []) trivial, AllL.get (l := []) trivial⟩
theorem ok7 : FnOK Tryd.prog JS 7 F7 := fnOK_of c7 (fn := Tryd.f7) (c := Tryd.f7.body.getD .skip) rfl rfl rfl (by decide) e7
/-- smithyard/smithyardref1.within -/
def S44 (k : Nat) (x : PT [.val (.int .i64), .val (.int .i64), .val (.int .i64)]) : Option (OT [.val (.bool)]) :=
cnd (ige x.1 x.2.1) (some (ile x.1 x.2.2.1)) (some false)
def F44 : Fn := ⟨[.val (.int .i64), .val (.int .i64), .val (.int .i64)], [.val (.bool)], S44⟩
def Γ44 : Ctx := ⟨alookup tys, alookup [], [], [], [], [], [], eqs, [], [], alookup [], alookup [], alookup []⟩
theorem e44 (k : Nat) (x : PT [.val (.int .i64), .val (.int .i64), .val (.int .i64)]) : S44 k x = runFn Γ44 k [.val (.int .i64), .val (.int .i64), .val (.int .i64)] [.val (.bool)] Tryd.f44.ntmps Tryd.f44.results.toList (Tryd.f44.body.getD .skip) x := by kernel_rfl
theorem c44 : CtxOK Tryd.prog JS Γ44 := ⟨tysOK.get, AllL.get (l := []) trivial, by kernel_rfl, eqsOK, AllL.get (l := []) trivial, AllL.get (l := []) trivial, AllL.get (l := []) trivial⟩
theorem ok44 : FnOK Tryd.prog JS 44 F44 := fnOK_of c44 (fn := Tryd.f44) (c := Tryd.f44.body.getD .skip) rfl rfl rfl (by decide) e44
/-- smithyard/smithyardref1.partByte -/
def S68 (k : Nat) (x : PT [.val (.int .u8)]) : Option (OT [.val (.bool)]) :=
cnd (ige x.1 97) (cnd (ile x.1 122) (some true) (cnd (ige x.1 65) (cnd (ile x.1 90) (some true) (cnd (ige x.1 48) (cnd (ile x.1 57) (some true) (cnd (ieq x.1 46) (some true) (cnd (ieq x.1 95) (some true) (cnd (ieq x.1 45) (some true) (some (ieq x.1 43)))))) (cnd (ieq x.1 46) (some true) (cnd (ieq x.1 95) (some true) (cnd (ieq x.1 45) (some true) (some (ieq x.1 43))))))) (cnd (ige x.1 48) (cnd (ile x.1 57) (some true) (cnd (ieq x.1 46) (some true) (cnd (ieq x.1 95) (some true) (cnd (ieq x.1 45) (some true) (some (ieq x.1 43)))))) (cnd (ieq x.1 46) (some true) (cnd (ieq x.1 95) (some true) (cnd (ieq x.1 45) (some true) (some (ieq x.1 43)))))))) (cnd (ige x.1 65) (cnd (ile x.1 90) (some true) (cnd (ige x.1 48) (cnd (ile x.1 57) (some true) (cnd (ieq x.1 46) (some true) (cnd (ieq x.1 95) (some true) (cnd (ieq x.1 45) (some true) (some (ieq x.1 43)))))) (cnd (ieq x.1 46) (some true) (cnd (ieq x.1 95) (some true) (cnd (ieq x.1 45) (some true) (some (ieq x.1 43))))))) (cnd (ige x.1 48) (cnd (ile x.1 57) (some true) (cnd (ieq x.1 46) (some true) (cnd (ieq x.1 95) (some true) (cnd (ieq x.1 45) (some true) (some (ieq x.1 43)))))) (cnd (ieq x.1 46) (some true) (cnd (ieq x.1 95) (some true) (cnd (ieq x.1 45) (some true) (some (ieq x.1 43)))))))
def F68 : Fn := ⟨[.val (.int .u8)], [.val (.bool)], S68⟩
def Γ68 : Ctx := ⟨alookup tys, alookup [], [], [], [], [], [], eqs, [], [], alookup [], alookup [], alookup []⟩
theorem e68 (k : Nat) (x : PT [.val (.int .u8)]) : S68 k x = runFn Γ68 k [.val (.int .u8)] [.val (.bool)] Tryd.f68.ntmps Tryd.f68.results.toList (Tryd.f68.body.getD .skip) x := by kernel_rfl
theorem c68 : CtxOK Tryd.prog JS Γ68 := ⟨tysOK.get, AllL.get (l := []) trivial, by kernel_rfl, eqsOK, AllL.get (l := []) trivial, AllL.get (l := []) trivial, AllL.get (l := []) trivial⟩
theorem ok68 : FnOK Tryd.prog JS 68 F68 := fnOK_of c68 (fn := Tryd.f68) (c := Tryd.f68.body.getD .skip) rfl rfl rfl (by decide) e68
/-- smithyard/smithyardref1.isPart -/
def S66 (k : Nat) (x : PT [.val (.str)]) : Option (OT [.val (.bool)]) :=
loopN k (fun (a2 : (Int → (Option Bool))) (a3 : Int) => cnd (ilt a3 (ssz x.1)) (bnd (bt? x.1 a3) (fun (a4 : Int) => bnd (S68 k (a4, ())) (fun (a5 : Bool) => cnd (bnot a5) (some false) (a2 (iadd Go.IntKind.i64 a3 1))))) (cnd (sne x.1 (⟨#[]⟩ : ByteArray)) (cnd (sne x.1 (⟨#[46]⟩ : ByteArray)) (some (sne x.1 (⟨#[46, 46]⟩ : ByteArray))) (some false)) (some false))) 0
def F66 : Fn := ⟨[.val (.str)], [.val (.bool)], S66⟩
def Γ66 : Ctx := ⟨alookup tys, alookup [(68, F68)], [(2, [3], [])], [], [], [], [], eqs, [], [], alookup [], alookup [], alookup []⟩
theorem e66 (k : Nat) (x : PT [.val (.str)]) : S66 k x = runFn Γ66 k [.val (.str)] [.val (.bool)] Tryd.f66.ntmps Tryd.f66.results.toList (Tryd.f66.body.getD .skip) x := by kernel_rfl
theorem c66 : CtxOK Tryd.prog JS Γ66 := ⟨tysOK.get, AllL.get (l := [(68, F68)]) ⟨ok68, trivial⟩, by kernel_rfl, eqsOK, AllL.get (l := []) trivial, AllL.get (l := []) trivial, AllL.get (l := []) trivial⟩
theorem ok66 : FnOK Tryd.prog JS 66 F66 := fnOK_of c66 (fn := Tryd.f66) (c := Tryd.f66.body.getD .skip) rfl rfl rfl (by decide) e66
/-- smithyard/smithyardref1.IsPath -/
def S42 (k : Nat) (x : PT [.val (.str)]) : Option (OT [.val (.bool)]) :=
bnd (S44 k (ssz x.1, 1, 200, ())) (fun (a2 : Bool) => cnd (bnot a2) (some false) (bnd (S35 k (x.1, (⟨#[47]⟩ : ByteArray), ())) (fun (a3 : (List ByteArray)) => loopN k (fun (a4 : (Int → (Option Bool))) (a5 : Int) => cnd (ilt a5 (len a3)) (bnd (at? a3 a5) (fun (a6 : ByteArray) => bnd (S66 k (a6, ())) (fun (a7 : Bool) => cnd (bnot a7) (some false) (a4 (iadd Go.IntKind.i64 a5 1))))) (some true)) 0)))
def F42 : Fn := ⟨[.val (.str)], [.val (.bool)], S42⟩
def Γ42 : Ctx := ⟨alookup tys, alookup [(44, F44), (35, F35), (66, F66)], [(5, [4], [])], [(5, [3])], [], [], [3, 10], eqs, [], [], alookup [], alookup [], alookup []⟩
theorem e42 (k : Nat) (x : PT [.val (.str)]) : S42 k x = runFn Γ42 k [.val (.str)] [.val (.bool)] Tryd.f42.ntmps Tryd.f42.results.toList (Tryd.f42.body.getD .skip) x := by kernel_rfl
theorem c42 : CtxOK Tryd.prog JS Γ42 := ⟨tysOK.get, AllL.get (l := [(44, F44), (35, F35), (66, F66)]) ⟨ok44, ok35, ok66, trivial⟩, by kernel_rfl, eqsOK, AllL.get (l := []) trivial, AllL.get (l := []) trivial, AllL.get (l := []) trivial⟩
theorem ok42 : FnOK Tryd.prog JS 42 F42 := fnOK_of c42 (fn := Tryd.f42) (c := Tryd.f42.body.getD .skip) rfl rfl rfl (by decide) e42
/-- smithyard/smithyardref1.there -/
def S67 (k : Nat) (x : PT [.val (.slice (.agg (.pair (.str) (.pair (.bool) (.slice (.int .u8)))))), .val (.str)]) : Option (OT [.val (.bool)]) :=
loopN k (fun (a2 : ((Int × Int) → (Option Bool))) (a3 : (Int × Int)) => cnd (ilt a3.1 a3.2) (bnd (iquo? Go.IntKind.i64 (iadd Go.IntKind.i64 a3.1 a3.2) 2) (fun (a4 : Int) => bnd (at? x.1 a4) (fun (a5 : (ByteArray × (Bool × (List Int)))) => cnd (slt a5.1 x.2.1) (a2 (iadd Go.IntKind.i64 a4 1, a3.2)) (a2 (a3.1, a4))))) (cnd (ilt a3.1 (len x.1)) (bnd (at? x.1 a3.1) (fun (a4 : (ByteArray × (Bool × (List Int)))) => some (seq a4.1 x.2.1))) (some false))) (0, len x.1)
def F67 : Fn := ⟨[.val (.slice (.agg (.pair (.str) (.pair (.bool) (.slice (.int .u8)))))), .val (.str)], [.val (.bool)], S67⟩
def Γ67 : Ctx := ⟨alookup tys, alookup [], [(2, [5, 6], [])], [], [], [], [], eqs, [], [], alookup [], alookup [], alookup []⟩
theorem e67 (k : Nat) (x : PT [.val (.slice (.agg (.pair (.str) (.pair (.bool) (.slice (.int .u8)))))), .val (.str)]) : S67 k x = runFn Γ67 k [.val (.slice (.agg (.pair (.str) (.pair (.bool) (.slice (.int .u8)))))), .val (.str)] [.val (.bool)] Tryd.f67.ntmps Tryd.f67.results.toList (Tryd.f67.body.getD .skip) x := by kernel_rfl
theorem c67 : CtxOK Tryd.prog JS Γ67 := ⟨tysOK.get, AllL.get (l := []) trivial, by kernel_rfl, eqsOK, AllL.get (l := []) trivial, AllL.get (l := []) trivial, AllL.get (l := []) trivial⟩
theorem ok67 : FnOK Tryd.prog JS 67 F67 := fnOK_of c67 (fn := Tryd.f67) (c := Tryd.f67.body.getD .skip) rfl rfl rfl (by decide) e67
/-- smithyard/smithyardref1.inside -/
def S43 (k : Nat) (x : PT [.val (.slice (.agg (.pair (.str) (.pair (.bool) (.slice (.int .u8)))))), .val (.str)]) : Option (OT [.val (.bool)]) :=
loopN k (fun (a2 : (Int → (Option Bool))) (a3 : Int) => cnd (ilt a3 (ssz x.2.1)) (bnd (bt? x.2.1 a3) (fun (a4 : Int) => cnd (ieq a4 47) (bnd (sub? x.2.1 0 a3) (fun (a5 : ByteArray) => bnd (S67 k (x.1, a5, ())) (fun (a6 : Bool) => cnd a6 (some true) (a2 (iadd Go.IntKind.i64 a3 1))))) (a2 (iadd Go.IntKind.i64 a3 1)))) (some false)) 0
def F43 : Fn := ⟨[.val (.slice (.agg (.pair (.str) (.pair (.bool) (.slice (.int .u8)))))), .val (.str)], [.val (.bool)], S43⟩
def Γ43 : Ctx := ⟨alookup tys, alookup [(67, F67)], [(2, [5], [])], [], [], [], [], eqs, [], [], alookup [], alookup [], alookup []⟩
theorem e43 (k : Nat) (x : PT [.val (.slice (.agg (.pair (.str) (.pair (.bool) (.slice (.int .u8)))))), .val (.str)]) : S43 k x = runFn Γ43 k [.val (.slice (.agg (.pair (.str) (.pair (.bool) (.slice (.int .u8)))))), .val (.str)] [.val (.bool)] Tryd.f43.ntmps Tryd.f43.results.toList (Tryd.f43.body.getD .skip) x := by kernel_rfl
theorem c43 : CtxOK Tryd.prog JS Γ43 := ⟨tysOK.get, AllL.get (l := [(67, F67)]) ⟨ok67, trivial⟩, by kernel_rfl, eqsOK, AllL.get (l := []) trivial, AllL.get (l := []) trivial, AllL.get (l := []) trivial⟩
theorem ok43 : FnOK Tryd.prog JS 43 F43 := fnOK_of c43 (fn := Tryd.f43) (c := Tryd.f43.body.getD .skip) rfl rfl rfl (by decide) e43
/-- smithyard/smithyardref1.CheckFiles -/
def S22 (k : Nat) (x : PT [.val (.slice (.agg (.pair (.str) (.pair (.bool) (.slice (.int .u8))))))]) : Option (OT [.val (.int .i64)]) :=
cnd (igt (len x.1) 1000) (some 2) (loopN k (fun (a2 : ((Int × Int) → (Option Int))) (a3 : (Int × Int)) => cnd (ilt a3.2 (len x.1)) (bnd (at? x.1 a3.2) (fun (a4 : (ByteArray × (Bool × (List Int)))) => bnd (S42 k (a4.1, ())) (fun (a5 : Bool) => cnd (bnot a5) (some 3) (bnd (at? x.1 a3.2) (fun (a6 : (ByteArray × (Bool × (List Int)))) => cnd (igt (len a6.2.2) 100000) (some 2) (cnd (igt a3.2 0) (bnd (at? x.1 a3.2) (fun (a7 : (ByteArray × (Bool × (List Int)))) => bnd (at? x.1 (isub Go.IntKind.i64 a3.2 1)) (fun (a8 : (ByteArray × (Bool × (List Int)))) => cnd (sle a7.1 a8.1) (some 8) (bnd (at? x.1 a3.2) (fun (a9 : (ByteArray × (Bool × (List Int)))) => a2 (iadd Go.IntKind.i64 a3.1 (len a9.2.2), iadd Go.IntKind.i64 a3.2 1)))))) (bnd (at? x.1 a3.2) (fun (a7 : (ByteArray × (Bool × (List Int)))) => a2 (iadd Go.IntKind.i64 a3.1 (len a7.2.2), iadd Go.IntKind.i64 a3.2 1))))))))) (loopN k (fun (a4 : (Int → (Option Int))) (a5 : Int) => cnd (ilt a5 (len x.1)) (bnd (at? x.1 a5) (fun (a6 : (ByteArray × (Bool × (List Int)))) => bnd (S43 k (x.1, a6.1, ())) (fun (a7 : Bool) => cnd a7 (some 12) (a4 (iadd Go.IntKind.i64 a5 1))))) (cnd (igt a3.1 2000000) (some 2) (some 0))) 0)) (0, 0))
def F22 : Fn := ⟨[.val (.slice (.agg (.pair (.str) (.pair (.bool) (.slice (.int .u8))))))], [.val (.int .i64)], S22⟩
def Γ22 : Ctx := ⟨alookup tys, alookup [(42, F42), (43, F43)], [(5, [3, 4], []), (15, [5], [])], [], [(11, 14)], [], [], eqs, [], [], alookup [], alookup [], alookup []⟩
theorem e22 (k : Nat) (x : PT [.val (.slice (.agg (.pair (.str) (.pair (.bool) (.slice (.int .u8))))))]) : S22 k x = runFn Γ22 k [.val (.slice (.agg (.pair (.str) (.pair (.bool) (.slice (.int .u8))))))] [.val (.int .i64)] Tryd.f22.ntmps Tryd.f22.results.toList (Tryd.f22.body.getD .skip) x := by kernel_rfl
theorem c22 : CtxOK Tryd.prog JS Γ22 := ⟨tysOK.get, AllL.get (l := [(42, F42), (43, F43)]) ⟨ok42, ok43, trivial⟩, by kernel_rfl, eqsOK, AllL.get (l := []) trivial, AllL.get (l := []) trivial, AllL.get (l := []) trivial⟩
theorem ok22 : FnOK Tryd.prog JS 22 F22 := fnOK_of c22 (fn := Tryd.f22) (c := Tryd.f22.body.getD .skip) rfl rfl rfl (by decide) e22
/-- smithyard/smithyardref1.isPatternPart -/
def S45 (k : Nat) (x : PT [.val (.str)]) : Option (OT [.val (.bool)]) :=
cnd (seq x.1 (⟨#[42, 42]⟩ : ByteArray)) (some true) (loopN k (fun (a2 : (Int → (Option Bool))) (a3 : Int) => cnd (ilt a3 (ssz x.1)) (bnd (bt? x.1 a3) (fun (a4 : Int) => bnd (S68 k (a4, ())) (fun (a5 : Bool) => cnd (bnot a5) (bnd (bt? x.1 a3) (fun (a6 : Int) => cnd (ine a6 42) (bnd (bt? x.1 a3) (fun (a7 : Int) => cnd (ine a7 63) (some false) (a2 (iadd Go.IntKind.i64 a3 1)))) (a2 (iadd Go.IntKind.i64 a3 1)))) (a2 (iadd Go.IntKind.i64 a3 1))))) (cnd (sne x.1 (⟨#[]⟩ : ByteArray)) (cnd (sne x.1 (⟨#[46]⟩ : ByteArray)) (cnd (sne x.1 (⟨#[46, 46]⟩ : ByteArray)) (bnd (S36 k (x.1, (⟨#[42, 42]⟩ : ByteArray), ())) (fun (a4 : Bool) => some (bnot a4))) (some false)) (some false)) (some false))) 0)
def F45 : Fn := ⟨[.val (.str)], [.val (.bool)], S45⟩
def Γ45 : Ctx := ⟨alookup tys, alookup [(68, F68), (36, F36)], [(4, [3], [])], [], [], [], [], eqs, [], [], alookup [], alookup [], alookup []⟩
theorem e45 (k : Nat) (x : PT [.val (.str)]) : S45 k x = runFn Γ45 k [.val (.str)] [.val (.bool)] Tryd.f45.ntmps Tryd.f45.results.toList (Tryd.f45.body.getD .skip) x := by kernel_rfl
theorem c45 : CtxOK Tryd.prog JS Γ45 := ⟨tysOK.get, AllL.get (l := [(68, F68), (36, F36)]) ⟨ok68, ok36, trivial⟩, by kernel_rfl, eqsOK, AllL.get (l := []) trivial, AllL.get (l := []) trivial, AllL.get (l := []) trivial⟩
theorem ok45 : FnOK Tryd.prog JS 45 F45 := fnOK_of c45 (fn := Tryd.f45) (c := Tryd.f45.body.getD .skip) rfl rfl rfl (by decide) e45
/-- smithyard/smithyardref1.CheckPattern -/
def S23 (k : Nat) (x : PT [.val (.str)]) : Option (OT [.val (.int .i64)]) :=
bnd (S44 k (ssz x.1, 1, 200, ())) (fun (a2 : Bool) => cnd (bnot a2) (some 3) (bnd (S35 k (x.1, (⟨#[47]⟩ : ByteArray), ())) (fun (a3 : (List ByteArray)) => loopN k (fun (a4 : (Int → (Option Int))) (a5 : Int) => cnd (ilt a5 (len a3)) (bnd (at? a3 a5) (fun (a6 : ByteArray) => bnd (S45 k (a6, ())) (fun (a7 : Bool) => cnd (bnot a7) (some 3) (a4 (iadd Go.IntKind.i64 a5 1))))) (some 0)) 0)))
def F23 : Fn := ⟨[.val (.str)], [.val (.int .i64)], S23⟩
def Γ23 : Ctx := ⟨alookup tys, alookup [(44, F44), (35, F35), (45, F45)], [(5, [4], [])], [(5, [3])], [], [], [3, 10], eqs, [], [], alookup [], alookup [], alookup []⟩
theorem e23 (k : Nat) (x : PT [.val (.str)]) : S23 k x = runFn Γ23 k [.val (.str)] [.val (.int .i64)] Tryd.f23.ntmps Tryd.f23.results.toList (Tryd.f23.body.getD .skip) x := by kernel_rfl
theorem c23 : CtxOK Tryd.prog JS Γ23 := ⟨tysOK.get, AllL.get (l := [(44, F44), (35, F35), (45, F45)]) ⟨ok44, ok35, ok45, trivial⟩, by kernel_rfl, eqsOK, AllL.get (l := []) trivial, AllL.get (l := []) trivial, AllL.get (l := []) trivial⟩
theorem ok23 : FnOK Tryd.prog JS 23 F23 := fnOK_of c23 (fn := Tryd.f23) (c := Tryd.f23.body.getD .skip) rfl rfl rfl (by decide) e23
/-- smithyard/smithyardref1.partFits -/
def S69 (k : Nat) (x : PT [.val (.str), .val (.str)]) : Option (OT [.val (.bool)]) :=
bnd (mk? 1 false (iadd Go.IntKind.i64 (ssz x.2.1) 1) (iadd Go.IntKind.i64 (ssz x.2.1) 1)) (fun (a2 : (List Bool)) => bnd (inb (len a2) 0) (fun (a3 : Unit) => loopN k (fun (a4 : (((List Bool) × Int) → (Option Bool))) (a5 : ((List Bool) × Int)) => cnd (ilt a5.2 (ssz x.1)) (bnd (mk? 1 false (iadd Go.IntKind.i64 (ssz x.2.1) 1) (iadd Go.IntKind.i64 (ssz x.2.1) 1)) (fun (a6 : (List Bool)) => loopN k (fun (a7 : ((Int × (List Bool)) → (Option Bool))) (a8 : (Int × (List Bool))) => cnd (ile a8.1 (ssz x.2.1)) (jn (fun (a9 : ((List Bool) → (Option Bool))) => bnd (bt? x.1 a5.2) (fun (a10 : Int) => cnd (ieq a10 42) (bnd (at? a5.1 a8.1) (fun (a11 : Bool) => cnd a11 (bnd (inb (len a8.2) a8.1) (fun (a12 : Unit) => a9 (setAt a8.2 a8.1 true))) (cnd (igt a8.1 0) (bnd (inb (len a8.2) (isub Go.IntKind.i64 a8.1 1)) (fun (a12 : Unit) => bnd (inb (len a8.2) a8.1) (fun (a13 : Unit) => a9 (setAt a8.2 a8.1 (gt false a8.2 (isub Go.IntKind.i64 a8.1 1)))))) (bnd (inb (len a8.2) a8.1) (fun (a12 : Unit) => a9 (setAt a8.2 a8.1 false)))))) (cnd (igt a8.1 0) (bnd (at? a5.1 (isub Go.IntKind.i64 a8.1 1)) (fun (a11 : Bool) => cnd a11 (bnd (bt? x.1 a5.2) (fun (a12 : Int) => cnd (ieq a12 63) (bnd (inb (len a8.2) a8.1) (fun (a13 : Unit) => a9 (setAt a8.2 a8.1 true))) (bnd (bt? x.1 a5.2) (fun (a13 : Int) => bnd (bt? x.2.1 (isub Go.IntKind.i64 a8.1 1)) (fun (a14 : Int) => bnd (inb (len a8.2) a8.1) (fun (a15 : Unit) => a9 (setAt a8.2 a8.1 (ieq a13 a14)))))))) (bnd (inb (len a8.2) a8.1) (fun (a12 : Unit) => a9 (setAt a8.2 a8.1 false))))) (bnd (inb (len a8.2) a8.1) (fun (a11 : Unit) => a9 (setAt a8.2 a8.1 false)))))) (fun (a9 : (List Bool)) => a7 (iadd Go.IntKind.i64 a8.1 1, a9))) (a4 (a8.2, iadd Go.IntKind.i64 a5.2 1))) (0, a6))) (bnd (inb (len a5.1) (ssz x.2.1)) (fun (a6 : Unit) => some (gt false a5.1 (ssz x.2.1))))) (setAt a2 0 true, 0)))
def F69 : Fn := ⟨[.val (.str), .val (.str)], [.val (.bool)], S69⟩
def Γ69 : Ctx := ⟨alookup tys, alookup [], [(4, [5, 6], []), (8, [8, 7], [])], [(8, [5])], [(12, 27)], [], [], eqs, [(9, [7], [7], [.arr (.bool)], [])], [], alookup [], alookup [], alookup []⟩
theorem e69 (k : Nat) (x : PT [.val (.str), .val (.str)]) : S69 k x = runFn Γ69 k [.val (.str), .val (.str)] [.val (.bool)] Tryd.f69.ntmps Tryd.f69.results.toList (Tryd.f69.body.getD .skip) x := by kernel_rfl
theorem c69 : CtxOK Tryd.prog JS Γ69 := ⟨tysOK.get, AllL.get (l := []) trivial, by kernel_rfl, eqsOK, AllL.get (l := []) trivial, AllL.get (l := []) trivial, AllL.get (l := []) trivial⟩
theorem ok69 : FnOK Tryd.prog JS 69 F69 := fnOK_of c69 (fn := Tryd.f69) (c := Tryd.f69.body.getD .skip) rfl rfl rfl (by decide) e69
/-- smithyard/smithyardref1.FitsOf -/
def S46 (k : Nat) (x : PT [.val (.str), .val (.str)]) : Option (OT [.val (.bool)]) :=
bnd (S35 k (x.2.1, (⟨#[47]⟩ : ByteArray), ())) (fun (a2 : (List ByteArray)) => bnd (mk? 1 false (iadd Go.IntKind.i64 (len a2) 1) (iadd Go.IntKind.i64 (len a2) 1)) (fun (a3 : (List Bool)) => bnd (inb (len a3) 0) (fun (a4 : Unit) => bnd (S35 k (x.1, (⟨#[47]⟩ : ByteArray), ())) (fun (a5 : (List ByteArray)) => loopN k (fun (a6 : (((List Bool) × Int) → (Option Bool))) (a7 : ((List Bool) × Int)) => cnd (ilt a7.2 (len a5)) (bnd (mk? 1 false (iadd Go.IntKind.i64 (len a2) 1) (iadd Go.IntKind.i64 (len a2) 1)) (fun (a8 : (List Bool)) => loopN k (fun (a9 : ((Int × (List Bool)) → (Option Bool))) (a10 : (Int × (List Bool))) => cnd (ile a10.1 (len a2)) (jn (fun (a11 : ((List Bool) → (Option Bool))) => bnd (at? a5 a7.2) (fun (a12 : ByteArray) => cnd (seq a12 (⟨#[42, 42]⟩ : ByteArray)) (bnd (at? a7.1 a10.1) (fun (a13 : Bool) => cnd a13 (bnd (inb (len a10.2) a10.1) (fun (a14 : Unit) => a11 (setAt a10.2 a10.1 true))) (cnd (igt a10.1 0) (bnd (inb (len a10.2) (isub Go.IntKind.i64 a10.1 1)) (fun (a14 : Unit) => bnd (inb (len a10.2) a10.1) (fun (a15 : Unit) => a11 (setAt a10.2 a10.1 (gt false a10.2 (isub Go.IntKind.i64 a10.1 1)))))) (bnd (inb (len a10.2) a10.1) (fun (a14 : Unit) => a11 (setAt a10.2 a10.1 false)))))) (cnd (igt a10.1 0) (bnd (at? a7.1 (isub Go.IntKind.i64 a10.1 1)) (fun (a13 : Bool) => cnd a13 (bnd (at? a5 a7.2) (fun (a14 : ByteArray) => bnd (at? a2 (isub Go.IntKind.i64 a10.1 1)) (fun (a15 : ByteArray) => bnd (S69 k (a14, a15, ())) (fun (a16 : Bool) => bnd (inb (len a10.2) a10.1) (fun (a17 : Unit) => a11 (setAt a10.2 a10.1 a16)))))) (bnd (inb (len a10.2) a10.1) (fun (a14 : Unit) => a11 (setAt a10.2 a10.1 false))))) (bnd (inb (len a10.2) a10.1) (fun (a13 : Unit) => a11 (setAt a10.2 a10.1 false)))))) (fun (a11 : (List Bool)) => a9 (iadd Go.IntKind.i64 a10.1 1, a11))) (a6 (a10.2, iadd Go.IntKind.i64 a7.2 1))) (0, a8))) (bnd (inb (len a7.1) (len a2)) (fun (a8 : Unit) => some (gt false a7.1 (len a2))))) (setAt a3 0 true, 0)))))
def F46 : Fn := ⟨[.val (.str), .val (.str)], [.val (.bool)], S46⟩
def Γ46 : Ctx := ⟨alookup tys, alookup [(35, F35), (69, F69)], [(6, [6, 8], []), (10, [10, 9], [])], [(6, [5, 7]), (10, [5, 6, 7])], [(14, 23)], [], [5, 7, 12, 20], eqs, [(11, [9], [9], [.arr (.bool)], [])], [], alookup [], alookup [], alookup []⟩
theorem e46 (k : Nat) (x : PT [.val (.str), .val (.str)]) : S46 k x = runFn Γ46 k [.val (.str), .val (.str)] [.val (.bool)] Tryd.f46.ntmps Tryd.f46.results.toList (Tryd.f46.body.getD .skip) x := by kernel_rfl
theorem c46 : CtxOK Tryd.prog JS Γ46 := ⟨tysOK.get, AllL.get (l := [(35, F35), (69, F69)]) ⟨ok35, ok69, trivial⟩, by kernel_rfl, eqsOK, AllL.get (l := []) trivial, AllL.get (l := []) trivial, AllL.get (l := []) trivial⟩
theorem ok46 : FnOK Tryd.prog JS 46 F46 := fnOK_of c46 (fn := Tryd.f46) (c := Tryd.f46.body.getD .skip) rfl rfl rfl (by decide) e46
/-- smithyard/smithyardref1.fitsOne -/
def S24 (k : Nat) (x : PT [.val (.slice (.str)), .val (.str)]) : Option (OT [.val (.bool)]) :=
loopN k (fun (a2 : (Int → (Option Bool))) (a3 : Int) => cnd (ilt a3 (len x.1)) (bnd (at? x.1 a3) (fun (a4 : ByteArray) => bnd (S46 k (a4, x.2.1, ())) (fun (a5 : Bool) => cnd a5 (some true) (a2 (iadd Go.IntKind.i64 a3 1))))) (some false)) 0
def F24 : Fn := ⟨[.val (.slice (.str)), .val (.str)], [.val (.bool)], S24⟩
def Γ24 : Ctx := ⟨alookup tys, alookup [(46, F46)], [(2, [5], [])], [], [], [], [], eqs, [], [], alookup [], alookup [], alookup []⟩
theorem e24 (k : Nat) (x : PT [.val (.slice (.str)), .val (.str)]) : S24 k x = runFn Γ24 k [.val (.slice (.str)), .val (.str)] [.val (.bool)] Tryd.f24.ntmps Tryd.f24.results.toList (Tryd.f24.body.getD .skip) x := by kernel_rfl
theorem c24 : CtxOK Tryd.prog JS Γ24 := ⟨tysOK.get, AllL.get (l := [(46, F46)]) ⟨ok46, trivial⟩, by kernel_rfl, eqsOK, AllL.get (l := []) trivial, AllL.get (l := []) trivial, AllL.get (l := []) trivial⟩
theorem ok24 : FnOK Tryd.prog JS 24 F24 := fnOK_of c24 (fn := Tryd.f24) (c := Tryd.f24.body.getD .skip) rfl rfl rfl (by decide) e24
/-- smithyard/smithyardref1.Select -/
def S8 (k : Nat) (x : PT [.val (.slice (.agg (.pair (.str) (.pair (.bool) (.slice (.int .u8)))))), .val (.slice (.str)), .val (.slice (.str))]) : Option (OT [.val (.slice (.str)), .val (.int .i64)]) :=
bnd (S22 k (x.1, ())) (fun (a2 : Int) => cnd (ine a2 0) (some (([] : List ByteArray), a2)) (loopN k (fun (a3 : (Int → (Option ((List ByteArray) × Int)))) (a4 : Int) => cnd (ilt a4 (len x.2.1)) (bnd (at? x.2.1 a4) (fun (a5 : ByteArray) => bnd (S23 k (a5, ())) (fun (a6 : Int) => cnd (ine a6 0) (some (([] : List ByteArray), a6)) (a3 (iadd Go.IntKind.i64 a4 1))))) (loopN k (fun (a5 : (Int → (Option ((List ByteArray) × Int)))) (a6 : Int) => cnd (ilt a6 (len x.2.2.1)) (bnd (at? x.2.2.1 a6) (fun (a7 : ByteArray) => bnd (S23 k (a7, ())) (fun (a8 : Int) => cnd (ine a8 0) (some (([] : List ByteArray), a8)) (a5 (iadd Go.IntKind.i64 a6 1))))) (loopN k (fun (a7 : (((List ByteArray) × Int) → (Option ((List ByteArray) × Int)))) (a8 : ((List ByteArray) × Int)) => cnd (ilt a8.2 (len x.1)) (bnd (at? x.1 a8.2) (fun (a9 : (ByteArray × (Bool × (List Int)))) => bnd (S24 k (x.2.1, a9.1, ())) (fun (a10 : Bool) => cnd a10 (bnd (at? x.1 a8.2) (fun (a11 : (ByteArray × (Bool × (List Int)))) => bnd (S24 k (x.2.2.1, a11.1, ())) (fun (a12 : Bool) => cnd (bnot a12) (bnd (at? x.1 a8.2) (fun (a13 : (ByteArray × (Bool × (List Int)))) => bnd (app? 16 a8.1 (a13.1 :: ([] : List ByteArray))) (fun (a14 : (List ByteArray)) => a7 (a14, iadd Go.IntKind.i64 a8.2 1)))) (a7 (a8.1, iadd Go.IntKind.i64 a8.2 1))))) (a7 (a8.1, iadd Go.IntKind.i64 a8.2 1))))) (some (a8.1, 0))) (([] : List ByteArray), 0))) 0)) 0))
def F8 : Fn := ⟨[.val (.slice (.agg (.pair (.str) (.pair (.bool) (.slice (.int .u8)))))), .val (.slice (.str)), .val (.slice (.str))], [.val (.slice (.str)), .val (.int .i64)], S8⟩
def Γ8 : Ctx := ⟨alookup tys, alookup [(22, F22), (23, F23), (24, F24)], [(5, [9], []), (11, [11], []), (18, [13, 14], [])], [], [], [], [6, 77], eqs, [], [], alookup [], alookup [], alookup []⟩
theorem e8 (k : Nat) (x : PT [.val (.slice (.agg (.pair (.str) (.pair (.bool) (.slice (.int .u8)))))), .val (.slice (.str)), .val (.slice (.str))]) : S8 k x = runFn Γ8 k [.val (.slice (.agg (.pair (.str) (.pair (.bool) (.slice (.int .u8)))))), .val (.slice (.str)), .val (.slice (.str))] [.val (.slice (.str)), .val (.int .i64)] Tryd.f8.ntmps Tryd.f8.results.toList (Tryd.f8.body.getD .skip) x := by kernel_rfl
theorem c8 : CtxOK Tryd.prog JS Γ8 := ⟨tysOK.get, AllL.get (l := [(22, F22), (23, F23), (24, F24)]) ⟨ok22, ok23, ok24, trivial⟩, by kernel_rfl, eqsOK, AllL.get (l := []) trivial, AllL.get (l := []) trivial, AllL.get (l := []) trivial⟩
theorem ok8 : FnOK Tryd.prog JS 8 F8 := fnOK_of c8 (fn := Tryd.f8) (c := Tryd.f8.body.getD .skip) rfl rfl rfl (by decide) e8
/-- slices.Equal[[]string,string] -/
def S9 (k : Nat) (x : PT [.val (.slice (.str)), .val (.slice (.str))]) : Option (OT [.val (.bool)]) :=
cnd (ine (len x.1) (len x.2.1)) (some false) (loopN k (fun (a2 : (Int → (Option Bool))) (a3 : Int) => cnd (ilt a3 (len x.1)) (bnd (at? x.1 a3) (fun (a4 : ByteArray) => bnd (at? x.2.1 a3) (fun (a5 : ByteArray) => cnd (sne a4 a5) (some false) (a2 (iadd Go.IntKind.i64 a3 1))))) (some true)) 0)
def F9 : Fn := ⟨[.val (.slice (.str)), .val (.slice (.str))], [.val (.bool)], S9⟩
def Γ9 : Ctx := ⟨alookup tys, alookup [], [(4, [13], [])], [], [(6, 8)], [], [], eqs, [], [], alookup [], alookup [], alookup []⟩
theorem e9 (k : Nat) (x : PT [.val (.slice (.str)), .val (.slice (.str))]) : S9 k x = runFn Γ9 k [.val (.slice (.str)), .val (.slice (.str))] [.val (.bool)] Tryd.f9.ntmps Tryd.f9.results.toList (Tryd.f9.body.getD .skip) x := by kernel_rfl
theorem c9 : CtxOK Tryd.prog JS Γ9 := ⟨tysOK.get, AllL.get (l := []) trivial, by kernel_rfl, eqsOK, AllL.get (l := []) trivial, AllL.get (l := []) trivial, AllL.get (l := []) trivial⟩
theorem ok9 : FnOK Tryd.prog JS 9 F9 := fnOK_of c9 (fn := Tryd.f9) (c := Tryd.f9.body.getD .skip) rfl rfl rfl (by decide) e9
/-- bytes.Equal -/
def S47 (k : Nat) (x : PT [.val (.slice (.int .u8)), .val (.slice (.int .u8))]) : Option (OT [.val (.bool)]) :=
some (seq (strOf x.1) (strOf x.2.1))
def F47 : Fn := ⟨[.val (.slice (.int .u8)), .val (.slice (.int .u8))], [.val (.bool)], S47⟩
def Γ47 : Ctx := ⟨alookup tys, alookup [], [], [], [], [], [], eqs, [], [], alookup [], alookup [], alookup []⟩
theorem e47 (k : Nat) (x : PT [.val (.slice (.int .u8)), .val (.slice (.int .u8))]) : S47 k x = runFn Γ47 k [.val (.slice (.int .u8)), .val (.slice (.int .u8))] [.val (.bool)] Tryd.f47.ntmps Tryd.f47.results.toList (Tryd.f47.body.getD .skip) x := by kernel_rfl
theorem c47 : CtxOK Tryd.prog JS Γ47 := ⟨tysOK.get, AllL.get (l := []) trivial, by kernel_rfl, eqsOK, AllL.get (l := []) trivial, AllL.get (l := []) trivial, AllL.get (l := []) trivial⟩
theorem ok47 : FnOK Tryd.prog JS 47 F47 := fnOK_of c47 (fn := Tryd.f47) (c := Tryd.f47.body.getD .skip) rfl rfl rfl (by decide) e47
/-- smithyard/smithyardref1.SameFile -/
def S25 (k : Nat) (x : PT [.val (.agg (.pair (.str) (.pair (.bool) (.slice (.int .u8))))), .val (.agg (.pair (.str) (.pair (.bool) (.slice (.int .u8)))))]) : Option (OT [.val (.bool)]) :=
cnd (seq x.1.1 x.2.1.1) (cnd (beq2 x.1.2.1 x.2.1.2.1) (bnd (S47 k (x.1.2.2, x.2.1.2.2, ())) (fun (a2 : Bool) => some a2)) (some false)) (some false)
def F25 : Fn := ⟨[.val (.agg (.pair (.str) (.pair (.bool) (.slice (.int .u8))))), .val (.agg (.pair (.str) (.pair (.bool) (.slice (.int .u8)))))], [.val (.bool)], S25⟩
def Γ25 : Ctx := ⟨alookup tys, alookup [(47, F47)], [], [], [], [], [], eqs, [], [], alookup [], alookup [], alookup []⟩
theorem e25 (k : Nat) (x : PT [.val (.agg (.pair (.str) (.pair (.bool) (.slice (.int .u8))))), .val (.agg (.pair (.str) (.pair (.bool) (.slice (.int .u8)))))]) : S25 k x = runFn Γ25 k [.val (.agg (.pair (.str) (.pair (.bool) (.slice (.int .u8))))), .val (.agg (.pair (.str) (.pair (.bool) (.slice (.int .u8)))))] [.val (.bool)] Tryd.f25.ntmps Tryd.f25.results.toList (Tryd.f25.body.getD .skip) x := by kernel_rfl
theorem c25 : CtxOK Tryd.prog JS Γ25 := ⟨tysOK.get, AllL.get (l := [(47, F47)]) ⟨ok47, trivial⟩, by kernel_rfl, eqsOK, AllL.get (l := []) trivial, AllL.get (l := []) trivial, AllL.get (l := []) trivial⟩
theorem ok25 : FnOK Tryd.prog JS 25 F25 := fnOK_of c25 (fn := Tryd.f25) (c := Tryd.f25.body.getD .skip) rfl rfl rfl (by decide) e25
/-- smithyard/smithyardref1.SameFiles -/
def S10 (k : Nat) (x : PT [.val (.slice (.agg (.pair (.str) (.pair (.bool) (.slice (.int .u8)))))), .val (.slice (.agg (.pair (.str) (.pair (.bool) (.slice (.int .u8))))))]) : Option (OT [.val (.bool)]) :=
cnd (ine (len x.1) (len x.2.1)) (some false) (loopN k (fun (a2 : (Int → (Option Bool))) (a3 : Int) => cnd (ilt a3 (len x.1)) (bnd (at? x.1 a3) (fun (a4 : (ByteArray × (Bool × (List Int)))) => bnd (at? x.2.1 a3) (fun (a5 : (ByteArray × (Bool × (List Int)))) => bnd (S25 k (a4, a5, ())) (fun (a6 : Bool) => cnd (bnot a6) (some false) (a2 (iadd Go.IntKind.i64 a3 1)))))) (some true)) 0)
def F10 : Fn := ⟨[.val (.slice (.agg (.pair (.str) (.pair (.bool) (.slice (.int .u8)))))), .val (.slice (.agg (.pair (.str) (.pair (.bool) (.slice (.int .u8))))))], [.val (.bool)], S10⟩
def Γ10 : Ctx := ⟨alookup tys, alookup [(25, F25)], [(4, [5], [])], [], [(6, 8)], [], [], eqs, [], [], alookup [], alookup [], alookup []⟩
theorem e10 (k : Nat) (x : PT [.val (.slice (.agg (.pair (.str) (.pair (.bool) (.slice (.int .u8)))))), .val (.slice (.agg (.pair (.str) (.pair (.bool) (.slice (.int .u8))))))]) : S10 k x = runFn Γ10 k [.val (.slice (.agg (.pair (.str) (.pair (.bool) (.slice (.int .u8)))))), .val (.slice (.agg (.pair (.str) (.pair (.bool) (.slice (.int .u8))))))] [.val (.bool)] Tryd.f10.ntmps Tryd.f10.results.toList (Tryd.f10.body.getD .skip) x := by kernel_rfl
theorem c10 : CtxOK Tryd.prog JS Γ10 := ⟨tysOK.get, AllL.get (l := [(25, F25)]) ⟨ok25, trivial⟩, by kernel_rfl, eqsOK, AllL.get (l := []) trivial, AllL.get (l := []) trivial, AllL.get (l := []) trivial⟩
theorem ok10 : FnOK Tryd.prog JS 10 F10 := fnOK_of c10 (fn := Tryd.f10) (c := Tryd.f10.body.getD .skip) rfl rfl rfl (by decide) e10
/-- smithyard/blob.Digest -/
def S26 (k : Nat) (x : PT [.val (.slice (.int .u8))]) : Option (OT [.val (.str)]) :=
loopN k (fun (a2 : ((Int × Int) → (Option ByteArray))) (a3 : (Int × Int)) => cnd (ilt a3.2 (len x.1)) (bnd (at? x.1 a3.2) (fun (a4 : Int) => a2 (imul Go.IntKind.u64 (ixor Go.IntKind.u64 a3.1 (iwr Go.IntKind.u64 a4)) 1099511628211, iadd Go.IntKind.i64 a3.2 1))) (bnd (mk? 1 0 16 16) (fun (a4 : (List Int)) => loopN k (fun (a5 : ((Int × (Int × (List Int))) → (Option ByteArray))) (a6 : (Int × (Int × (List Int)))) => cnd (ilt a6.2.1 (len a4)) (bnd (bt? (⟨#[48, 49, 50, 51, 52, 53, 54, 55, 56, 57, 97, 98, 99, 100, 101, 102]⟩ : ByteArray) (iand Go.IntKind.u64 a6.1 15)) (fun (a7 : Int) => bnd (inb (len a6.2.2) (isub Go.IntKind.i64 15 a6.2.1)) (fun (a8 : Unit) => bnd (ishr? Go.IntKind.u64 a6.1 4) (fun (a9 : Int) => a5 (a9, iadd Go.IntKind.i64 a6.2.1 1, setAt a6.2.2 (isub Go.IntKind.i64 15 a6.2.1) a7))))) (some (strOf a6.2.2))) (a3.1, 0, a4)))) (14695981039346656037, 0)
def F26 : Fn := ⟨[.val (.slice (.int .u8))], [.val (.str)], S26⟩
def Γ26 : Ctx := ⟨alookup tys, alookup [], [(3, [3, 10], []), (9, [3, 23, 6], [])], [(3, [8])], [], [], [], eqs, [], [], alookup [], alookup [], alookup []⟩
theorem e26 (k : Nat) (x : PT [.val (.slice (.int .u8))]) : S26 k x = runFn Γ26 k [.val (.slice (.int .u8))] [.val (.str)] Tryd.f26.ntmps Tryd.f26.results.toList (Tryd.f26.body.getD .skip) x := by kernel_rfl
theorem c26 : CtxOK Tryd.prog JS Γ26 := ⟨tysOK.get, AllL.get (l := []) trivial, by kernel_rfl, eqsOK, AllL.get (l := []) trivial, AllL.get (l := []) trivial, AllL.get (l := []) trivial⟩
theorem ok26 : FnOK Tryd.prog JS 26 F26 := fnOK_of c26 (fn := Tryd.f26) (c := Tryd.f26.body.getD .skip) rfl rfl rfl (by decide) e26
/-- smithyard/smithyardlaw1.awake -/
def S11 (k : Nat) (x : PT []) : Option (OT [.val (.bool)]) :=
bnd (S26 k (([] : List Int), ())) (fun (a2 : ByteArray) => some (seq a2 (⟨#[99, 98, 102, 50, 57, 99, 101, 52, 56, 52, 50, 50, 50, 51, 50, 53]⟩ : ByteArray)))
def F11 : Fn := ⟨[], [.val (.bool)], S11⟩
def Γ11 : Ctx := ⟨alookup tys, alookup [(26, F26)], [], [], [], [], [], eqs, [], [], alookup [], alookup [], alookup []⟩
theorem e11 (k : Nat) (x : PT []) : S11 k x = runFn Γ11 k [] [.val (.bool)] Tryd.f11.ntmps Tryd.f11.results.toList (Tryd.f11.body.getD .skip) x := by kernel_rfl
theorem c11 : CtxOK Tryd.prog JS Γ11 := ⟨tysOK.get, AllL.get (l := [(26, F26)]) ⟨ok26, trivial⟩, by kernel_rfl, eqsOK, AllL.get (l := []) trivial, AllL.get (l := []) trivial, AllL.get (l := []) trivial⟩
theorem ok11 : FnOK Tryd.prog JS 11 F11 := fnOK_of c11 (fn := Tryd.f11) (c := Tryd.f11.body.getD .skip) rfl rfl rfl (by decide) e11
/-- smithyard/smithyardlaw1.BlobSelectsMatchSpec -/
def S3 (k : Nat) (x : PT [.val (.slice (.agg (.pair (.str) (.pair (.bool) (.slice (.int .u8)))))), .val (.slice (.str)), .val (.slice (.str))]) : Option (OT [.val (.bool)]) :=
bnd (S5 k (x.1, ())) (fun (a2 : (List (ByteArray × (Bool × (List Int))))) => bnd (S6 k (x.2.1, ())) (fun (a3 : (List ByteArray)) => bnd (S6 k (x.2.2.1, ())) (fun (a4 : (List ByteArray)) => bnd (S7 k (x.1, x.2.1, x.2.2.1, ())) (fun (a5 : ((List ByteArray) × Int)) => bnd (S8 k (a2, a3, a4, ())) (fun (a6 : ((List ByteArray) × Int)) => bnd (S9 k (a5.1, a6.1, ())) (fun (a7 : Bool) => cnd a7 (cnd (ieq a5.2 a6.2) (bnd (S10 k (x.1, a2, ())) (fun (a8 : Bool) => cnd a8 (bnd (S9 k (x.2.1, a3, ())) (fun (a9 : Bool) => cnd a9 (bnd (S9 k (x.2.2.1, a4, ())) (fun (a10 : Bool) => cnd a10 (bnd (S11 k ()) (fun (a11 : Bool) => some a11)) (some false))) (some false))) (some false))) (some false)) (some false)))))))
def F3 : Fn := ⟨[.val (.slice (.agg (.pair (.str) (.pair (.bool) (.slice (.int .u8)))))), .val (.slice (.str)), .val (.slice (.str))], [.val (.bool)], S3⟩
def Γ3 : Ctx := ⟨alookup tys, alookup [(5, F5), (6, F6), (7, F7), (8, F8), (9, F9), (10, F10), (11, F11)], [], [], [], [], [7, 8, 9, 10, 12, 15, 17, 19], eqs, [], [], alookup [], alookup [], alookup []⟩
theorem e3 (k : Nat) (x : PT [.val (.slice (.agg (.pair (.str) (.pair (.bool) (.slice (.int .u8)))))), .val (.slice (.str)), .val (.slice (.str))]) : S3 k x = runFn Γ3 k [.val (.slice (.agg (.pair (.str) (.pair (.bool) (.slice (.int .u8)))))), .val (.slice (.str)), .val (.slice (.str))] [.val (.bool)] Tryd.f3.ntmps Tryd.f3.results.toList (Tryd.f3.body.getD .skip) x := by kernel_rfl
theorem c3 : CtxOK Tryd.prog JS Γ3 := ⟨tysOK.get, AllL.get (l := [(5, F5), (6, F6), (7, F7), (8, F8), (9, F9), (10, F10), (11, F11)]) ⟨ok5, ok6, ok7, ok8, ok9, ok10, ok11, trivial⟩, by kernel_rfl, eqsOK, AllL.get (l := []) trivial, AllL.get (l := []) trivial, AllL.get (l := []) trivial⟩
theorem ok3 : FnOK Tryd.prog JS 3 F3 := fnOK_of c3 (fn := Tryd.f3) (c := Tryd.f3.body.getD .skip) rfl rfl rfl (by decide) e3
end Go.Proofs.YtocgdpnealaoeaaDoor.Ev
