/- Sel: the functions as plain Lean, and that they are the program's (printed by this session's own wip/ev/gen.py) -/
import Derived.Test.YtjdfbpjbobmgdaaDoorEv2
import Derived.Test.YtjdfbpjbobmgdaaDoorProg
import Derived.Test.YtjdfbpjbobmgdaaDoorGvSel
namespace Go.Proofs.YtjdfbpjbobmgdaaDoor.Ev
open Go Go.Proofs Go.RowKit
set_option linter.unusedVariables false
set_option maxRecDepth 100000
theorem ty_2 : TyOK Tryd.prog 2 ⟨.int .i64, [], 0, 0, 0⟩ := ⟨⟨rfl, rfl, ⟨_, rfl, rfl, _, rfl, rfl⟩, ⟨_, rfl, rfl⟩⟩, rfl⟩
theorem ty_3 : TyOK Tryd.prog 3 ⟨.int .i64, [], 0, 0, 0⟩ := ⟨⟨rfl, rfl, ⟨_, rfl, rfl, _, rfl, rfl⟩, ⟨_, rfl, rfl⟩⟩, rfl⟩
theorem ty_4 : TyOK Tryd.prog 4 ⟨.bool, [], 0, 0, 0⟩ := ⟨⟨rfl, rfl, ⟨_, rfl, rfl, _, rfl, rfl⟩, ⟨_, rfl, rfl⟩⟩, rfl⟩
theorem ty_5 : TyOK Tryd.prog 5 ⟨.int .u8, [], 0, 0, 0⟩ := ⟨⟨rfl, rfl, ⟨_, rfl, rfl, _, rfl, rfl⟩, ⟨_, rfl, rfl⟩⟩, rfl⟩
theorem ty_9 : TyOK Tryd.prog 9 ⟨.str, [], 0, 0, 0⟩ := ⟨⟨rfl, rfl, ⟨_, rfl, rfl, _, rfl, rfl⟩, ⟨_, rfl, rfl⟩⟩, rfl⟩
theorem ty_22 : TyOK Tryd.prog 22 ⟨.int .i64, [], 0, 0, 0⟩ := ⟨⟨rfl, rfl, ⟨_, rfl, rfl, _, rfl, rfl⟩, ⟨_, rfl, rfl⟩⟩, rfl⟩
theorem ty_32 : TyOK Tryd.prog 32 ⟨.slice (.int .u8), [], 0, 5, 1⟩ := ⟨⟨trivial, rfl, ⟨_, rfl, rfl, _, rfl, rfl⟩, ⟨_, rfl, rfl⟩⟩, ⟨rfl, ty_5.1, fun i h => by cases h; rfl⟩⟩
theorem ty_34 : TyOK Tryd.prog 34 ⟨.agg (.pair (.str) (.pair (.bool) (.slice (.int .u8)))), [(0, 9), (1, 4), (2, 32)], 0, 0, 0⟩ := ⟨⟨trivial, rfl, ⟨_, rfl, rfl, _, rfl, rfl⟩, ⟨_, rfl, rfl⟩⟩, ⟨_, rfl, rfl, fun f off tf h => by
  match f, h with
  | 0, h => cases h; exact ⟨_, rfl, rfl, rfl, _, rfl⟩
  | 1, h => cases h; exact ⟨_, rfl, rfl, rfl, _, rfl⟩
  | 2, h => cases h; exact ⟨_, rfl, rfl, rfl, _, rfl⟩
  | _ + 3, h => cases h⟩⟩
theorem ty_28 : TyOK Tryd.prog 28 ⟨.slice (.agg (.pair (.str) (.pair (.bool) (.slice (.int .u8))))), [], 0, 34, 48⟩ := ⟨⟨trivial, rfl, ⟨_, rfl, rfl, _, rfl, rfl⟩, ⟨_, rfl, rfl⟩⟩, ⟨rfl, ty_34.1, fun i h => by cases h; rfl⟩⟩
theorem ty_29 : TyOK Tryd.prog 29 ⟨.slice (.str), [], 0, 9, 16⟩ := ⟨⟨trivial, rfl, ⟨_, rfl, rfl, _, rfl, rfl⟩, ⟨_, rfl, rfl⟩⟩, ⟨rfl, ty_9.1, fun i h => by cases h; rfl⟩⟩
theorem ty_53 : TyOK Tryd.prog 53 ⟨.slice (.bool), [], 0, 4, 1⟩ := ⟨⟨trivial, rfl, ⟨_, rfl, rfl, _, rfl, rfl⟩, ⟨_, rfl, rfl⟩⟩, ⟨rfl, ty_4.1, fun i h => by cases h; rfl⟩⟩
theorem ty_57 : TyOK Tryd.prog 57 ⟨.int .u64, [], 0, 0, 0⟩ := ⟨⟨rfl, rfl, ⟨_, rfl, rfl, _, rfl, rfl⟩, ⟨_, rfl, rfl⟩⟩, rfl⟩
theorem ty_58 : TyOK Tryd.prog 58 ⟨.int .u64, [], 0, 0, 0⟩ := ⟨⟨rfl, rfl, ⟨_, rfl, rfl, _, rfl, rfl⟩, ⟨_, rfl, rfl⟩⟩, rfl⟩
theorem ty_59 : TyOK Tryd.prog 59 ⟨.map (.str) (.bool), [], 9, 4, 0⟩ := ⟨⟨trivial, rfl, ⟨_, rfl, rfl, _, rfl, rfl⟩, ⟨_, rfl, rfl⟩⟩, ⟨rfl, ty_4.1, rfl⟩⟩
theorem ty_61 : TyOK Tryd.prog 61 ⟨.slice (.slice (.str)), [], 0, 29, 24⟩ := ⟨⟨trivial, rfl, ⟨_, rfl, rfl, _, rfl, rfl⟩, ⟨_, rfl, rfl⟩⟩, ⟨rfl, ty_29.1, fun i h => by cases h; rfl⟩⟩
def tys : List (Nat × Ty) := [(2, ⟨.int .i64, [], 0, 0, 0⟩), (3, ⟨.int .i64, [], 0, 0, 0⟩), (4, ⟨.bool, [], 0, 0, 0⟩), (5, ⟨.int .u8, [], 0, 0, 0⟩), (9, ⟨.str, [], 0, 0, 0⟩), (22, ⟨.int .i64, [], 0, 0, 0⟩), (32, ⟨.slice (.int .u8), [], 0, 5, 1⟩), (34, ⟨.agg (.pair (.str) (.pair (.bool) (.slice (.int .u8)))), [(0, 9), (1, 4), (2, 32)], 0, 0, 0⟩), (28, ⟨.slice (.agg (.pair (.str) (.pair (.bool) (.slice (.int .u8))))), [], 0, 34, 48⟩), (29, ⟨.slice (.str), [], 0, 9, 16⟩), (53, ⟨.slice (.bool), [], 0, 4, 1⟩), (57, ⟨.int .u64, [], 0, 0, 0⟩), (58, ⟨.int .u64, [], 0, 0, 0⟩), (59, ⟨.map (.str) (.bool), [], 9, 4, 0⟩), (61, ⟨.slice (.slice (.str)), [], 0, 29, 24⟩)]
theorem tysOK : AllL (TyOK Tryd.prog) tys := ⟨ty_2, ty_3, ty_4, ty_5, ty_9, ty_22, ty_32, ty_34, ty_28, ty_29, ty_53, ty_57, ty_58, ty_59, ty_61, trivial⟩
/-- smithyard/blob.inPart -/
def S23 (k : Nat) (x : PT [.val (.int .u8)]) : Option (OT [.val (.bool)]) :=
cnd (ige x.1 97) (cnd (ile x.1 122) (some true) (cnd (ige x.1 65) (cnd (ile x.1 90) (some true) (cnd (ige x.1 48) (cnd (ile x.1 57) (some true) (bnd (S43 k ((⟨#[46, 95, 45, 43]⟩ : ByteArray), x.1, ())) (fun (a2 : Int) => some (ige a2 0)))) (bnd (S43 k ((⟨#[46, 95, 45, 43]⟩ : ByteArray), x.1, ())) (fun (a2 : Int) => some (ige a2 0))))) (cnd (ige x.1 48) (cnd (ile x.1 57) (some true) (bnd (S43 k ((⟨#[46, 95, 45, 43]⟩ : ByteArray), x.1, ())) (fun (a2 : Int) => some (ige a2 0)))) (bnd (S43 k ((⟨#[46, 95, 45, 43]⟩ : ByteArray), x.1, ())) (fun (a2 : Int) => some (ige a2 0)))))) (cnd (ige x.1 65) (cnd (ile x.1 90) (some true) (cnd (ige x.1 48) (cnd (ile x.1 57) (some true) (bnd (S43 k ((⟨#[46, 95, 45, 43]⟩ : ByteArray), x.1, ())) (fun (a2 : Int) => some (ige a2 0)))) (bnd (S43 k ((⟨#[46, 95, 45, 43]⟩ : ByteArray), x.1, ())) (fun (a2 : Int) => some (ige a2 0))))) (cnd (ige x.1 48) (cnd (ile x.1 57) (some true) (bnd (S43 k ((⟨#[46, 95, 45, 43]⟩ : ByteArray), x.1, ())) (fun (a2 : Int) => some (ige a2 0)))) (bnd (S43 k ((⟨#[46, 95, 45, 43]⟩ : ByteArray), x.1, ())) (fun (a2 : Int) => some (ige a2 0)))))
def F23 : Fn := ⟨[.val (.int .u8)], [.val (.bool)], S23⟩
def Γ23 : Ctx := ⟨alookup tys, alookup [(43, F43)], [], [], [], [], []⟩
theorem e23 (k : Nat) (x : PT [.val (.int .u8)]) : S23 k x = runFn Γ23 k [.val (.int .u8)] [.val (.bool)] Tryd.f23.ntmps Tryd.f23.results.toList (Tryd.f23.body.getD .skip) x := by kernel_rfl
theorem c23 : CtxOK Tryd.prog JS Γ23 := ⟨tysOK.get, AllL.get (l := [(43, F43)]) ⟨ok43, trivial⟩, by kernel_rfl⟩
theorem ok23 : FnOK Tryd.prog JS 23 F23 := fnOK_of c23 (fn := Tryd.f23) (c := Tryd.f23.body.getD .skip) rfl rfl rfl (by decide) e23
/-- smithyard/blob.isPart -/
def S35 (k : Nat) (x : PT [.val (.str)]) : Option (OT [.val (.bool)]) :=
loopN k (fun (a2 : (Int → (Option Bool))) (a3 : Int) => cnd (ilt a3 (ssz x.1)) (bnd (bt? x.1 a3) (fun (a4 : Int) => bnd (S23 k (a4, ())) (fun (a5 : Bool) => cnd (bnot a5) (some false) (a2 (iadd Go.IntKind.i64 a3 1))))) (cnd (sne x.1 (⟨#[]⟩ : ByteArray)) (cnd (sne x.1 (⟨#[46]⟩ : ByteArray)) (some (sne x.1 (⟨#[46, 46]⟩ : ByteArray))) (some false)) (some false))) 0
def F35 : Fn := ⟨[.val (.str)], [.val (.bool)], S35⟩
def Γ35 : Ctx := ⟨alookup tys, alookup [(23, F23)], [(2, [6], [])], [], [], [], []⟩
theorem e35 (k : Nat) (x : PT [.val (.str)]) : S35 k x = runFn Γ35 k [.val (.str)] [.val (.bool)] Tryd.f35.ntmps Tryd.f35.results.toList (Tryd.f35.body.getD .skip) x := by kernel_rfl
theorem c35 : CtxOK Tryd.prog JS Γ35 := ⟨tysOK.get, AllL.get (l := [(23, F23)]) ⟨ok23, trivial⟩, by kernel_rfl⟩
theorem ok35 : FnOK Tryd.prog JS 35 F35 := fnOK_of c35 (fn := Tryd.f35) (c := Tryd.f35.body.getD .skip) rfl rfl rfl (by decide) e35
/-- smithyard/blob.IsPath -/
def S17 (k : Nat) (x : PT [.val (.str)]) : Option (OT [.val (.bool)]) :=
cnd (ilt (ssz x.1) 1) (some false) (cnd (igt (ssz x.1) 200) (some false) (bnd (S21 k (x.1, (⟨#[47]⟩ : ByteArray), ())) (fun (a2 : (List ByteArray)) => loopN k (fun (a3 : (Int → (Option Bool))) (a4 : Int) => cnd (ilt a4 (len a2)) (bnd (at? a2 a4) (fun (a5 : ByteArray) => bnd (S35 k (a5, ())) (fun (a6 : Bool) => cnd (bnot a6) (some false) (a3 (iadd Go.IntKind.i64 a4 1))))) (some true)) 0)))
def F17 : Fn := ⟨[.val (.str)], [.val (.bool)], S17⟩
def Γ17 : Ctx := ⟨alookup tys, alookup [(21, F21), (35, F35)], [(4, [16], [])], [(4, [14])], [], [], [14]⟩
theorem e17 (k : Nat) (x : PT [.val (.str)]) : S17 k x = runFn Γ17 k [.val (.str)] [.val (.bool)] Tryd.f17.ntmps Tryd.f17.results.toList (Tryd.f17.body.getD .skip) x := by kernel_rfl
theorem c17 : CtxOK Tryd.prog JS Γ17 := ⟨tysOK.get, AllL.get (l := [(21, F21), (35, F35)]) ⟨ok21, ok35, trivial⟩, by kernel_rfl⟩
theorem ok17 : FnOK Tryd.prog JS 17 F17 := fnOK_of c17 (fn := Tryd.f17) (c := Tryd.f17.body.getD .skip) rfl rfl rfl (by decide) e17
/-- smithyard/blob.clashes -/
def S45 (k : Nat) (x : PT [.val (.map (.str) (.bool)), .val (.str)]) : Option (OT [.val (.bool)]) :=
loopN k (fun (a2 : (Int → (Option Bool))) (a3 : Int) => cnd (ilt a3 (ssz x.2.1)) (bnd (bt? x.2.1 a3) (fun (a4 : Int) => cnd (ieq a4 47) (bnd (sub? x.2.1 0 a3) (fun (a5 : ByteArray) => cnd (orD (mget? keq x.1 a5) false) (some true) (a2 (iadd Go.IntKind.i64 a3 1)))) (a2 (iadd Go.IntKind.i64 a3 1)))) (some false)) 0
def F45 : Fn := ⟨[.val (.map (.str) (.bool)), .val (.str)], [.val (.bool)], S45⟩
def Γ45 : Ctx := ⟨alookup tys, alookup [], [(2, [8], [])], [], [], [], []⟩
theorem e45 (k : Nat) (x : PT [.val (.map (.str) (.bool)), .val (.str)]) : S45 k x = runFn Γ45 k [.val (.map (.str) (.bool)), .val (.str)] [.val (.bool)] Tryd.f45.ntmps Tryd.f45.results.toList (Tryd.f45.body.getD .skip) x := by kernel_rfl
theorem c45 : CtxOK Tryd.prog JS Γ45 := ⟨tysOK.get, AllL.get (l := []) trivial, by kernel_rfl⟩
theorem ok45 : FnOK Tryd.prog JS 45 F45 := fnOK_of c45 (fn := Tryd.f45) (c := Tryd.f45.body.getD .skip) rfl rfl rfl (by decide) e45
/-- smithyard/blob.CheckFiles -/
def S27 (k : Nat) (x : PT [.val (.slice (.agg (.pair (.str) (.pair (.bool) (.slice (.int .u8))))))]) : Option (OT [.val (.int .i64)]) :=
cnd (igt (len x.1) 1000) (some 2) (loopN k (fun (a2 : ((Int × (Int × (List (ByteArray × Bool)))) → (Option Int))) (a3 : (Int × (Int × (List (ByteArray × Bool))))) => cnd (ilt a3.2.1 (len x.1)) (bnd (at? x.1 a3.2.1) (fun (a4 : (ByteArray × (Bool × (List Int)))) => bnd (S17 k (a4.1, ())) (fun (a5 : Bool) => cnd (bnot a5) (some 3) (cnd (igt (len a4.2.2) 100000) (some 2) (cnd (igt a3.2.1 0) (bnd (at? x.1 (isub Go.IntKind.i64 a3.2.1 1)) (fun (a6 : (ByteArray × (Bool × (List Int)))) => cnd (sle a4.1 a6.1) (some 8) (a2 (iadd Go.IntKind.i64 a3.1 (len a4.2.2), iadd Go.IntKind.i64 a3.2.1 1, mput keq a3.2.2 a4.1 true)))) (a2 (iadd Go.IntKind.i64 a3.1 (len a4.2.2), iadd Go.IntKind.i64 a3.2.1 1, mput keq a3.2.2 a4.1 true))))))) (loopN k (fun (a4 : (Int → (Option Int))) (a5 : Int) => cnd (ilt a5 (len x.1)) (bnd (at? x.1 a5) (fun (a6 : (ByteArray × (Bool × (List Int)))) => bnd (S45 k (a3.2.2, a6.1, ())) (fun (a7 : Bool) => cnd a7 (some 12) (a4 (iadd Go.IntKind.i64 a5 1))))) (cnd (igt a3.1 2000000) (some 2) (some 0))) 0)) (0, 0, ([] : List (ByteArray × Bool))))
def F27 : Fn := ⟨[.val (.slice (.agg (.pair (.str) (.pair (.bool) (.slice (.int .u8))))))], [.val (.int .i64)], S27⟩
def Γ27 : Ctx := ⟨alookup tys, alookup [(17, F17), (45, F45)], [(6, [3, 15, 4], []), (18, [55], [])], [(6, [13]), (18, [4, 53])], [(12, 11)], [], []⟩
theorem e27 (k : Nat) (x : PT [.val (.slice (.agg (.pair (.str) (.pair (.bool) (.slice (.int .u8))))))]) : S27 k x = runFn Γ27 k [.val (.slice (.agg (.pair (.str) (.pair (.bool) (.slice (.int .u8))))))] [.val (.int .i64)] Tryd.f27.ntmps Tryd.f27.results.toList (Tryd.f27.body.getD .skip) x := by kernel_rfl
theorem c27 : CtxOK Tryd.prog JS Γ27 := ⟨tysOK.get, AllL.get (l := [(17, F17), (45, F45)]) ⟨ok17, ok45, trivial⟩, by kernel_rfl⟩
theorem ok27 : FnOK Tryd.prog JS 27 F27 := fnOK_of c27 (fn := Tryd.f27) (c := Tryd.f27.body.getD .skip) rfl rfl rfl (by decide) e27
/-- slices.Grow[[]string,string] -/
def S46 (k : Nat) (x : PT [.nil (.str), .val (.int .i64)]) : Option (OT [.own (.str)]) :=
cnd (ilt x.2.1 0) none (cnd (igt (isub Go.IntKind.i64 x.2.1 (isub Go.IntKind.i64 0 (len ([] : List ByteArray)))) 0) (bnd (cut? ([] : List ByteArray) 0 0) (fun (a2 : (List ByteArray)) => bnd (inb (isub Go.IntKind.i64 x.2.1 (isub Go.IntKind.i64 0 (len ([] : List ByteArray)))) 0) (fun (a3 : Unit) => bnd (mk? 16 (⟨#[]⟩ : ByteArray) (isub Go.IntKind.i64 x.2.1 (isub Go.IntKind.i64 0 (len ([] : List ByteArray)))) (isub Go.IntKind.i64 x.2.1 (isub Go.IntKind.i64 0 (len ([] : List ByteArray))))) (fun (a4 : (List ByteArray)) => bnd (cut? a4 0 (len ([] : List ByteArray))) (fun (a5 : (List ByteArray)) => some a5))))) (some ([] : List ByteArray)))
def F46 : Fn := ⟨[.nil (.str), .val (.int .i64)], [.own (.str)], S46⟩
def Γ46 : Ctx := ⟨alookup tys, alookup [], [], [], [], [20, 25], []⟩
theorem e46 (k : Nat) (x : PT [.nil (.str), .val (.int .i64)]) : S46 k x = runFn Γ46 k [.nil (.str), .val (.int .i64)] [.own (.str)] Tryd.f46.ntmps Tryd.f46.results.toList (Tryd.f46.body.getD .skip) x := by kernel_rfl
theorem c46 : CtxOK Tryd.prog JS Γ46 := ⟨tysOK.get, AllL.get (l := []) trivial, by kernel_rfl⟩
theorem ok46 : FnOK Tryd.prog JS 46 F46 := fnOK_of c46 (fn := Tryd.f46) (c := Tryd.f46.body.getD .skip) rfl rfl rfl (by decide) e46
/-- slices.Concat[[]string,string] -/
def S28 (k : Nat) (x : PT [.val (.slice (.slice (.str)))]) : Option (OT [.val (.slice (.str))]) :=
loopN k (fun (a2 : ((Int × Int) → (Option (List ByteArray)))) (a3 : (Int × Int)) => cnd (ilt a3.2 (len x.1)) (bnd (at? x.1 a3.2) (fun (a4 : (List ByteArray)) => cnd (ilt (iadd Go.IntKind.i64 a3.1 (len a4)) 0) none (a2 (iadd Go.IntKind.i64 a3.1 (len a4), iadd Go.IntKind.i64 a3.2 1)))) (bnd (S46 k ((), a3.1, ())) (fun (a4 : (List ByteArray)) => loopN k (fun (a5 : (((List ByteArray) × Int) → (Option (List ByteArray)))) (a6 : ((List ByteArray) × Int)) => cnd (ilt a6.2 (len x.1)) (bnd (at? x.1 a6.2) (fun (a7 : (List ByteArray)) => bnd (app? 16 a6.1 a7) (fun (a8 : (List ByteArray)) => a5 (a8, iadd Go.IntKind.i64 a6.2 1)))) (some a6.1)) (a4, 0)))) (0, 0)
def F28 : Fn := ⟨[.val (.slice (.slice (.str)))], [.val (.slice (.str))], S28⟩
def Γ28 : Ctx := ⟨alookup tys, alookup [(46, F46)], [(3, [3, 11], []), (11, [6, 27], [])], [(3, [9]), (11, [25])], [], [], [2, 5, 8]⟩
theorem e28 (k : Nat) (x : PT [.val (.slice (.slice (.str)))]) : S28 k x = runFn Γ28 k [.val (.slice (.slice (.str)))] [.val (.slice (.str))] Tryd.f28.ntmps Tryd.f28.results.toList (Tryd.f28.body.getD .skip) x := by kernel_rfl
theorem c28 : CtxOK Tryd.prog JS Γ28 := ⟨tysOK.get, AllL.get (l := [(46, F46)]) ⟨ok46, trivial⟩, by kernel_rfl⟩
theorem ok28 : FnOK Tryd.prog JS 28 F28 := fnOK_of c28 (fn := Tryd.f28) (c := Tryd.f28.body.getD .skip) rfl rfl rfl (by decide) e28
/-- smithyard/blob.CheckPattern -/
def S8 (k : Nat) (x : PT [.val (.str)]) : Option (OT [.val (.int .i64)]) :=
cnd (ilt (ssz x.1) 1) (some 3) (cnd (igt (ssz x.1) 200) (some 3) (bnd (S21 k (x.1, (⟨#[47]⟩ : ByteArray), ())) (fun (a2 : (List ByteArray)) => loopN k (fun (a3 : (Int → (Option Int))) (a4 : Int) => cnd (ilt a4 (len a2)) (bnd (at? a2 a4) (fun (a5 : ByteArray) => cnd (seq a5 (⟨#[42, 42]⟩ : ByteArray)) (a3 (iadd Go.IntKind.i64 a4 1)) (cnd (seq a5 (⟨#[]⟩ : ByteArray)) (some 3) (cnd (seq a5 (⟨#[46]⟩ : ByteArray)) (some 3) (cnd (seq a5 (⟨#[46, 46]⟩ : ByteArray)) (some 3) (bnd (S22 k (a5, (⟨#[42, 42]⟩ : ByteArray), ())) (fun (a6 : Bool) => cnd a6 (some 3) (loopN k (fun (a7 : (Int → (Option Int))) (a8 : Int) => cnd (ilt a8 (ssz a5)) (bnd (bt? a5 a8) (fun (a9 : Int) => bnd (S23 k (a9, ())) (fun (a10 : Bool) => cnd (bnot a10) (bnd (bt? a5 a8) (fun (a11 : Int) => cnd (ine a11 42) (bnd (bt? a5 a8) (fun (a12 : Int) => cnd (ine a12 63) (some 3) (a7 (iadd Go.IntKind.i64 a8 1)))) (a7 (iadd Go.IntKind.i64 a8 1)))) (a7 (iadd Go.IntKind.i64 a8 1))))) (a3 (iadd Go.IntKind.i64 a4 1))) 0)))))))) (some 0)) 0)))
def F8 : Fn := ⟨[.val (.str)], [.val (.int .i64)], S8⟩
def Γ8 : Ctx := ⟨alookup tys, alookup [(21, F21), (22, F22), (23, F23)], [(4, [17], []), (10, [39], [])], [(4, [15]), (10, [15])], [], [], [15]⟩
theorem e8 (k : Nat) (x : PT [.val (.str)]) : S8 k x = runFn Γ8 k [.val (.str)] [.val (.int .i64)] Tryd.f8.ntmps Tryd.f8.results.toList (Tryd.f8.body.getD .skip) x := by kernel_rfl
theorem c8 : CtxOK Tryd.prog JS Γ8 := ⟨tysOK.get, AllL.get (l := [(21, F21), (22, F22), (23, F23)]) ⟨ok21, ok22, ok23, trivial⟩, by kernel_rfl⟩
theorem ok8 : FnOK Tryd.prog JS 8 F8 := fnOK_of c8 (fn := Tryd.f8) (c := Tryd.f8.body.getD .skip) rfl rfl rfl (by decide) e8
/-- smithyard/blob.fits[string] -/
def S36 (k : Nat) (x : PT [.val (.slice (.str)), .val (.slice (.str)), .fnv (.str) (.bool), .fnv (.pair (.str) (.str)) (.bool)]) : Option (OT [.val (.bool)]) :=
bnd (mk? 1 false (iadd Go.IntKind.i64 (len x.2.1) 1) (iadd Go.IntKind.i64 (len x.2.1) 1)) (fun (a2 : (List Bool)) => bnd (inb (len a2) 0) (fun (a3 : Unit) => loopN k (fun (a4 : (((List Bool) × Int) → (Option Bool))) (a5 : ((List Bool) × Int)) => cnd (ilt a5.2 (len x.1)) (bnd (at? x.1 a5.2) (fun (a6 : ByteArray) => bnd (mk? 1 false (len a5.1) (len a5.1)) (fun (a7 : (List Bool)) => loopN k (fun (a8 : ((Bool × (Int × (List Bool))) → (Option Bool))) (a9 : (Bool × (Int × (List Bool)))) => cnd (ilt a9.2.1 (len a5.1)) (bnd (x.2.2.1 a6) (fun (a10 : Bool) => cnd a10 (cnd a9.1 (bnd (inb (len a9.2.2) a9.2.1) (fun (a11 : Unit) => a8 (true, iadd Go.IntKind.i64 a9.2.1 1, setAt a9.2.2 a9.2.1 true))) (bnd (at? a5.1 a9.2.1) (fun (a11 : Bool) => bnd (inb (len a9.2.2) a9.2.1) (fun (a12 : Unit) => a8 (a11, iadd Go.IntKind.i64 a9.2.1 1, setAt a9.2.2 a9.2.1 a11))))) (cnd (igt a9.2.1 0) (bnd (at? a5.1 (isub Go.IntKind.i64 a9.2.1 1)) (fun (a11 : Bool) => cnd a11 (bnd (at? x.2.1 (isub Go.IntKind.i64 a9.2.1 1)) (fun (a12 : ByteArray) => bnd (x.2.2.2.1 (a6, a12)) (fun (a13 : Bool) => bnd (inb (len a9.2.2) a9.2.1) (fun (a14 : Unit) => a8 (a9.1, iadd Go.IntKind.i64 a9.2.1 1, setAt a9.2.2 a9.2.1 a13))))) (bnd (inb (len a9.2.2) a9.2.1) (fun (a12 : Unit) => a8 (a9.1, iadd Go.IntKind.i64 a9.2.1 1, setAt a9.2.2 a9.2.1 false))))) (a8 (a9.1, iadd Go.IntKind.i64 a9.2.1 1, a9.2.2))))) (a4 (a9.2.2, iadd Go.IntKind.i64 a5.2 1))) (false, 0, a7)))) (bnd (inb (len a5.1) (len x.2.1)) (fun (a6 : Unit) => some (gt false a5.1 (len x.2.1))))) (setAt a2 0 true, 0)))
def F36 : Fn := ⟨[.val (.slice (.str)), .val (.slice (.str)), .fnv (.str) (.bool), .fnv (.pair (.str) (.str)) (.bool)], [.val (.bool)], S36⟩
def Γ36 : Ctx := ⟨alookup tys, alookup [], [(4, [9, 23], []), (9, [13, 32, 12], [])], [(4, [21]), (9, [9, 21])], [], [], []⟩
theorem e36 (k : Nat) (x : PT [.val (.slice (.str)), .val (.slice (.str)), .fnv (.str) (.bool), .fnv (.pair (.str) (.str)) (.bool)]) : S36 k x = runFn Γ36 k [.val (.slice (.str)), .val (.slice (.str)), .fnv (.str) (.bool), .fnv (.pair (.str) (.str)) (.bool)] [.val (.bool)] Tryd.f36.ntmps Tryd.f36.results.toList (Tryd.f36.body.getD .skip) x := by kernel_rfl
theorem c36 : CtxOK Tryd.prog JS Γ36 := ⟨tysOK.get, AllL.get (l := []) trivial, by kernel_rfl⟩
theorem ok36 : FnOK Tryd.prog JS 36 F36 := fnOK_of c36 (fn := Tryd.f36) (c := Tryd.f36.body.getD .skip) rfl rfl rfl (by decide) e36
/-- smithyard/blob.pathFits$1 -/
def S37 (k : Nat) (x : PT [.val (.str)]) : Option (OT [.val (.bool)]) :=
some (seq x.1 (⟨#[42, 42]⟩ : ByteArray))
def F37 : Fn := ⟨[.val (.str)], [.val (.bool)], S37⟩
def Γ37 : Ctx := ⟨alookup tys, alookup [], [], [], [], [], []⟩
theorem e37 (k : Nat) (x : PT [.val (.str)]) : S37 k x = runFn Γ37 k [.val (.str)] [.val (.bool)] Tryd.f37.ntmps Tryd.f37.results.toList (Tryd.f37.body.getD .skip) x := by kernel_rfl
theorem c37 : CtxOK Tryd.prog JS Γ37 := ⟨tysOK.get, AllL.get (l := []) trivial, by kernel_rfl⟩
theorem ok37 : FnOK Tryd.prog JS 37 F37 := fnOK_of c37 (fn := Tryd.f37) (c := Tryd.f37.body.getD .skip) rfl rfl rfl (by decide) e37
/-- smithyard/blob.fits[byte] -/
def S50 (k : Nat) (x : PT [.val (.slice (.int .u8)), .val (.slice (.int .u8)), .fnv (.int .u8) (.bool), .fnv (.pair (.int .u8) (.int .u8)) (.bool)]) : Option (OT [.val (.bool)]) :=
bnd (mk? 1 false (iadd Go.IntKind.i64 (len x.2.1) 1) (iadd Go.IntKind.i64 (len x.2.1) 1)) (fun (a2 : (List Bool)) => bnd (inb (len a2) 0) (fun (a3 : Unit) => loopN k (fun (a4 : (((List Bool) × Int) → (Option Bool))) (a5 : ((List Bool) × Int)) => cnd (ilt a5.2 (len x.1)) (bnd (at? x.1 a5.2) (fun (a6 : Int) => bnd (mk? 1 false (len a5.1) (len a5.1)) (fun (a7 : (List Bool)) => loopN k (fun (a8 : ((Bool × (Int × (List Bool))) → (Option Bool))) (a9 : (Bool × (Int × (List Bool)))) => cnd (ilt a9.2.1 (len a5.1)) (bnd (x.2.2.1 a6) (fun (a10 : Bool) => cnd a10 (cnd a9.1 (bnd (inb (len a9.2.2) a9.2.1) (fun (a11 : Unit) => a8 (true, iadd Go.IntKind.i64 a9.2.1 1, setAt a9.2.2 a9.2.1 true))) (bnd (at? a5.1 a9.2.1) (fun (a11 : Bool) => bnd (inb (len a9.2.2) a9.2.1) (fun (a12 : Unit) => a8 (a11, iadd Go.IntKind.i64 a9.2.1 1, setAt a9.2.2 a9.2.1 a11))))) (cnd (igt a9.2.1 0) (bnd (at? a5.1 (isub Go.IntKind.i64 a9.2.1 1)) (fun (a11 : Bool) => cnd a11 (bnd (at? x.2.1 (isub Go.IntKind.i64 a9.2.1 1)) (fun (a12 : Int) => bnd (x.2.2.2.1 (a6, a12)) (fun (a13 : Bool) => bnd (inb (len a9.2.2) a9.2.1) (fun (a14 : Unit) => a8 (a9.1, iadd Go.IntKind.i64 a9.2.1 1, setAt a9.2.2 a9.2.1 a13))))) (bnd (inb (len a9.2.2) a9.2.1) (fun (a12 : Unit) => a8 (a9.1, iadd Go.IntKind.i64 a9.2.1 1, setAt a9.2.2 a9.2.1 false))))) (a8 (a9.1, iadd Go.IntKind.i64 a9.2.1 1, a9.2.2))))) (a4 (a9.2.2, iadd Go.IntKind.i64 a5.2 1))) (false, 0, a7)))) (bnd (inb (len a5.1) (len x.2.1)) (fun (a6 : Unit) => some (gt false a5.1 (len x.2.1))))) (setAt a2 0 true, 0)))
def F50 : Fn := ⟨[.val (.slice (.int .u8)), .val (.slice (.int .u8)), .fnv (.int .u8) (.bool), .fnv (.pair (.int .u8) (.int .u8)) (.bool)], [.val (.bool)], S50⟩
def Γ50 : Ctx := ⟨alookup tys, alookup [], [(4, [9, 23], []), (9, [13, 32, 12], [])], [(4, [21]), (9, [9, 21])], [], [], []⟩
theorem e50 (k : Nat) (x : PT [.val (.slice (.int .u8)), .val (.slice (.int .u8)), .fnv (.int .u8) (.bool), .fnv (.pair (.int .u8) (.int .u8)) (.bool)]) : S50 k x = runFn Γ50 k [.val (.slice (.int .u8)), .val (.slice (.int .u8)), .fnv (.int .u8) (.bool), .fnv (.pair (.int .u8) (.int .u8)) (.bool)] [.val (.bool)] Tryd.f50.ntmps Tryd.f50.results.toList (Tryd.f50.body.getD .skip) x := by kernel_rfl
theorem c50 : CtxOK Tryd.prog JS Γ50 := ⟨tysOK.get, AllL.get (l := []) trivial, by kernel_rfl⟩
theorem ok50 : FnOK Tryd.prog JS 50 F50 := fnOK_of c50 (fn := Tryd.f50) (c := Tryd.f50.body.getD .skip) rfl rfl rfl (by decide) e50
/-- smithyard/blob.partFits$1 -/
def S51 (k : Nat) (x : PT [.val (.int .u8)]) : Option (OT [.val (.bool)]) :=
some (ieq x.1 42)
def F51 : Fn := ⟨[.val (.int .u8)], [.val (.bool)], S51⟩
def Γ51 : Ctx := ⟨alookup tys, alookup [], [], [], [], [], []⟩
theorem e51 (k : Nat) (x : PT [.val (.int .u8)]) : S51 k x = runFn Γ51 k [.val (.int .u8)] [.val (.bool)] Tryd.f51.ntmps Tryd.f51.results.toList (Tryd.f51.body.getD .skip) x := by kernel_rfl
theorem c51 : CtxOK Tryd.prog JS Γ51 := ⟨tysOK.get, AllL.get (l := []) trivial, by kernel_rfl⟩
theorem ok51 : FnOK Tryd.prog JS 51 F51 := fnOK_of c51 (fn := Tryd.f51) (c := Tryd.f51.body.getD .skip) rfl rfl rfl (by decide) e51
/-- smithyard/blob.partFits$2 -/
def S52 (k : Nat) (x : PT [.val (.int .u8), .val (.int .u8)]) : Option (OT [.val (.bool)]) :=
cnd (ieq x.1 63) (some true) (some (ieq x.1 x.2.1))
def F52 : Fn := ⟨[.val (.int .u8), .val (.int .u8)], [.val (.bool)], S52⟩
def Γ52 : Ctx := ⟨alookup tys, alookup [], [], [], [], [], []⟩
theorem e52 (k : Nat) (x : PT [.val (.int .u8), .val (.int .u8)]) : S52 k x = runFn Γ52 k [.val (.int .u8), .val (.int .u8)] [.val (.bool)] Tryd.f52.ntmps Tryd.f52.results.toList (Tryd.f52.body.getD .skip) x := by kernel_rfl
theorem c52 : CtxOK Tryd.prog JS Γ52 := ⟨tysOK.get, AllL.get (l := []) trivial, by kernel_rfl⟩
theorem ok52 : FnOK Tryd.prog JS 52 F52 := fnOK_of c52 (fn := Tryd.f52) (c := Tryd.f52.body.getD .skip) rfl rfl rfl (by decide) e52
/-- smithyard/blob.partFits -/
def S38 (k : Nat) (x : PT [.val (.str), .val (.str)]) : Option (OT [.val (.bool)]) :=
bnd (app? 1 ([] : List Int) (bytesOf x.1)) (fun (a2 : (List Int)) => bnd (app? 1 ([] : List Int) (bytesOf x.2.1)) (fun (a3 : (List Int)) => bnd (S50 k (a2, a3, fun (a4 : Int) => S51 k (a4, ()), fun (a4 : (Int × Int)) => S52 k (a4.1, a4.2, ()), ())) (fun (a4 : Bool) => some a4)))
def F38 : Fn := ⟨[.val (.str), .val (.str)], [.val (.bool)], S38⟩
def Γ38 : Ctx := ⟨alookup tys, alookup [(50, F50), (51, F51), (52, F52)], [], [], [], [], []⟩
theorem e38 (k : Nat) (x : PT [.val (.str), .val (.str)]) : S38 k x = runFn Γ38 k [.val (.str), .val (.str)] [.val (.bool)] Tryd.f38.ntmps Tryd.f38.results.toList (Tryd.f38.body.getD .skip) x := by kernel_rfl
theorem c38 : CtxOK Tryd.prog JS Γ38 := ⟨tysOK.get, AllL.get (l := [(50, F50), (51, F51), (52, F52)]) ⟨ok50, ok51, ok52, trivial⟩, by kernel_rfl⟩
theorem ok38 : FnOK Tryd.prog JS 38 F38 := fnOK_of c38 (fn := Tryd.f38) (c := Tryd.f38.body.getD .skip) rfl rfl rfl (by decide) e38
/-- smithyard/blob.pathFits -/
def S18 (k : Nat) (x : PT [.val (.str), .val (.str)]) : Option (OT [.val (.bool)]) :=
bnd (S21 k (x.1, (⟨#[47]⟩ : ByteArray), ())) (fun (a2 : (List ByteArray)) => bnd (S21 k (x.2.1, (⟨#[47]⟩ : ByteArray), ())) (fun (a3 : (List ByteArray)) => bnd (S36 k (a2, a3, fun (a4 : ByteArray) => S37 k (a4, ()), fun (a4 : (ByteArray × ByteArray)) => S38 k (a4.1, a4.2, ()), ())) (fun (a4 : Bool) => some a4)))
def F18 : Fn := ⟨[.val (.str), .val (.str)], [.val (.bool)], S18⟩
def Γ18 : Ctx := ⟨alookup tys, alookup [(21, F21), (36, F36), (37, F37), (38, F38)], [], [], [], [], [6, 8]⟩
theorem e18 (k : Nat) (x : PT [.val (.str), .val (.str)]) : S18 k x = runFn Γ18 k [.val (.str), .val (.str)] [.val (.bool)] Tryd.f18.ntmps Tryd.f18.results.toList (Tryd.f18.body.getD .skip) x := by kernel_rfl
theorem c18 : CtxOK Tryd.prog JS Γ18 := ⟨tysOK.get, AllL.get (l := [(21, F21), (36, F36), (37, F37), (38, F38)]) ⟨ok21, ok36, ok37, ok38, trivial⟩, by kernel_rfl⟩
theorem ok18 : FnOK Tryd.prog JS 18 F18 := fnOK_of c18 (fn := Tryd.f18) (c := Tryd.f18.body.getD .skip) rfl rfl rfl (by decide) e18
/-- smithyard/blob.Select$1 -/
def S29 (k : Nat) (x : PT [.val (.str), .rptr (.agg (.pair (.str) (.pair (.bool) (.slice (.int .u8)))))]) : Option (OT [.val (.bool)]) :=
bnd (S18 k (x.1, x.2.1.1, ())) (fun (a2 : Bool) => some a2)
def F29 : Fn := ⟨[.val (.str), .rptr (.agg (.pair (.str) (.pair (.bool) (.slice (.int .u8)))))], [.val (.bool)], S29⟩
def Γ29 : Ctx := ⟨alookup tys, alookup [(18, F18)], [], [], [], [], []⟩
theorem e29 (k : Nat) (x : PT [.val (.str), .rptr (.agg (.pair (.str) (.pair (.bool) (.slice (.int .u8)))))]) : S29 k x = runFn Γ29 k [.val (.str), .rptr (.agg (.pair (.str) (.pair (.bool) (.slice (.int .u8)))))] [.val (.bool)] Tryd.f29.ntmps Tryd.f29.results.toList (Tryd.f29.body.getD .skip) x := by kernel_rfl
theorem c29 : CtxOK Tryd.prog JS Γ29 := ⟨tysOK.get, AllL.get (l := [(18, F18)]) ⟨ok18, trivial⟩, by kernel_rfl⟩
theorem ok29 : FnOK Tryd.prog JS 29 F29 := fnOK_of c29 (fn := Tryd.f29) (c := Tryd.f29.body.getD .skip) rfl rfl rfl (by decide) e29
/-- slices.IndexFunc[[]string,string] -/
def S47 (k : Nat) (x : PT [.val (.slice (.str)), .fnv (.str) (.bool)]) : Option (OT [.val (.int .i64)]) :=
loopN k (fun (a2 : (Int → (Option Int))) (a3 : Int) => cnd (ilt a3 (len x.1)) (bnd (at? x.1 a3) (fun (a4 : ByteArray) => bnd (x.2.1 a4) (fun (a5 : Bool) => cnd a5 (some a3) (a2 (iadd Go.IntKind.i64 a3 1))))) (some (-1))) 0
def F47 : Fn := ⟨[.val (.slice (.str)), .fnv (.str) (.bool)], [.val (.int .i64)], S47⟩
def Γ47 : Ctx := ⟨alookup tys, alookup [], [(2, [8], [])], [], [], [], []⟩
theorem e47 (k : Nat) (x : PT [.val (.slice (.str)), .fnv (.str) (.bool)]) : S47 k x = runFn Γ47 k [.val (.slice (.str)), .fnv (.str) (.bool)] [.val (.int .i64)] Tryd.f47.ntmps Tryd.f47.results.toList (Tryd.f47.body.getD .skip) x := by kernel_rfl
theorem c47 : CtxOK Tryd.prog JS Γ47 := ⟨tysOK.get, AllL.get (l := []) trivial, by kernel_rfl⟩
theorem ok47 : FnOK Tryd.prog JS 47 F47 := fnOK_of c47 (fn := Tryd.f47) (c := Tryd.f47.body.getD .skip) rfl rfl rfl (by decide) e47
/-- slices.ContainsFunc[[]string,string] -/
def S30 (k : Nat) (x : PT [.val (.slice (.str)), .fnv (.str) (.bool)]) : Option (OT [.val (.bool)]) :=
bnd (S47 k (x.1, fun (a2 : ByteArray) => x.2.1 a2, ())) (fun (a2 : Int) => some (ige a2 0))
def F30 : Fn := ⟨[.val (.slice (.str)), .fnv (.str) (.bool)], [.val (.bool)], S30⟩
def Γ30 : Ctx := ⟨alookup tys, alookup [(47, F47)], [], [], [], [], []⟩
theorem e30 (k : Nat) (x : PT [.val (.slice (.str)), .fnv (.str) (.bool)]) : S30 k x = runFn Γ30 k [.val (.slice (.str)), .fnv (.str) (.bool)] [.val (.bool)] Tryd.f30.ntmps Tryd.f30.results.toList (Tryd.f30.body.getD .skip) x := by kernel_rfl
theorem c30 : CtxOK Tryd.prog JS Γ30 := ⟨tysOK.get, AllL.get (l := [(47, F47)]) ⟨ok47, trivial⟩, by kernel_rfl⟩
theorem ok30 : FnOK Tryd.prog JS 30 F30 := fnOK_of c30 (fn := Tryd.f30) (c := Tryd.f30.body.getD .skip) rfl rfl rfl (by decide) e30
/-- smithyard/blob.Select -/
def S11 (k : Nat) (x : PT [.val (.slice (.agg (.pair (.str) (.pair (.bool) (.slice (.int .u8)))))), .val (.slice (.str)), .val (.slice (.str))]) : Option (OT [.val (.slice (.str)), .val (.int .i64)]) :=
bnd (S27 k (x.1, ())) (fun (a2 : Int) => cnd (ine a2 0) (some (([] : List ByteArray), a2)) (bnd (S28 k ((x.2.1 :: (x.2.2.1 :: ([] : List (List ByteArray)))), ())) (fun (a3 : (List ByteArray)) => loopN k (fun (a4 : (Int → (Option ((List ByteArray) × Int)))) (a5 : Int) => cnd (ilt a5 (len a3)) (bnd (at? a3 a5) (fun (a6 : ByteArray) => bnd (S8 k (a6, ())) (fun (a7 : Int) => cnd (ine a7 0) (some (([] : List ByteArray), a7)) (a4 (iadd Go.IntKind.i64 a5 1))))) (loopN k (fun (a6 : (((List ByteArray) × Int) → (Option ((List ByteArray) × Int)))) (a7 : ((List ByteArray) × Int)) => cnd (ilt a7.2 (len x.1)) (bnd (at? x.1 a7.2) (fun (a8 : (ByteArray × (Bool × (List Int)))) => bnd (S30 k (x.2.1, fun (a9 : ByteArray) => S29 k (a9, (a8.1, a8.2.1, a8.2.2), ()), ())) (fun (a9 : Bool) => cnd a9 (bnd (S30 k (x.2.2.1, fun (a10 : ByteArray) => S29 k (a10, (a8.1, a8.2.1, a8.2.2), ()), ())) (fun (a10 : Bool) => cnd (bnot a10) (bnd (app? 16 a7.1 (a8.1 :: ([] : List ByteArray))) (fun (a11 : (List ByteArray)) => a6 (a11, iadd Go.IntKind.i64 a7.2 1))) (a6 (a7.1, iadd Go.IntKind.i64 a7.2 1)))) (a6 (a7.1, iadd Go.IntKind.i64 a7.2 1))))) (some (a7.1, 0))) (([] : List ByteArray), 0))) 0)))
def F11 : Fn := ⟨[.val (.slice (.agg (.pair (.str) (.pair (.bool) (.slice (.int .u8)))))), .val (.slice (.str)), .val (.slice (.str))], [.val (.slice (.str)), .val (.int .i64)], S11⟩
def Γ11 : Ctx := ⟨alookup tys, alookup [(27, F27), (28, F28), (8, F8), (29, F29), (30, F30)], [(5, [26], []), (13, [12, 38], [])], [(5, [24]), (13, [36])], [], [], [6, 23, 24, 55]⟩
theorem e11 (k : Nat) (x : PT [.val (.slice (.agg (.pair (.str) (.pair (.bool) (.slice (.int .u8)))))), .val (.slice (.str)), .val (.slice (.str))]) : S11 k x = runFn Γ11 k [.val (.slice (.agg (.pair (.str) (.pair (.bool) (.slice (.int .u8)))))), .val (.slice (.str)), .val (.slice (.str))] [.val (.slice (.str)), .val (.int .i64)] Tryd.f11.ntmps Tryd.f11.results.toList (Tryd.f11.body.getD .skip) x := by kernel_rfl
theorem c11 : CtxOK Tryd.prog JS Γ11 := ⟨tysOK.get, AllL.get (l := [(27, F27), (28, F28), (8, F8), (29, F29), (30, F30)]) ⟨ok27, ok28, ok8, ok29, ok30, trivial⟩, by kernel_rfl⟩
theorem ok11 : FnOK Tryd.prog JS 11 F11 := fnOK_of c11 (fn := Tryd.f11) (c := Tryd.f11.body.getD .skip) rfl rfl rfl (by decide) e11
/-- smithyard/blob.Digest -/
def S26 (k : Nat) (x : PT [.val (.slice (.int .u8))]) : Option (OT [.val (.str)]) :=
loopN k (fun (a2 : ((Int × Int) → (Option ByteArray))) (a3 : (Int × Int)) => cnd (ilt a3.2 (len x.1)) (bnd (at? x.1 a3.2) (fun (a4 : Int) => a2 (imul Go.IntKind.u64 (ixor Go.IntKind.u64 a3.1 (iwr Go.IntKind.u64 a4)) 1099511628211, iadd Go.IntKind.i64 a3.2 1))) (bnd (mk? 1 0 16 16) (fun (a4 : (List Int)) => loopN k (fun (a5 : ((Int × (Int × (List Int))) → (Option ByteArray))) (a6 : (Int × (Int × (List Int)))) => cnd (ilt a6.2.1 (len a4)) (bnd (bt? (⟨#[48, 49, 50, 51, 52, 53, 54, 55, 56, 57, 97, 98, 99, 100, 101, 102]⟩ : ByteArray) (iand Go.IntKind.u64 a6.1 15)) (fun (a7 : Int) => bnd (inb (len a6.2.2) (isub Go.IntKind.i64 15 a6.2.1)) (fun (a8 : Unit) => bnd (ishr? Go.IntKind.u64 a6.1 4) (fun (a9 : Int) => a5 (a9, iadd Go.IntKind.i64 a6.2.1 1, setAt a6.2.2 (isub Go.IntKind.i64 15 a6.2.1) a7))))) (some (strOf a6.2.2))) (a3.1, 0, a4)))) (14695981039346656037, 0)
def F26 : Fn := ⟨[.val (.slice (.int .u8))], [.val (.str)], S26⟩
def Γ26 : Ctx := ⟨alookup tys, alookup [], [(3, [3, 10], []), (9, [3, 23, 6], [])], [(3, [8])], [], [], []⟩
theorem e26 (k : Nat) (x : PT [.val (.slice (.int .u8))]) : S26 k x = runFn Γ26 k [.val (.slice (.int .u8))] [.val (.str)] Tryd.f26.ntmps Tryd.f26.results.toList (Tryd.f26.body.getD .skip) x := by kernel_rfl
theorem c26 : CtxOK Tryd.prog JS Γ26 := ⟨tysOK.get, AllL.get (l := []) trivial, by kernel_rfl⟩
theorem ok26 : FnOK Tryd.prog JS 26 F26 := fnOK_of c26 (fn := Tryd.f26) (c := Tryd.f26.body.getD .skip) rfl rfl rfl (by decide) e26
/-- smithyard/smithyardlaw1.awake -/
def S10 (k : Nat) (x : PT []) : Option (OT [.val (.bool)]) :=
bnd (S26 k (([] : List Int), ())) (fun (a2 : ByteArray) => some (seq a2 (⟨#[99, 98, 102, 50, 57, 99, 101, 52, 56, 52, 50, 50, 50, 51, 50, 53]⟩ : ByteArray)))
def F10 : Fn := ⟨[], [.val (.bool)], S10⟩
def Γ10 : Ctx := ⟨alookup tys, alookup [(26, F26)], [], [], [], [], []⟩
theorem e10 (k : Nat) (x : PT []) : S10 k x = runFn Γ10 k [] [.val (.bool)] Tryd.f10.ntmps Tryd.f10.results.toList (Tryd.f10.body.getD .skip) x := by kernel_rfl
theorem c10 : CtxOK Tryd.prog JS Γ10 := ⟨tysOK.get, AllL.get (l := [(26, F26)]) ⟨ok26, trivial⟩, by kernel_rfl⟩
theorem ok10 : FnOK Tryd.prog JS 10 F10 := fnOK_of c10 (fn := Tryd.f10) (c := Tryd.f10.body.getD .skip) rfl rfl rfl (by decide) e10
/-- smithyard/blob.Fits -/
def S6 (k : Nat) (x : PT [.val (.str), .val (.str)]) : Option (OT [.val (.bool), .val (.int .i64)]) :=
bnd (S8 k (x.1, ())) (fun (a2 : Int) => cnd (ine a2 0) (some (false, a2)) (bnd (S17 k (x.2.1, ())) (fun (a3 : Bool) => cnd (bnot a3) (some (false, 3)) (bnd (S18 k (x.1, x.2.1, ())) (fun (a4 : Bool) => some (a4, 0))))))
def F6 : Fn := ⟨[.val (.str), .val (.str)], [.val (.bool), .val (.int .i64)], S6⟩
def Γ6 : Ctx := ⟨alookup tys, alookup [(8, F8), (17, F17), (18, F18)], [], [], [], [], []⟩
theorem e6 (k : Nat) (x : PT [.val (.str), .val (.str)]) : S6 k x = runFn Γ6 k [.val (.str), .val (.str)] [.val (.bool), .val (.int .i64)] Tryd.f6.ntmps Tryd.f6.results.toList (Tryd.f6.body.getD .skip) x := by kernel_rfl
theorem c6 : CtxOK Tryd.prog JS Γ6 := ⟨tysOK.get, AllL.get (l := [(8, F8), (17, F17), (18, F18)]) ⟨ok8, ok17, ok18, trivial⟩, by kernel_rfl⟩
theorem ok6 : FnOK Tryd.prog JS 6 F6 := fnOK_of c6 (fn := Tryd.f6) (c := Tryd.f6.body.getD .skip) rfl rfl rfl (by decide) e6
/-- smithyard/smithyardlaw1.BlobSelectsFit -/
def S4 (k : Nat) (x : PT [.val (.slice (.agg (.pair (.str) (.pair (.bool) (.slice (.int .u8)))))), .val (.str)]) : Option (OT [.val (.bool)]) :=
bnd (S11 k (x.1, (x.2.1 :: ([] : List ByteArray)), ([] : List ByteArray), ())) (fun (a2 : ((List ByteArray) × Int)) => cnd (ine a2.2 0) (cnd (ieq (len a2.1) 0) (bnd (S10 k ()) (fun (a3 : Bool) => some a3)) (some false)) (loopN k (fun (a3 : ((Int × Int) → (Option Bool))) (a4 : (Int × Int)) => cnd (ilt a4.2 (len x.1)) (bnd (at? x.1 a4.2) (fun (a5 : (ByteArray × (Bool × (List Int)))) => bnd (S6 k (x.2.1, a5.1, ())) (fun (a6 : (Bool × Int)) => cnd (ine a6.2 0) (some false) (cnd a6.1 (cnd (ieq a4.1 (len a2.1)) (some false) (bnd (at? a2.1 a4.1) (fun (a7 : ByteArray) => bnd (at? x.1 a4.2) (fun (a8 : (ByteArray × (Bool × (List Int)))) => cnd (sne a7 a8.1) (some false) (a3 (iadd Go.IntKind.i64 a4.1 1, iadd Go.IntKind.i64 a4.2 1)))))) (a3 (a4.1, iadd Go.IntKind.i64 a4.2 1)))))) (bnd (S11 k (x.1, ((⟨#[42, 42]⟩ : ByteArray) :: ([] : List ByteArray)), (x.2.1 :: ([] : List ByteArray)), ())) (fun (a5 : ((List ByteArray) × Int)) => bnd (S11 k (x.1, ((⟨#[42, 42]⟩ : ByteArray) :: ([] : List ByteArray)), ((⟨#[42, 42]⟩ : ByteArray) :: ([] : List ByteArray)), ())) (fun (a6 : ((List ByteArray) × Int)) => cnd (ieq a4.1 (len a2.1)) (cnd (ieq a5.2 0) (cnd (ieq (iadd Go.IntKind.i64 (len a2.1) (len a5.1)) (len x.1)) (cnd (ieq a6.2 0) (cnd (ieq (len a6.1) 0) (bnd (S10 k ()) (fun (a7 : Bool) => some a7)) (some false)) (some false)) (some false)) (some false)) (some false))))) (0, 0)))
def F4 : Fn := ⟨[.val (.slice (.agg (.pair (.str) (.pair (.bool) (.slice (.int .u8)))))), .val (.str)], [.val (.bool)], S4⟩
def Γ4 : Ctx := ⟨alookup tys, alookup [(11, F11), (10, F10), (6, F6)], [(6, [7, 8], [])], [(6, [5])], [(12, 14)], [], [5, 11, 12, 17, 68, 70, 76, 77]⟩
theorem e4 (k : Nat) (x : PT [.val (.slice (.agg (.pair (.str) (.pair (.bool) (.slice (.int .u8)))))), .val (.str)]) : S4 k x = runFn Γ4 k [.val (.slice (.agg (.pair (.str) (.pair (.bool) (.slice (.int .u8)))))), .val (.str)] [.val (.bool)] Tryd.f4.ntmps Tryd.f4.results.toList (Tryd.f4.body.getD .skip) x := by kernel_rfl
theorem c4 : CtxOK Tryd.prog JS Γ4 := ⟨tysOK.get, AllL.get (l := [(11, F11), (10, F10), (6, F6)]) ⟨ok11, ok10, ok6, trivial⟩, by kernel_rfl⟩
theorem ok4 : FnOK Tryd.prog JS 4 F4 := fnOK_of c4 (fn := Tryd.f4) (c := Tryd.f4.body.getD .skip) rfl rfl rfl (by decide) e4
/-- smithyard/smithyardref1.CopyBytes -/
def S31 (k : Nat) (x : PT [.val (.slice (.int .u8))]) : Option (OT [.val (.slice (.int .u8))]) :=
bnd (app? 1 ([] : List Int) x.1) (fun (a2 : (List Int)) => some a2)
def F31 : Fn := ⟨[.val (.slice (.int .u8))], [.val (.slice (.int .u8))], S31⟩
def Γ31 : Ctx := ⟨alookup tys, alookup [], [], [], [], [], [2, 6]⟩
theorem e31 (k : Nat) (x : PT [.val (.slice (.int .u8))]) : S31 k x = runFn Γ31 k [.val (.slice (.int .u8))] [.val (.slice (.int .u8))] Tryd.f31.ntmps Tryd.f31.results.toList (Tryd.f31.body.getD .skip) x := by kernel_rfl
theorem c31 : CtxOK Tryd.prog JS Γ31 := ⟨tysOK.get, AllL.get (l := []) trivial, by kernel_rfl⟩
theorem ok31 : FnOK Tryd.prog JS 31 F31 := fnOK_of c31 (fn := Tryd.f31) (c := Tryd.f31.body.getD .skip) rfl rfl rfl (by decide) e31
/-- smithyard/smithyardref1.CopyFiles -/
def S12 (k : Nat) (x : PT [.val (.slice (.agg (.pair (.str) (.pair (.bool) (.slice (.int .u8))))))]) : Option (OT [.val (.slice (.agg (.pair (.str) (.pair (.bool) (.slice (.int .u8))))))]) :=
loopN k (fun (a2 : (((List (ByteArray × (Bool × (List Int)))) × Int) → (Option (List (ByteArray × (Bool × (List Int))))))) (a3 : ((List (ByteArray × (Bool × (List Int)))) × Int)) => cnd (ilt a3.2 (len x.1)) (bnd (at? x.1 a3.2) (fun (a4 : (ByteArray × (Bool × (List Int)))) => bnd (at? x.1 a3.2) (fun (a5 : (ByteArray × (Bool × (List Int)))) => bnd (at? x.1 a3.2) (fun (a6 : (ByteArray × (Bool × (List Int)))) => bnd (S31 k (a6.2.2, ())) (fun (a7 : (List Int)) => bnd (app? 48 a3.1 ((a4.1, a5.2.1, a7) :: ([] : List (ByteArray × (Bool × (List Int)))))) (fun (a8 : (List (ByteArray × (Bool × (List Int))))) => a2 (a8, iadd Go.IntKind.i64 a3.2 1))))))) (some a3.1)) (([] : List (ByteArray × (Bool × (List Int)))), 0)
def F12 : Fn := ⟨[.val (.slice (.agg (.pair (.str) (.pair (.bool) (.slice (.int .u8))))))], [.val (.slice (.agg (.pair (.str) (.pair (.bool) (.slice (.int .u8))))))], S12⟩
def Γ12 : Ctx := ⟨alookup tys, alookup [(31, F31)], [(3, [3, 4], [])], [], [(5, 19)], [], [2, 27, 29]⟩
theorem e12 (k : Nat) (x : PT [.val (.slice (.agg (.pair (.str) (.pair (.bool) (.slice (.int .u8))))))]) : S12 k x = runFn Γ12 k [.val (.slice (.agg (.pair (.str) (.pair (.bool) (.slice (.int .u8))))))] [.val (.slice (.agg (.pair (.str) (.pair (.bool) (.slice (.int .u8))))))] Tryd.f12.ntmps Tryd.f12.results.toList (Tryd.f12.body.getD .skip) x := by kernel_rfl
theorem c12 : CtxOK Tryd.prog JS Γ12 := ⟨tysOK.get, AllL.get (l := [(31, F31)]) ⟨ok31, trivial⟩, by kernel_rfl⟩
theorem ok12 : FnOK Tryd.prog JS 12 F12 := fnOK_of c12 (fn := Tryd.f12) (c := Tryd.f12.body.getD .skip) rfl rfl rfl (by decide) e12
/-- smithyard/smithyardref1.within -/
def S24 (k : Nat) (x : PT [.val (.int .i64), .val (.int .i64), .val (.int .i64)]) : Option (OT [.val (.bool)]) :=
cnd (ige x.1 x.2.1) (some (ile x.1 x.2.2.1)) (some false)
def F24 : Fn := ⟨[.val (.int .i64), .val (.int .i64), .val (.int .i64)], [.val (.bool)], S24⟩
def Γ24 : Ctx := ⟨alookup tys, alookup [], [], [], [], [], []⟩
theorem e24 (k : Nat) (x : PT [.val (.int .i64), .val (.int .i64), .val (.int .i64)]) : S24 k x = runFn Γ24 k [.val (.int .i64), .val (.int .i64), .val (.int .i64)] [.val (.bool)] Tryd.f24.ntmps Tryd.f24.results.toList (Tryd.f24.body.getD .skip) x := by kernel_rfl
theorem c24 : CtxOK Tryd.prog JS Γ24 := ⟨tysOK.get, AllL.get (l := []) trivial, by kernel_rfl⟩
theorem ok24 : FnOK Tryd.prog JS 24 F24 := fnOK_of c24 (fn := Tryd.f24) (c := Tryd.f24.body.getD .skip) rfl rfl rfl (by decide) e24
/-- smithyard/smithyardref1.partByte -/
def S44 (k : Nat) (x : PT [.val (.int .u8)]) : Option (OT [.val (.bool)]) :=
cnd (ige x.1 97) (cnd (ile x.1 122) (some true) (cnd (ige x.1 65) (cnd (ile x.1 90) (some true) (cnd (ige x.1 48) (cnd (ile x.1 57) (some true) (cnd (ieq x.1 46) (some true) (cnd (ieq x.1 95) (some true) (cnd (ieq x.1 45) (some true) (some (ieq x.1 43)))))) (cnd (ieq x.1 46) (some true) (cnd (ieq x.1 95) (some true) (cnd (ieq x.1 45) (some true) (some (ieq x.1 43))))))) (cnd (ige x.1 48) (cnd (ile x.1 57) (some true) (cnd (ieq x.1 46) (some true) (cnd (ieq x.1 95) (some true) (cnd (ieq x.1 45) (some true) (some (ieq x.1 43)))))) (cnd (ieq x.1 46) (some true) (cnd (ieq x.1 95) (some true) (cnd (ieq x.1 45) (some true) (some (ieq x.1 43)))))))) (cnd (ige x.1 65) (cnd (ile x.1 90) (some true) (cnd (ige x.1 48) (cnd (ile x.1 57) (some true) (cnd (ieq x.1 46) (some true) (cnd (ieq x.1 95) (some true) (cnd (ieq x.1 45) (some true) (some (ieq x.1 43)))))) (cnd (ieq x.1 46) (some true) (cnd (ieq x.1 95) (some true) (cnd (ieq x.1 45) (some true) (some (ieq x.1 43))))))) (cnd (ige x.1 48) (cnd (ile x.1 57) (some true) (cnd (ieq x.1 46) (some true) (cnd (ieq x.1 95) (some true) (cnd (ieq x.1 45) (some true) (some (ieq x.1 43)))))) (cnd (ieq x.1 46) (some true) (cnd (ieq x.1 95) (some true) (cnd (ieq x.1 45) (some true) (some (ieq x.1 43)))))))
def F44 : Fn := ⟨[.val (.int .u8)], [.val (.bool)], S44⟩
def Γ44 : Ctx := ⟨alookup tys, alookup [], [], [], [], [], []⟩
theorem e44 (k : Nat) (x : PT [.val (.int .u8)]) : S44 k x = runFn Γ44 k [.val (.int .u8)] [.val (.bool)] Tryd.f44.ntmps Tryd.f44.results.toList (Tryd.f44.body.getD .skip) x := by kernel_rfl
theorem c44 : CtxOK Tryd.prog JS Γ44 := ⟨tysOK.get, AllL.get (l := []) trivial, by kernel_rfl⟩
theorem ok44 : FnOK Tryd.prog JS 44 F44 := fnOK_of c44 (fn := Tryd.f44) (c := Tryd.f44.body.getD .skip) rfl rfl rfl (by decide) e44
/-- smithyard/smithyardref1.isPart -/
def S39 (k : Nat) (x : PT [.val (.str)]) : Option (OT [.val (.bool)]) :=
loopN k (fun (a2 : (Int → (Option Bool))) (a3 : Int) => cnd (ilt a3 (ssz x.1)) (bnd (bt? x.1 a3) (fun (a4 : Int) => bnd (S44 k (a4, ())) (fun (a5 : Bool) => cnd (bnot a5) (some false) (a2 (iadd Go.IntKind.i64 a3 1))))) (cnd (sne x.1 (⟨#[]⟩ : ByteArray)) (cnd (sne x.1 (⟨#[46]⟩ : ByteArray)) (some (sne x.1 (⟨#[46, 46]⟩ : ByteArray))) (some false)) (some false))) 0
def F39 : Fn := ⟨[.val (.str)], [.val (.bool)], S39⟩
def Γ39 : Ctx := ⟨alookup tys, alookup [(44, F44)], [(2, [3], [])], [], [], [], []⟩
theorem e39 (k : Nat) (x : PT [.val (.str)]) : S39 k x = runFn Γ39 k [.val (.str)] [.val (.bool)] Tryd.f39.ntmps Tryd.f39.results.toList (Tryd.f39.body.getD .skip) x := by kernel_rfl
theorem c39 : CtxOK Tryd.prog JS Γ39 := ⟨tysOK.get, AllL.get (l := [(44, F44)]) ⟨ok44, trivial⟩, by kernel_rfl⟩
theorem ok39 : FnOK Tryd.prog JS 39 F39 := fnOK_of c39 (fn := Tryd.f39) (c := Tryd.f39.body.getD .skip) rfl rfl rfl (by decide) e39
/-- smithyard/smithyardref1.IsPath -/
def S19 (k : Nat) (x : PT [.val (.str)]) : Option (OT [.val (.bool)]) :=
bnd (S24 k (ssz x.1, 1, 200, ())) (fun (a2 : Bool) => cnd (bnot a2) (some false) (bnd (S21 k (x.1, (⟨#[47]⟩ : ByteArray), ())) (fun (a3 : (List ByteArray)) => loopN k (fun (a4 : (Int → (Option Bool))) (a5 : Int) => cnd (ilt a5 (len a3)) (bnd (at? a3 a5) (fun (a6 : ByteArray) => bnd (S39 k (a6, ())) (fun (a7 : Bool) => cnd (bnot a7) (some false) (a4 (iadd Go.IntKind.i64 a5 1))))) (some true)) 0)))
def F19 : Fn := ⟨[.val (.str)], [.val (.bool)], S19⟩
def Γ19 : Ctx := ⟨alookup tys, alookup [(24, F24), (21, F21), (39, F39)], [(5, [4], [])], [(5, [3])], [], [], [3, 10]⟩
theorem e19 (k : Nat) (x : PT [.val (.str)]) : S19 k x = runFn Γ19 k [.val (.str)] [.val (.bool)] Tryd.f19.ntmps Tryd.f19.results.toList (Tryd.f19.body.getD .skip) x := by kernel_rfl
theorem c19 : CtxOK Tryd.prog JS Γ19 := ⟨tysOK.get, AllL.get (l := [(24, F24), (21, F21), (39, F39)]) ⟨ok24, ok21, ok39, trivial⟩, by kernel_rfl⟩
theorem ok19 : FnOK Tryd.prog JS 19 F19 := fnOK_of c19 (fn := Tryd.f19) (c := Tryd.f19.body.getD .skip) rfl rfl rfl (by decide) e19
/-- smithyard/smithyardref1.there -/
def S57 (k : Nat) (x : PT [.val (.slice (.agg (.pair (.str) (.pair (.bool) (.slice (.int .u8)))))), .val (.str)]) : Option (OT [.val (.bool)]) :=
loopN k (fun (a2 : ((Int × Int) → (Option Bool))) (a3 : (Int × Int)) => cnd (ilt a3.1 a3.2) (bnd (iquo? Go.IntKind.i64 (iadd Go.IntKind.i64 a3.1 a3.2) 2) (fun (a4 : Int) => bnd (at? x.1 a4) (fun (a5 : (ByteArray × (Bool × (List Int)))) => cnd (slt a5.1 x.2.1) (a2 (iadd Go.IntKind.i64 a4 1, a3.2)) (a2 (a3.1, a4))))) (cnd (ilt a3.1 (len x.1)) (bnd (at? x.1 a3.1) (fun (a4 : (ByteArray × (Bool × (List Int)))) => some (seq a4.1 x.2.1))) (some false))) (0, len x.1)
def F57 : Fn := ⟨[.val (.slice (.agg (.pair (.str) (.pair (.bool) (.slice (.int .u8)))))), .val (.str)], [.val (.bool)], S57⟩
def Γ57 : Ctx := ⟨alookup tys, alookup [], [(2, [5, 6], [])], [], [], [], []⟩
theorem e57 (k : Nat) (x : PT [.val (.slice (.agg (.pair (.str) (.pair (.bool) (.slice (.int .u8)))))), .val (.str)]) : S57 k x = runFn Γ57 k [.val (.slice (.agg (.pair (.str) (.pair (.bool) (.slice (.int .u8)))))), .val (.str)] [.val (.bool)] Tryd.f57.ntmps Tryd.f57.results.toList (Tryd.f57.body.getD .skip) x := by kernel_rfl
theorem c57 : CtxOK Tryd.prog JS Γ57 := ⟨tysOK.get, AllL.get (l := []) trivial, by kernel_rfl⟩
theorem ok57 : FnOK Tryd.prog JS 57 F57 := fnOK_of c57 (fn := Tryd.f57) (c := Tryd.f57.body.getD .skip) rfl rfl rfl (by decide) e57
/-- smithyard/smithyardref1.inside -/
def S48 (k : Nat) (x : PT [.val (.slice (.agg (.pair (.str) (.pair (.bool) (.slice (.int .u8)))))), .val (.str)]) : Option (OT [.val (.bool)]) :=
loopN k (fun (a2 : (Int → (Option Bool))) (a3 : Int) => cnd (ilt a3 (ssz x.2.1)) (bnd (bt? x.2.1 a3) (fun (a4 : Int) => cnd (ieq a4 47) (bnd (sub? x.2.1 0 a3) (fun (a5 : ByteArray) => bnd (S57 k (x.1, a5, ())) (fun (a6 : Bool) => cnd a6 (some true) (a2 (iadd Go.IntKind.i64 a3 1))))) (a2 (iadd Go.IntKind.i64 a3 1)))) (some false)) 0
def F48 : Fn := ⟨[.val (.slice (.agg (.pair (.str) (.pair (.bool) (.slice (.int .u8)))))), .val (.str)], [.val (.bool)], S48⟩
def Γ48 : Ctx := ⟨alookup tys, alookup [(57, F57)], [(2, [5], [])], [], [], [], []⟩
theorem e48 (k : Nat) (x : PT [.val (.slice (.agg (.pair (.str) (.pair (.bool) (.slice (.int .u8)))))), .val (.str)]) : S48 k x = runFn Γ48 k [.val (.slice (.agg (.pair (.str) (.pair (.bool) (.slice (.int .u8)))))), .val (.str)] [.val (.bool)] Tryd.f48.ntmps Tryd.f48.results.toList (Tryd.f48.body.getD .skip) x := by kernel_rfl
theorem c48 : CtxOK Tryd.prog JS Γ48 := ⟨tysOK.get, AllL.get (l := [(57, F57)]) ⟨ok57, trivial⟩, by kernel_rfl⟩
theorem ok48 : FnOK Tryd.prog JS 48 F48 := fnOK_of c48 (fn := Tryd.f48) (c := Tryd.f48.body.getD .skip) rfl rfl rfl (by decide) e48
/-- smithyard/smithyardref1.CheckFiles -/
def S32 (k : Nat) (x : PT [.val (.slice (.agg (.pair (.str) (.pair (.bool) (.slice (.int .u8))))))]) : Option (OT [.val (.int .i64)]) :=
cnd (igt (len x.1) 1000) (some 2) (loopN k (fun (a2 : ((Int × Int) → (Option Int))) (a3 : (Int × Int)) => cnd (ilt a3.2 (len x.1)) (bnd (at? x.1 a3.2) (fun (a4 : (ByteArray × (Bool × (List Int)))) => bnd (S19 k (a4.1, ())) (fun (a5 : Bool) => cnd (bnot a5) (some 3) (bnd (at? x.1 a3.2) (fun (a6 : (ByteArray × (Bool × (List Int)))) => cnd (igt (len a6.2.2) 100000) (some 2) (cnd (igt a3.2 0) (bnd (at? x.1 a3.2) (fun (a7 : (ByteArray × (Bool × (List Int)))) => bnd (at? x.1 (isub Go.IntKind.i64 a3.2 1)) (fun (a8 : (ByteArray × (Bool × (List Int)))) => cnd (sle a7.1 a8.1) (some 8) (bnd (at? x.1 a3.2) (fun (a9 : (ByteArray × (Bool × (List Int)))) => a2 (iadd Go.IntKind.i64 a3.1 (len a9.2.2), iadd Go.IntKind.i64 a3.2 1)))))) (bnd (at? x.1 a3.2) (fun (a7 : (ByteArray × (Bool × (List Int)))) => a2 (iadd Go.IntKind.i64 a3.1 (len a7.2.2), iadd Go.IntKind.i64 a3.2 1))))))))) (loopN k (fun (a4 : (Int → (Option Int))) (a5 : Int) => cnd (ilt a5 (len x.1)) (bnd (at? x.1 a5) (fun (a6 : (ByteArray × (Bool × (List Int)))) => bnd (S48 k (x.1, a6.1, ())) (fun (a7 : Bool) => cnd a7 (some 12) (a4 (iadd Go.IntKind.i64 a5 1))))) (cnd (igt a3.1 2000000) (some 2) (some 0))) 0)) (0, 0))
def F32 : Fn := ⟨[.val (.slice (.agg (.pair (.str) (.pair (.bool) (.slice (.int .u8))))))], [.val (.int .i64)], S32⟩
def Γ32 : Ctx := ⟨alookup tys, alookup [(19, F19), (48, F48)], [(5, [3, 4], []), (15, [5], [])], [], [(11, 14)], [], []⟩
theorem e32 (k : Nat) (x : PT [.val (.slice (.agg (.pair (.str) (.pair (.bool) (.slice (.int .u8))))))]) : S32 k x = runFn Γ32 k [.val (.slice (.agg (.pair (.str) (.pair (.bool) (.slice (.int .u8))))))] [.val (.int .i64)] Tryd.f32.ntmps Tryd.f32.results.toList (Tryd.f32.body.getD .skip) x := by kernel_rfl
theorem c32 : CtxOK Tryd.prog JS Γ32 := ⟨tysOK.get, AllL.get (l := [(19, F19), (48, F48)]) ⟨ok19, ok48, trivial⟩, by kernel_rfl⟩
theorem ok32 : FnOK Tryd.prog JS 32 F32 := fnOK_of c32 (fn := Tryd.f32) (c := Tryd.f32.body.getD .skip) rfl rfl rfl (by decide) e32
/-- smithyard/smithyardref1.isPatternPart -/
def S25 (k : Nat) (x : PT [.val (.str)]) : Option (OT [.val (.bool)]) :=
cnd (seq x.1 (⟨#[42, 42]⟩ : ByteArray)) (some true) (loopN k (fun (a2 : (Int → (Option Bool))) (a3 : Int) => cnd (ilt a3 (ssz x.1)) (bnd (bt? x.1 a3) (fun (a4 : Int) => bnd (S44 k (a4, ())) (fun (a5 : Bool) => cnd (bnot a5) (bnd (bt? x.1 a3) (fun (a6 : Int) => cnd (ine a6 42) (bnd (bt? x.1 a3) (fun (a7 : Int) => cnd (ine a7 63) (some false) (a2 (iadd Go.IntKind.i64 a3 1)))) (a2 (iadd Go.IntKind.i64 a3 1)))) (a2 (iadd Go.IntKind.i64 a3 1))))) (cnd (sne x.1 (⟨#[]⟩ : ByteArray)) (cnd (sne x.1 (⟨#[46]⟩ : ByteArray)) (cnd (sne x.1 (⟨#[46, 46]⟩ : ByteArray)) (bnd (S22 k (x.1, (⟨#[42, 42]⟩ : ByteArray), ())) (fun (a4 : Bool) => some (bnot a4))) (some false)) (some false)) (some false))) 0)
def F25 : Fn := ⟨[.val (.str)], [.val (.bool)], S25⟩
def Γ25 : Ctx := ⟨alookup tys, alookup [(44, F44), (22, F22)], [(4, [3], [])], [], [], [], []⟩
theorem e25 (k : Nat) (x : PT [.val (.str)]) : S25 k x = runFn Γ25 k [.val (.str)] [.val (.bool)] Tryd.f25.ntmps Tryd.f25.results.toList (Tryd.f25.body.getD .skip) x := by kernel_rfl
theorem c25 : CtxOK Tryd.prog JS Γ25 := ⟨tysOK.get, AllL.get (l := [(44, F44), (22, F22)]) ⟨ok44, ok22, trivial⟩, by kernel_rfl⟩
theorem ok25 : FnOK Tryd.prog JS 25 F25 := fnOK_of c25 (fn := Tryd.f25) (c := Tryd.f25.body.getD .skip) rfl rfl rfl (by decide) e25
/-- smithyard/smithyardref1.CheckPattern -/
def S9 (k : Nat) (x : PT [.val (.str)]) : Option (OT [.val (.int .i64)]) :=
bnd (S24 k (ssz x.1, 1, 200, ())) (fun (a2 : Bool) => cnd (bnot a2) (some 3) (bnd (S21 k (x.1, (⟨#[47]⟩ : ByteArray), ())) (fun (a3 : (List ByteArray)) => loopN k (fun (a4 : (Int → (Option Int))) (a5 : Int) => cnd (ilt a5 (len a3)) (bnd (at? a3 a5) (fun (a6 : ByteArray) => bnd (S25 k (a6, ())) (fun (a7 : Bool) => cnd (bnot a7) (some 3) (a4 (iadd Go.IntKind.i64 a5 1))))) (some 0)) 0)))
def F9 : Fn := ⟨[.val (.str)], [.val (.int .i64)], S9⟩
def Γ9 : Ctx := ⟨alookup tys, alookup [(24, F24), (21, F21), (25, F25)], [(5, [4], [])], [(5, [3])], [], [], [3, 10]⟩
theorem e9 (k : Nat) (x : PT [.val (.str)]) : S9 k x = runFn Γ9 k [.val (.str)] [.val (.int .i64)] Tryd.f9.ntmps Tryd.f9.results.toList (Tryd.f9.body.getD .skip) x := by kernel_rfl
theorem c9 : CtxOK Tryd.prog JS Γ9 := ⟨tysOK.get, AllL.get (l := [(24, F24), (21, F21), (25, F25)]) ⟨ok24, ok21, ok25, trivial⟩, by kernel_rfl⟩
theorem ok9 : FnOK Tryd.prog JS 9 F9 := fnOK_of c9 (fn := Tryd.f9) (c := Tryd.f9.body.getD .skip) rfl rfl rfl (by decide) e9
/-- smithyard/smithyardref1.partFits -/
def S40 (k : Nat) (x : PT [.val (.str), .val (.str)]) : Option (OT [.val (.bool)]) :=
bnd (mk? 1 false (iadd Go.IntKind.i64 (ssz x.2.1) 1) (iadd Go.IntKind.i64 (ssz x.2.1) 1)) (fun (a2 : (List Bool)) => bnd (inb (len a2) 0) (fun (a3 : Unit) => loopN k (fun (a4 : (((List Bool) × Int) → (Option Bool))) (a5 : ((List Bool) × Int)) => cnd (ilt a5.2 (ssz x.1)) (bnd (mk? 1 false (iadd Go.IntKind.i64 (ssz x.2.1) 1) (iadd Go.IntKind.i64 (ssz x.2.1) 1)) (fun (a6 : (List Bool)) => loopN k (fun (a7 : ((Int × (List Bool)) → (Option Bool))) (a8 : (Int × (List Bool))) => cnd (ile a8.1 (ssz x.2.1)) (bnd (bt? x.1 a5.2) (fun (a9 : Int) => cnd (ieq a9 42) (bnd (at? a5.1 a8.1) (fun (a10 : Bool) => cnd a10 (bnd (inb (len a8.2) a8.1) (fun (a11 : Unit) => a7 (iadd Go.IntKind.i64 a8.1 1, setAt a8.2 a8.1 true))) (cnd (igt a8.1 0) (bnd (inb (len a8.2) (isub Go.IntKind.i64 a8.1 1)) (fun (a11 : Unit) => bnd (inb (len a8.2) a8.1) (fun (a12 : Unit) => a7 (iadd Go.IntKind.i64 a8.1 1, setAt a8.2 a8.1 (gt false a8.2 (isub Go.IntKind.i64 a8.1 1)))))) (bnd (inb (len a8.2) a8.1) (fun (a11 : Unit) => a7 (iadd Go.IntKind.i64 a8.1 1, setAt a8.2 a8.1 false)))))) (cnd (igt a8.1 0) (bnd (at? a5.1 (isub Go.IntKind.i64 a8.1 1)) (fun (a10 : Bool) => cnd a10 (bnd (bt? x.1 a5.2) (fun (a11 : Int) => cnd (ieq a11 63) (bnd (inb (len a8.2) a8.1) (fun (a12 : Unit) => a7 (iadd Go.IntKind.i64 a8.1 1, setAt a8.2 a8.1 true))) (bnd (bt? x.1 a5.2) (fun (a12 : Int) => bnd (bt? x.2.1 (isub Go.IntKind.i64 a8.1 1)) (fun (a13 : Int) => bnd (inb (len a8.2) a8.1) (fun (a14 : Unit) => a7 (iadd Go.IntKind.i64 a8.1 1, setAt a8.2 a8.1 (ieq a12 a13)))))))) (bnd (inb (len a8.2) a8.1) (fun (a11 : Unit) => a7 (iadd Go.IntKind.i64 a8.1 1, setAt a8.2 a8.1 false))))) (bnd (inb (len a8.2) a8.1) (fun (a10 : Unit) => a7 (iadd Go.IntKind.i64 a8.1 1, setAt a8.2 a8.1 false)))))) (a4 (a8.2, iadd Go.IntKind.i64 a5.2 1))) (0, a6))) (bnd (inb (len a5.1) (ssz x.2.1)) (fun (a6 : Unit) => some (gt false a5.1 (ssz x.2.1))))) (setAt a2 0 true, 0)))
def F40 : Fn := ⟨[.val (.str), .val (.str)], [.val (.bool)], S40⟩
def Γ40 : Ctx := ⟨alookup tys, alookup [], [(4, [5, 6], []), (8, [8, 7], [])], [(8, [5])], [(12, 27)], [], []⟩
theorem e40 (k : Nat) (x : PT [.val (.str), .val (.str)]) : S40 k x = runFn Γ40 k [.val (.str), .val (.str)] [.val (.bool)] Tryd.f40.ntmps Tryd.f40.results.toList (Tryd.f40.body.getD .skip) x := by kernel_rfl
theorem c40 : CtxOK Tryd.prog JS Γ40 := ⟨tysOK.get, AllL.get (l := []) trivial, by kernel_rfl⟩
theorem ok40 : FnOK Tryd.prog JS 40 F40 := fnOK_of c40 (fn := Tryd.f40) (c := Tryd.f40.body.getD .skip) rfl rfl rfl (by decide) e40
/-- smithyard/smithyardref1.FitsOf -/
def S20 (k : Nat) (x : PT [.val (.str), .val (.str)]) : Option (OT [.val (.bool)]) :=
bnd (S21 k (x.2.1, (⟨#[47]⟩ : ByteArray), ())) (fun (a2 : (List ByteArray)) => bnd (mk? 1 false (iadd Go.IntKind.i64 (len a2) 1) (iadd Go.IntKind.i64 (len a2) 1)) (fun (a3 : (List Bool)) => bnd (inb (len a3) 0) (fun (a4 : Unit) => bnd (S21 k (x.1, (⟨#[47]⟩ : ByteArray), ())) (fun (a5 : (List ByteArray)) => loopN k (fun (a6 : (((List Bool) × Int) → (Option Bool))) (a7 : ((List Bool) × Int)) => cnd (ilt a7.2 (len a5)) (bnd (mk? 1 false (iadd Go.IntKind.i64 (len a2) 1) (iadd Go.IntKind.i64 (len a2) 1)) (fun (a8 : (List Bool)) => loopN k (fun (a9 : ((Int × (List Bool)) → (Option Bool))) (a10 : (Int × (List Bool))) => cnd (ile a10.1 (len a2)) (bnd (at? a5 a7.2) (fun (a11 : ByteArray) => cnd (seq a11 (⟨#[42, 42]⟩ : ByteArray)) (bnd (at? a7.1 a10.1) (fun (a12 : Bool) => cnd a12 (bnd (inb (len a10.2) a10.1) (fun (a13 : Unit) => a9 (iadd Go.IntKind.i64 a10.1 1, setAt a10.2 a10.1 true))) (cnd (igt a10.1 0) (bnd (inb (len a10.2) (isub Go.IntKind.i64 a10.1 1)) (fun (a13 : Unit) => bnd (inb (len a10.2) a10.1) (fun (a14 : Unit) => a9 (iadd Go.IntKind.i64 a10.1 1, setAt a10.2 a10.1 (gt false a10.2 (isub Go.IntKind.i64 a10.1 1)))))) (bnd (inb (len a10.2) a10.1) (fun (a13 : Unit) => a9 (iadd Go.IntKind.i64 a10.1 1, setAt a10.2 a10.1 false)))))) (cnd (igt a10.1 0) (bnd (at? a7.1 (isub Go.IntKind.i64 a10.1 1)) (fun (a12 : Bool) => cnd a12 (bnd (at? a5 a7.2) (fun (a13 : ByteArray) => bnd (at? a2 (isub Go.IntKind.i64 a10.1 1)) (fun (a14 : ByteArray) => bnd (S40 k (a13, a14, ())) (fun (a15 : Bool) => bnd (inb (len a10.2) a10.1) (fun (a16 : Unit) => a9 (iadd Go.IntKind.i64 a10.1 1, setAt a10.2 a10.1 a15)))))) (bnd (inb (len a10.2) a10.1) (fun (a13 : Unit) => a9 (iadd Go.IntKind.i64 a10.1 1, setAt a10.2 a10.1 false))))) (bnd (inb (len a10.2) a10.1) (fun (a12 : Unit) => a9 (iadd Go.IntKind.i64 a10.1 1, setAt a10.2 a10.1 false)))))) (a6 (a10.2, iadd Go.IntKind.i64 a7.2 1))) (0, a8))) (bnd (inb (len a7.1) (len a2)) (fun (a8 : Unit) => some (gt false a7.1 (len a2))))) (setAt a3 0 true, 0)))))
def F20 : Fn := ⟨[.val (.str), .val (.str)], [.val (.bool)], S20⟩
def Γ20 : Ctx := ⟨alookup tys, alookup [(21, F21), (40, F40)], [(6, [6, 8], []), (10, [10, 9], [])], [(6, [5, 7]), (10, [5, 6, 7])], [(14, 23)], [], [5, 7, 12, 20]⟩
theorem e20 (k : Nat) (x : PT [.val (.str), .val (.str)]) : S20 k x = runFn Γ20 k [.val (.str), .val (.str)] [.val (.bool)] Tryd.f20.ntmps Tryd.f20.results.toList (Tryd.f20.body.getD .skip) x := by kernel_rfl
theorem c20 : CtxOK Tryd.prog JS Γ20 := ⟨tysOK.get, AllL.get (l := [(21, F21), (40, F40)]) ⟨ok21, ok40, trivial⟩, by kernel_rfl⟩
theorem ok20 : FnOK Tryd.prog JS 20 F20 := fnOK_of c20 (fn := Tryd.f20) (c := Tryd.f20.body.getD .skip) rfl rfl rfl (by decide) e20
/-- smithyard/smithyardref1.fitsOne -/
def S33 (k : Nat) (x : PT [.val (.slice (.str)), .val (.str)]) : Option (OT [.val (.bool)]) :=
loopN k (fun (a2 : (Int → (Option Bool))) (a3 : Int) => cnd (ilt a3 (len x.1)) (bnd (at? x.1 a3) (fun (a4 : ByteArray) => bnd (S20 k (a4, x.2.1, ())) (fun (a5 : Bool) => cnd a5 (some true) (a2 (iadd Go.IntKind.i64 a3 1))))) (some false)) 0
def F33 : Fn := ⟨[.val (.slice (.str)), .val (.str)], [.val (.bool)], S33⟩
def Γ33 : Ctx := ⟨alookup tys, alookup [(20, F20)], [(2, [5], [])], [], [], [], []⟩
theorem e33 (k : Nat) (x : PT [.val (.slice (.str)), .val (.str)]) : S33 k x = runFn Γ33 k [.val (.slice (.str)), .val (.str)] [.val (.bool)] Tryd.f33.ntmps Tryd.f33.results.toList (Tryd.f33.body.getD .skip) x := by kernel_rfl
theorem c33 : CtxOK Tryd.prog JS Γ33 := ⟨tysOK.get, AllL.get (l := [(20, F20)]) ⟨ok20, trivial⟩, by kernel_rfl⟩
theorem ok33 : FnOK Tryd.prog JS 33 F33 := fnOK_of c33 (fn := Tryd.f33) (c := Tryd.f33.body.getD .skip) rfl rfl rfl (by decide) e33
/-- smithyard/smithyardref1.Select -/
def S14 (k : Nat) (x : PT [.val (.slice (.agg (.pair (.str) (.pair (.bool) (.slice (.int .u8)))))), .val (.slice (.str)), .val (.slice (.str))]) : Option (OT [.val (.slice (.str)), .val (.int .i64)]) :=
bnd (S32 k (x.1, ())) (fun (a2 : Int) => cnd (ine a2 0) (some (([] : List ByteArray), a2)) (loopN k (fun (a3 : (Int → (Option ((List ByteArray) × Int)))) (a4 : Int) => cnd (ilt a4 (len x.2.1)) (bnd (at? x.2.1 a4) (fun (a5 : ByteArray) => bnd (S9 k (a5, ())) (fun (a6 : Int) => cnd (ine a6 0) (some (([] : List ByteArray), a6)) (a3 (iadd Go.IntKind.i64 a4 1))))) (loopN k (fun (a5 : (Int → (Option ((List ByteArray) × Int)))) (a6 : Int) => cnd (ilt a6 (len x.2.2.1)) (bnd (at? x.2.2.1 a6) (fun (a7 : ByteArray) => bnd (S9 k (a7, ())) (fun (a8 : Int) => cnd (ine a8 0) (some (([] : List ByteArray), a8)) (a5 (iadd Go.IntKind.i64 a6 1))))) (loopN k (fun (a7 : (((List ByteArray) × Int) → (Option ((List ByteArray) × Int)))) (a8 : ((List ByteArray) × Int)) => cnd (ilt a8.2 (len x.1)) (bnd (at? x.1 a8.2) (fun (a9 : (ByteArray × (Bool × (List Int)))) => bnd (S33 k (x.2.1, a9.1, ())) (fun (a10 : Bool) => cnd a10 (bnd (at? x.1 a8.2) (fun (a11 : (ByteArray × (Bool × (List Int)))) => bnd (S33 k (x.2.2.1, a11.1, ())) (fun (a12 : Bool) => cnd (bnot a12) (bnd (at? x.1 a8.2) (fun (a13 : (ByteArray × (Bool × (List Int)))) => bnd (app? 16 a8.1 (a13.1 :: ([] : List ByteArray))) (fun (a14 : (List ByteArray)) => a7 (a14, iadd Go.IntKind.i64 a8.2 1)))) (a7 (a8.1, iadd Go.IntKind.i64 a8.2 1))))) (a7 (a8.1, iadd Go.IntKind.i64 a8.2 1))))) (some (a8.1, 0))) (([] : List ByteArray), 0))) 0)) 0))
def F14 : Fn := ⟨[.val (.slice (.agg (.pair (.str) (.pair (.bool) (.slice (.int .u8)))))), .val (.slice (.str)), .val (.slice (.str))], [.val (.slice (.str)), .val (.int .i64)], S14⟩
def Γ14 : Ctx := ⟨alookup tys, alookup [(32, F32), (9, F9), (33, F33)], [(5, [9], []), (11, [11], []), (18, [13, 14], [])], [], [], [], [6, 77]⟩
theorem e14 (k : Nat) (x : PT [.val (.slice (.agg (.pair (.str) (.pair (.bool) (.slice (.int .u8)))))), .val (.slice (.str)), .val (.slice (.str))]) : S14 k x = runFn Γ14 k [.val (.slice (.agg (.pair (.str) (.pair (.bool) (.slice (.int .u8)))))), .val (.slice (.str)), .val (.slice (.str))] [.val (.slice (.str)), .val (.int .i64)] Tryd.f14.ntmps Tryd.f14.results.toList (Tryd.f14.body.getD .skip) x := by kernel_rfl
theorem c14 : CtxOK Tryd.prog JS Γ14 := ⟨tysOK.get, AllL.get (l := [(32, F32), (9, F9), (33, F33)]) ⟨ok32, ok9, ok33, trivial⟩, by kernel_rfl⟩
theorem ok14 : FnOK Tryd.prog JS 14 F14 := fnOK_of c14 (fn := Tryd.f14) (c := Tryd.f14.body.getD .skip) rfl rfl rfl (by decide) e14
/-- slices.Equal[[]string,string] -/
def S15 (k : Nat) (x : PT [.val (.slice (.str)), .val (.slice (.str))]) : Option (OT [.val (.bool)]) :=
cnd (ine (len x.1) (len x.2.1)) (some false) (loopN k (fun (a2 : (Int → (Option Bool))) (a3 : Int) => cnd (ilt a3 (len x.1)) (bnd (at? x.1 a3) (fun (a4 : ByteArray) => bnd (at? x.2.1 a3) (fun (a5 : ByteArray) => cnd (sne a4 a5) (some false) (a2 (iadd Go.IntKind.i64 a3 1))))) (some true)) 0)
def F15 : Fn := ⟨[.val (.slice (.str)), .val (.slice (.str))], [.val (.bool)], S15⟩
def Γ15 : Ctx := ⟨alookup tys, alookup [], [(4, [13], [])], [], [(6, 8)], [], []⟩
theorem e15 (k : Nat) (x : PT [.val (.slice (.str)), .val (.slice (.str))]) : S15 k x = runFn Γ15 k [.val (.slice (.str)), .val (.slice (.str))] [.val (.bool)] Tryd.f15.ntmps Tryd.f15.results.toList (Tryd.f15.body.getD .skip) x := by kernel_rfl
theorem c15 : CtxOK Tryd.prog JS Γ15 := ⟨tysOK.get, AllL.get (l := []) trivial, by kernel_rfl⟩
theorem ok15 : FnOK Tryd.prog JS 15 F15 := fnOK_of c15 (fn := Tryd.f15) (c := Tryd.f15.body.getD .skip) rfl rfl rfl (by decide) e15
/-- bytes.Equal -/
def S49 (k : Nat) (x : PT [.val (.slice (.int .u8)), .val (.slice (.int .u8))]) : Option (OT [.val (.bool)]) :=
some (seq (strOf x.1) (strOf x.2.1))
def F49 : Fn := ⟨[.val (.slice (.int .u8)), .val (.slice (.int .u8))], [.val (.bool)], S49⟩
def Γ49 : Ctx := ⟨alookup tys, alookup [], [], [], [], [], []⟩
theorem e49 (k : Nat) (x : PT [.val (.slice (.int .u8)), .val (.slice (.int .u8))]) : S49 k x = runFn Γ49 k [.val (.slice (.int .u8)), .val (.slice (.int .u8))] [.val (.bool)] Tryd.f49.ntmps Tryd.f49.results.toList (Tryd.f49.body.getD .skip) x := by kernel_rfl
theorem c49 : CtxOK Tryd.prog JS Γ49 := ⟨tysOK.get, AllL.get (l := []) trivial, by kernel_rfl⟩
theorem ok49 : FnOK Tryd.prog JS 49 F49 := fnOK_of c49 (fn := Tryd.f49) (c := Tryd.f49.body.getD .skip) rfl rfl rfl (by decide) e49
/-- smithyard/smithyardref1.SameFile -/
def S34 (k : Nat) (x : PT [.val (.agg (.pair (.str) (.pair (.bool) (.slice (.int .u8))))), .val (.agg (.pair (.str) (.pair (.bool) (.slice (.int .u8)))))]) : Option (OT [.val (.bool)]) :=
cnd (seq x.1.1 x.2.1.1) (cnd (beq2 x.1.2.1 x.2.1.2.1) (bnd (S49 k (x.1.2.2, x.2.1.2.2, ())) (fun (a2 : Bool) => some a2)) (some false)) (some false)
def F34 : Fn := ⟨[.val (.agg (.pair (.str) (.pair (.bool) (.slice (.int .u8))))), .val (.agg (.pair (.str) (.pair (.bool) (.slice (.int .u8)))))], [.val (.bool)], S34⟩
def Γ34 : Ctx := ⟨alookup tys, alookup [(49, F49)], [], [], [], [], []⟩
theorem e34 (k : Nat) (x : PT [.val (.agg (.pair (.str) (.pair (.bool) (.slice (.int .u8))))), .val (.agg (.pair (.str) (.pair (.bool) (.slice (.int .u8)))))]) : S34 k x = runFn Γ34 k [.val (.agg (.pair (.str) (.pair (.bool) (.slice (.int .u8))))), .val (.agg (.pair (.str) (.pair (.bool) (.slice (.int .u8)))))] [.val (.bool)] Tryd.f34.ntmps Tryd.f34.results.toList (Tryd.f34.body.getD .skip) x := by kernel_rfl
theorem c34 : CtxOK Tryd.prog JS Γ34 := ⟨tysOK.get, AllL.get (l := [(49, F49)]) ⟨ok49, trivial⟩, by kernel_rfl⟩
theorem ok34 : FnOK Tryd.prog JS 34 F34 := fnOK_of c34 (fn := Tryd.f34) (c := Tryd.f34.body.getD .skip) rfl rfl rfl (by decide) e34
/-- smithyard/smithyardref1.SameFiles -/
def S16 (k : Nat) (x : PT [.val (.slice (.agg (.pair (.str) (.pair (.bool) (.slice (.int .u8)))))), .val (.slice (.agg (.pair (.str) (.pair (.bool) (.slice (.int .u8))))))]) : Option (OT [.val (.bool)]) :=
cnd (ine (len x.1) (len x.2.1)) (some false) (loopN k (fun (a2 : (Int → (Option Bool))) (a3 : Int) => cnd (ilt a3 (len x.1)) (bnd (at? x.1 a3) (fun (a4 : (ByteArray × (Bool × (List Int)))) => bnd (at? x.2.1 a3) (fun (a5 : (ByteArray × (Bool × (List Int)))) => bnd (S34 k (a4, a5, ())) (fun (a6 : Bool) => cnd (bnot a6) (some false) (a2 (iadd Go.IntKind.i64 a3 1)))))) (some true)) 0)
def F16 : Fn := ⟨[.val (.slice (.agg (.pair (.str) (.pair (.bool) (.slice (.int .u8)))))), .val (.slice (.agg (.pair (.str) (.pair (.bool) (.slice (.int .u8))))))], [.val (.bool)], S16⟩
def Γ16 : Ctx := ⟨alookup tys, alookup [(34, F34)], [(4, [5], [])], [], [(6, 8)], [], []⟩
theorem e16 (k : Nat) (x : PT [.val (.slice (.agg (.pair (.str) (.pair (.bool) (.slice (.int .u8)))))), .val (.slice (.agg (.pair (.str) (.pair (.bool) (.slice (.int .u8))))))]) : S16 k x = runFn Γ16 k [.val (.slice (.agg (.pair (.str) (.pair (.bool) (.slice (.int .u8)))))), .val (.slice (.agg (.pair (.str) (.pair (.bool) (.slice (.int .u8))))))] [.val (.bool)] Tryd.f16.ntmps Tryd.f16.results.toList (Tryd.f16.body.getD .skip) x := by kernel_rfl
theorem c16 : CtxOK Tryd.prog JS Γ16 := ⟨tysOK.get, AllL.get (l := [(34, F34)]) ⟨ok34, trivial⟩, by kernel_rfl⟩
theorem ok16 : FnOK Tryd.prog JS 16 F16 := fnOK_of c16 (fn := Tryd.f16) (c := Tryd.f16.body.getD .skip) rfl rfl rfl (by decide) e16
/-- smithyard/smithyardlaw1.BlobSelectsMatchSpec -/
def S5 (k : Nat) (x : PT [.val (.slice (.agg (.pair (.str) (.pair (.bool) (.slice (.int .u8)))))), .val (.slice (.str)), .val (.slice (.str))]) : Option (OT [.val (.bool)]) :=
bnd (S12 k (x.1, ())) (fun (a2 : (List (ByteArray × (Bool × (List Int))))) => bnd (S13 k (x.2.1, ())) (fun (a3 : (List ByteArray)) => bnd (S13 k (x.2.2.1, ())) (fun (a4 : (List ByteArray)) => bnd (S11 k (x.1, x.2.1, x.2.2.1, ())) (fun (a5 : ((List ByteArray) × Int)) => bnd (S14 k (a2, a3, a4, ())) (fun (a6 : ((List ByteArray) × Int)) => bnd (S15 k (a5.1, a6.1, ())) (fun (a7 : Bool) => cnd a7 (cnd (ieq a5.2 a6.2) (bnd (S16 k (x.1, a2, ())) (fun (a8 : Bool) => cnd a8 (bnd (S15 k (x.2.1, a3, ())) (fun (a9 : Bool) => cnd a9 (bnd (S15 k (x.2.2.1, a4, ())) (fun (a10 : Bool) => cnd a10 (bnd (S10 k ()) (fun (a11 : Bool) => some a11)) (some false))) (some false))) (some false))) (some false)) (some false)))))))
def F5 : Fn := ⟨[.val (.slice (.agg (.pair (.str) (.pair (.bool) (.slice (.int .u8)))))), .val (.slice (.str)), .val (.slice (.str))], [.val (.bool)], S5⟩
def Γ5 : Ctx := ⟨alookup tys, alookup [(12, F12), (13, F13), (11, F11), (14, F14), (15, F15), (16, F16), (10, F10)], [], [], [], [], [7, 8, 9, 10, 12, 15, 17, 19]⟩
theorem e5 (k : Nat) (x : PT [.val (.slice (.agg (.pair (.str) (.pair (.bool) (.slice (.int .u8)))))), .val (.slice (.str)), .val (.slice (.str))]) : S5 k x = runFn Γ5 k [.val (.slice (.agg (.pair (.str) (.pair (.bool) (.slice (.int .u8)))))), .val (.slice (.str)), .val (.slice (.str))] [.val (.bool)] Tryd.f5.ntmps Tryd.f5.results.toList (Tryd.f5.body.getD .skip) x := by kernel_rfl
theorem c5 : CtxOK Tryd.prog JS Γ5 := ⟨tysOK.get, AllL.get (l := [(12, F12), (13, F13), (11, F11), (14, F14), (15, F15), (16, F16), (10, F10)]) ⟨ok12, ok13, ok11, ok14, ok15, ok16, ok10, trivial⟩, by kernel_rfl⟩
theorem ok5 : FnOK Tryd.prog JS 5 F5 := fnOK_of c5 (fn := Tryd.f5) (c := Tryd.f5.body.getD .skip) rfl rfl rfl (by decide) e5
end Go.Proofs.YtjdfbpjbobmgdaaDoor.Ev
