/- Pcb: the functions as plain Lean, and that they are the program's (printed by this session's own wip/ev/gen.py) -/
import Derived.Test.YtcppmncmlhibhaaEv2
import Derived.Test.YtcppmncmlhibhaaProg
namespace Go.Proofs.Ytcppmncmlhibhaa.Ev
open Go Go.Proofs Go.RowKit
set_option linter.unusedVariables false
set_option maxRecDepth 100000
theorem ty_3 : TyOK Try.prog 3 ⟨.int .i64, [], 0, 0, 0⟩ := ⟨⟨rfl, rfl, ⟨_, rfl, rfl, _, rfl, rfl⟩, ⟨_, rfl, rfl⟩⟩, rfl⟩
theorem ty_4 : TyOK Try.prog 4 ⟨.bool, [], 0, 0, 0⟩ := ⟨⟨rfl, rfl, ⟨_, rfl, rfl, _, rfl, rfl⟩, ⟨_, rfl, rfl⟩⟩, rfl⟩
theorem ty_5 : TyOK Try.prog 5 ⟨.int .u8, [], 0, 0, 0⟩ := ⟨⟨rfl, rfl, ⟨_, rfl, rfl, _, rfl, rfl⟩, ⟨_, rfl, rfl⟩⟩, rfl⟩
theorem ty_9 : TyOK Try.prog 9 ⟨.str, [], 0, 0, 0⟩ := ⟨⟨rfl, rfl, ⟨_, rfl, rfl, _, rfl, rfl⟩, ⟨_, rfl, rfl⟩⟩, rfl⟩
theorem ty_22 : TyOK Try.prog 22 ⟨.slice (.int .u8), [], 0, 5, 1⟩ := ⟨⟨trivial, rfl, ⟨_, rfl, rfl, _, rfl, rfl⟩, ⟨_, rfl, rfl⟩⟩, ⟨rfl, ty_5.1, fun i h => by cases h; rfl⟩⟩
theorem ty_23 : TyOK Try.prog 23 ⟨.slice (.int .i64), [], 0, 3, 8⟩ := ⟨⟨trivial, rfl, ⟨_, rfl, rfl, _, rfl, rfl⟩, ⟨_, rfl, rfl⟩⟩, ⟨rfl, ty_3.1, fun i h => by cases h; rfl⟩⟩
theorem ty_24 : TyOK Try.prog 24 ⟨.int .i64, [], 0, 0, 0⟩ := ⟨⟨rfl, rfl, ⟨_, rfl, rfl, _, rfl, rfl⟩, ⟨_, rfl, rfl⟩⟩, rfl⟩
theorem ty_28 : TyOK Try.prog 28 ⟨.slice (.slice (.int .u8)), [], 0, 22, 24⟩ := ⟨⟨trivial, rfl, ⟨_, rfl, rfl, _, rfl, rfl⟩, ⟨_, rfl, rfl⟩⟩, ⟨rfl, ty_22.1, fun i h => by cases h; rfl⟩⟩
theorem ty_37 : TyOK Try.prog 37 ⟨.int .u32, [], 0, 0, 0⟩ := ⟨⟨rfl, rfl, ⟨_, rfl, rfl, _, rfl, rfl⟩, ⟨_, rfl, rfl⟩⟩, rfl⟩
theorem ty_38 : TyOK Try.prog 38 ⟨.int .u64, [], 0, 0, 0⟩ := ⟨⟨rfl, rfl, ⟨_, rfl, rfl, _, rfl, rfl⟩, ⟨_, rfl, rfl⟩⟩, rfl⟩
theorem ty_39 : TyOK Try.prog 39 ⟨.int .u64, [], 0, 0, 0⟩ := ⟨⟨rfl, rfl, ⟨_, rfl, rfl, _, rfl, rfl⟩, ⟨_, rfl, rfl⟩⟩, rfl⟩
def tys : List (Nat × Ty) := [(3, ⟨.int .i64, [], 0, 0, 0⟩), (4, ⟨.bool, [], 0, 0, 0⟩), (5, ⟨.int .u8, [], 0, 0, 0⟩), (9, ⟨.str, [], 0, 0, 0⟩), (22, ⟨.slice (.int .u8), [], 0, 5, 1⟩), (23, ⟨.slice (.int .i64), [], 0, 3, 8⟩), (24, ⟨.int .i64, [], 0, 0, 0⟩), (28, ⟨.slice (.slice (.int .u8)), [], 0, 22, 24⟩), (37, ⟨.int .u32, [], 0, 0, 0⟩), (38, ⟨.int .u64, [], 0, 0, 0⟩), (39, ⟨.int .u64, [], 0, 0, 0⟩)]
def eqs : List Nat := []
theorem eqsOK : ∀ t k, eqs.any (Nat.beq t) = true → (match alookup tys t with | some y => some y.k | none => none) = some k → EqOK Try.prog t k := by
  intro t k h hk
  cases h
theorem tysOK : AllL (TyOK Try.prog) tys := ⟨ty_3, ty_4, ty_5, ty_9, ty_22, ty_23, ty_24, ty_28, ty_37, ty_38, ty_39, trivial⟩
variable {J : Inv}
/-- smithyard/blob.cut -/
def S9 (k : Nat) (x : PT [.val (.slice (.int .u8)), .val (.int .i64), .val (.int .i64), .val (.int .i64)]) : Option (OT [.val (.slice (.int .i64))]) :=
loopN k (fun (a2 : ((Int × Int) → (Option (List Int)))) (a3 : (Int × Int)) => cnd (ilt a3.2 15) (a2 (imul Go.IntKind.u32 a3.1 31, iadd Go.IntKind.i64 a3.2 1)) (loopN k (fun (a4 : (((List Int) × (Int × (Int × Int))) → (Option (List Int)))) (a5 : ((List Int) × (Int × (Int × Int)))) => cnd (ilt a5.2.2.2 (len x.1)) (bnd (at? x.1 a5.2.2.2) (fun (a6 : Int) => jn (fun (a7 : (Int → (Option (List Int)))) => cnd (ige a5.2.2.2 16) (bnd (at? x.1 (isub Go.IntKind.i64 a5.2.2.2 16)) (fun (a8 : Int) => a7 (isub Go.IntKind.u32 a5.2.1 (imul Go.IntKind.u32 a3.1 (iwr Go.IntKind.u32 a8))))) (a7 a5.2.1)) (fun (a7 : Int) => jn (fun (a8 : (Bool → (Option (List Int)))) => cnd (ige (isub Go.IntKind.i64 (iadd Go.IntKind.i64 a5.2.2.2 1) a5.2.2.1) x.2.1) (bnd (ishl? Go.IntKind.u32 1 x.2.2.1) (fun (a9 : Int) => cnd (ieq (iand Go.IntKind.u32 (iadd Go.IntKind.u32 (imul Go.IntKind.u32 31 a7) (iwr Go.IntKind.u32 a6)) (isub Go.IntKind.u32 a9 1)) 0) (a8 true) (a8 (ige (isub Go.IntKind.i64 (iadd Go.IntKind.i64 a5.2.2.2 1) a5.2.2.1) x.2.2.2.1)))) (a8 (ige (isub Go.IntKind.i64 (iadd Go.IntKind.i64 a5.2.2.2 1) a5.2.2.1) x.2.2.2.1))) (fun (a8 : Bool) => cnd a8 (bnd (app? 8 a5.1 ((isub Go.IntKind.i64 (iadd Go.IntKind.i64 a5.2.2.2 1) a5.2.2.1) :: ([] : List Int))) (fun (a9 : (List Int)) => a4 (a9, iadd Go.IntKind.u32 (imul Go.IntKind.u32 31 a7) (iwr Go.IntKind.u32 a6), iadd Go.IntKind.i64 a5.2.2.2 1, iadd Go.IntKind.i64 a5.2.2.2 1))) (a4 (a5.1, iadd Go.IntKind.u32 (imul Go.IntKind.u32 31 a7) (iwr Go.IntKind.u32 a6), a5.2.2.1, iadd Go.IntKind.i64 a5.2.2.2 1)))))) (cnd (ilt a5.2.2.1 (len x.1)) (bnd (app? 8 a5.1 ((isub Go.IntKind.i64 (len x.1) a5.2.2.1) :: ([] : List Int))) (fun (a6 : (List Int)) => some a6)) (some a5.1))) (([] : List Int), 0, 0, 0))) (1, 0)
def F9 : Fn := ⟨[.val (.slice (.int .u8)), .val (.int .i64), .val (.int .i64), .val (.int .i64)], [.val (.slice (.int .i64))], S9⟩
def Γ9 : Ctx := ⟨alookup tys, alookup [], [(3, [9, 16], []), (9, [10, 11, 12, 23], [])], [(9, [21])], [], [], [8, 67, 81], eqs, [(16, [], [64], [.val (.bool)], []), (13, [11], [11], [.val (.int .u32)], [])], [], alookup [], alookup []⟩
theorem e9 (k : Nat) (x : PT [.val (.slice (.int .u8)), .val (.int .i64), .val (.int .i64), .val (.int .i64)]) : S9 k x = runFn Γ9 k [.val (.slice (.int .u8)), .val (.int .i64), .val (.int .i64), .val (.int .i64)] [.val (.slice (.int .i64))] Try.f9.ntmps Try.f9.results.toList (Try.f9.body.getD .skip) x := by kernel_rfl
theorem c9 : CtxOK Try.prog J Γ9 := ⟨tysOK.get, AllL.get (l := []) trivial, by kernel_rfl, eqsOK, AllL.get (l := []) trivial, AllL.get (l := []) trivial⟩
theorem ok9 : FnOK Try.prog J 9 F9 := fnOK_of c9 (fn := Try.f9) (c := Try.f9.body.getD .skip) rfl rfl rfl (by decide) e9
/-- smithyard/blob.Pieces -/
def S4 (k : Nat) (x : PT [.val (.slice (.int .u8)), .val (.int .i64), .val (.int .i64), .val (.int .i64)]) : Option (OT [.val (.slice (.int .i64)), .val (.int .i64)]) :=
cnd (igt (len x.1) 2000000) (some (([] : List Int), 2)) (jn (fun (a2 : (Bool → (Option ((List Int) × Int)))) => cnd (ilt x.2.1 1) (a2 true) (cnd (igt x.2.1 x.2.2.2.1) (a2 true) (cnd (ilt x.2.2.1 0) (a2 true) (cnd (igt x.2.2.1 20) (a2 true) (a2 (igt x.2.2.2.1 100000)))))) (fun (a2 : Bool) => cnd a2 (some (([] : List Int), 1)) (bnd (S9 k (x.1, x.2.1, x.2.2.1, x.2.2.2.1, ())) (fun (a3 : (List Int)) => cnd (igt (len a3) 20000) (some (([] : List Int), 2)) (some (a3, 0))))))
def F4 : Fn := ⟨[.val (.slice (.int .u8)), .val (.int .i64), .val (.int .i64), .val (.int .i64)], [.val (.slice (.int .i64)), .val (.int .i64)], S4⟩
def Γ4 : Ctx := ⟨alookup tys, alookup [(9, F9)], [], [], [], [], [8, 10, 37], eqs, [(4, [], [32], [.val (.bool)], [])], [], alookup [], alookup []⟩
theorem e4 (k : Nat) (x : PT [.val (.slice (.int .u8)), .val (.int .i64), .val (.int .i64), .val (.int .i64)]) : S4 k x = runFn Γ4 k [.val (.slice (.int .u8)), .val (.int .i64), .val (.int .i64), .val (.int .i64)] [.val (.slice (.int .i64)), .val (.int .i64)] Try.f4.ntmps Try.f4.results.toList (Try.f4.body.getD .skip) x := by kernel_rfl
theorem c4 : CtxOK Try.prog J Γ4 := ⟨tysOK.get, AllL.get (l := [(9, F9)]) ⟨ok9, trivial⟩, by kernel_rfl, eqsOK, AllL.get (l := []) trivial, AllL.get (l := []) trivial⟩
theorem ok4 : FnOK Try.prog J 4 F4 := fnOK_of c4 (fn := Try.f4) (c := Try.f4.body.getD .skip) rfl rfl rfl (by decide) e4
/-- smithyard/blob.Digest -/
def S10 (k : Nat) (x : PT [.val (.slice (.int .u8))]) : Option (OT [.val (.str)]) :=
loopN k (fun (a2 : ((Int × Int) → (Option ByteArray))) (a3 : (Int × Int)) => cnd (ilt a3.2 (len x.1)) (bnd (at? x.1 a3.2) (fun (a4 : Int) => a2 (imul Go.IntKind.u64 (ixor Go.IntKind.u64 a3.1 (iwr Go.IntKind.u64 a4)) 1099511628211, iadd Go.IntKind.i64 a3.2 1))) (bnd (mk? 1 0 16 16) (fun (a4 : (List Int)) => loopN k (fun (a5 : ((Int × (Int × (List Int))) → (Option ByteArray))) (a6 : (Int × (Int × (List Int)))) => cnd (ilt a6.2.1 (len a4)) (bnd (bt? (⟨#[48, 49, 50, 51, 52, 53, 54, 55, 56, 57, 97, 98, 99, 100, 101, 102]⟩ : ByteArray) (iand Go.IntKind.u64 a6.1 15)) (fun (a7 : Int) => bnd (inb (len a6.2.2) (isub Go.IntKind.i64 15 a6.2.1)) (fun (a8 : Unit) => bnd (ishr? Go.IntKind.u64 a6.1 4) (fun (a9 : Int) => a5 (a9, iadd Go.IntKind.i64 a6.2.1 1, setAt a6.2.2 (isub Go.IntKind.i64 15 a6.2.1) a7))))) (some (strOf a6.2.2))) (a3.1, 0, a4)))) (14695981039346656037, 0)
def F10 : Fn := ⟨[.val (.slice (.int .u8))], [.val (.str)], S10⟩
def Γ10 : Ctx := ⟨alookup tys, alookup [], [(3, [3, 10], []), (9, [3, 23, 6], [])], [(3, [8])], [], [], [], eqs, [], [], alookup [], alookup []⟩
theorem e10 (k : Nat) (x : PT [.val (.slice (.int .u8))]) : S10 k x = runFn Γ10 k [.val (.slice (.int .u8))] [.val (.str)] Try.f10.ntmps Try.f10.results.toList (Try.f10.body.getD .skip) x := by kernel_rfl
theorem c10 : CtxOK Try.prog J Γ10 := ⟨tysOK.get, AllL.get (l := []) trivial, by kernel_rfl, eqsOK, AllL.get (l := []) trivial, AllL.get (l := []) trivial⟩
theorem ok10 : FnOK Try.prog J 10 F10 := fnOK_of c10 (fn := Try.f10) (c := Try.f10.body.getD .skip) rfl rfl rfl (by decide) e10
/-- smithyard/smithyardlaw1.awake -/
def S5 (k : Nat) (x : PT []) : Option (OT [.val (.bool)]) :=
bnd (S10 k (([] : List Int), ())) (fun (a2 : ByteArray) => some (seq a2 (⟨#[99, 98, 102, 50, 57, 99, 101, 52, 56, 52, 50, 50, 50, 51, 50, 53]⟩ : ByteArray)))
def F5 : Fn := ⟨[], [.val (.bool)], S5⟩
def Γ5 : Ctx := ⟨alookup tys, alookup [(10, F10)], [], [], [], [], [], eqs, [], [], alookup [], alookup []⟩
theorem e5 (k : Nat) (x : PT []) : S5 k x = runFn Γ5 k [] [.val (.bool)] Try.f5.ntmps Try.f5.results.toList (Try.f5.body.getD .skip) x := by kernel_rfl
theorem c5 : CtxOK Try.prog J Γ5 := ⟨tysOK.get, AllL.get (l := [(10, F10)]) ⟨ok10, trivial⟩, by kernel_rfl, eqsOK, AllL.get (l := []) trivial, AllL.get (l := []) trivial⟩
theorem ok5 : FnOK Try.prog J 5 F5 := fnOK_of c5 (fn := Try.f5) (c := Try.f5.body.getD .skip) rfl rfl rfl (by decide) e5
/-- slices.Grow[[]byte,byte] -/
def S12 (k : Nat) (x : PT [.nil (.int .u8), .val (.int .i64)]) : Option (OT [.own (.int .u8)]) :=
jn (fun (a2 : (Unit → (Option (List Int)))) => cnd (ilt x.2.1 0) none (a2 ())) (fun (a2 : Unit) => cnd (igt (isub Go.IntKind.i64 x.2.1 (isub Go.IntKind.i64 0 (len ([] : List Int)))) 0) (bnd (cut? ([] : List Int) 0 0) (fun (a3 : (List Int)) => bnd (inb (isub Go.IntKind.i64 x.2.1 (isub Go.IntKind.i64 0 (len ([] : List Int)))) 0) (fun (a4 : Unit) => bnd (mk? 1 0 (isub Go.IntKind.i64 x.2.1 (isub Go.IntKind.i64 0 (len ([] : List Int)))) (isub Go.IntKind.i64 x.2.1 (isub Go.IntKind.i64 0 (len ([] : List Int))))) (fun (a5 : (List Int)) => bnd (cut? a5 0 (len ([] : List Int))) (fun (a6 : (List Int)) => some a6))))) (some ([] : List Int)))
def F12 : Fn := ⟨[.nil (.int .u8), .val (.int .i64)], [.own (.int .u8)], S12⟩
def Γ12 : Ctx := ⟨alookup tys, alookup [], [], [], [], [20, 25], [], eqs, [(3, [], [], [], [])], [], alookup [], alookup []⟩
theorem e12 (k : Nat) (x : PT [.nil (.int .u8), .val (.int .i64)]) : S12 k x = runFn Γ12 k [.nil (.int .u8), .val (.int .i64)] [.own (.int .u8)] Try.f12.ntmps Try.f12.results.toList (Try.f12.body.getD .skip) x := by kernel_rfl
theorem c12 : CtxOK Try.prog J Γ12 := ⟨tysOK.get, AllL.get (l := []) trivial, by kernel_rfl, eqsOK, AllL.get (l := []) trivial, AllL.get (l := []) trivial⟩
theorem ok12 : FnOK Try.prog J 12 F12 := fnOK_of c12 (fn := Try.f12) (c := Try.f12.body.getD .skip) rfl rfl rfl (by decide) e12
/-- slices.Concat[[]byte,byte] -/
def S11 (k : Nat) (x : PT [.val (.slice (.slice (.int .u8)))]) : Option (OT [.val (.slice (.int .u8))]) :=
loopN k (fun (a2 : ((Int × Int) → (Option (List Int)))) (a3 : (Int × Int)) => cnd (ilt a3.2 (len x.1)) (bnd (at? x.1 a3.2) (fun (a4 : (List Int)) => cnd (ilt (iadd Go.IntKind.i64 a3.1 (len a4)) 0) none (a2 (iadd Go.IntKind.i64 a3.1 (len a4), iadd Go.IntKind.i64 a3.2 1)))) (bnd (S12 k ((), a3.1, ())) (fun (a4 : (List Int)) => loopN k (fun (a5 : (((List Int) × Int) → (Option (List Int)))) (a6 : ((List Int) × Int)) => cnd (ilt a6.2 (len x.1)) (bnd (at? x.1 a6.2) (fun (a7 : (List Int)) => bnd (app? 1 a6.1 a7) (fun (a8 : (List Int)) => a5 (a8, iadd Go.IntKind.i64 a6.2 1)))) (some a6.1)) (a4, 0)))) (0, 0)
def F11 : Fn := ⟨[.val (.slice (.slice (.int .u8)))], [.val (.slice (.int .u8))], S11⟩
def Γ11 : Ctx := ⟨alookup tys, alookup [(12, F12)], [(3, [3, 11], []), (11, [6, 27], [])], [(3, [9]), (11, [25])], [], [], [2, 5, 8], eqs, [], [], alookup [], alookup []⟩
theorem e11 (k : Nat) (x : PT [.val (.slice (.slice (.int .u8)))]) : S11 k x = runFn Γ11 k [.val (.slice (.slice (.int .u8)))] [.val (.slice (.int .u8))] Try.f11.ntmps Try.f11.results.toList (Try.f11.body.getD .skip) x := by kernel_rfl
theorem c11 : CtxOK Try.prog J Γ11 := ⟨tysOK.get, AllL.get (l := [(12, F12)]) ⟨ok12, trivial⟩, by kernel_rfl, eqsOK, AllL.get (l := []) trivial, AllL.get (l := []) trivial⟩
theorem ok11 : FnOK Try.prog J 11 F11 := fnOK_of c11 (fn := Try.f11) (c := Try.f11.body.getD .skip) rfl rfl rfl (by decide) e11
/-- smithyard/blob.Together -/
def S6 (k : Nat) (x : PT [.val (.slice (.slice (.int .u8)))]) : Option (OT [.val (.slice (.int .u8)), .val (.int .i64)]) :=
cnd (igt (len x.1) 20000) (some (([] : List Int), 2)) (loopN k (fun (a2 : ((Int × Int) → (Option ((List Int) × Int)))) (a3 : (Int × Int)) => cnd (ilt a3.2 (len x.1)) (bnd (at? x.1 a3.2) (fun (a4 : (List Int)) => a2 (iadd Go.IntKind.i64 a3.1 (len a4), iadd Go.IntKind.i64 a3.2 1))) (cnd (igt a3.1 2000000) (some (([] : List Int), 2)) (bnd (S11 k (x.1, ())) (fun (a4 : (List Int)) => some (a4, 0))))) (0, 0))
def F6 : Fn := ⟨[.val (.slice (.slice (.int .u8)))], [.val (.slice (.int .u8)), .val (.int .i64)], S6⟩
def Γ6 : Ctx := ⟨alookup tys, alookup [(11, F11)], [(5, [4, 12], [])], [(5, [10])], [], [], [2, 6, 24], eqs, [], [], alookup [], alookup []⟩
theorem e6 (k : Nat) (x : PT [.val (.slice (.slice (.int .u8)))]) : S6 k x = runFn Γ6 k [.val (.slice (.slice (.int .u8)))] [.val (.slice (.int .u8)), .val (.int .i64)] Try.f6.ntmps Try.f6.results.toList (Try.f6.body.getD .skip) x := by kernel_rfl
theorem c6 : CtxOK Try.prog J Γ6 := ⟨tysOK.get, AllL.get (l := [(11, F11)]) ⟨ok11, trivial⟩, by kernel_rfl, eqsOK, AllL.get (l := []) trivial, AllL.get (l := []) trivial⟩
theorem ok6 : FnOK Try.prog J 6 F6 := fnOK_of c6 (fn := Try.f6) (c := Try.f6.body.getD .skip) rfl rfl rfl (by decide) e6
/-- bytes.Equal -/
def S7 (k : Nat) (x : PT [.val (.slice (.int .u8)), .val (.slice (.int .u8))]) : Option (OT [.val (.bool)]) :=
some (seq (strOf x.1) (strOf x.2.1))
def F7 : Fn := ⟨[.val (.slice (.int .u8)), .val (.slice (.int .u8))], [.val (.bool)], S7⟩
def Γ7 : Ctx := ⟨alookup tys, alookup [], [], [], [], [], [], eqs, [], [], alookup [], alookup []⟩
theorem e7 (k : Nat) (x : PT [.val (.slice (.int .u8)), .val (.slice (.int .u8))]) : S7 k x = runFn Γ7 k [.val (.slice (.int .u8)), .val (.slice (.int .u8))] [.val (.bool)] Try.f7.ntmps Try.f7.results.toList (Try.f7.body.getD .skip) x := by kernel_rfl
theorem c7 : CtxOK Try.prog J Γ7 := ⟨tysOK.get, AllL.get (l := []) trivial, by kernel_rfl, eqsOK, AllL.get (l := []) trivial, AllL.get (l := []) trivial⟩
theorem ok7 : FnOK Try.prog J 7 F7 := fnOK_of c7 (fn := Try.f7) (c := Try.f7.body.getD .skip) rfl rfl rfl (by decide) e7
/-- slices.Equal[[]int,int] -/
def S8 (k : Nat) (x : PT [.val (.slice (.int .i64)), .val (.slice (.int .i64))]) : Option (OT [.val (.bool)]) :=
cnd (ine (len x.1) (len x.2.1)) (some false) (loopN k (fun (a2 : (Int → (Option Bool))) (a3 : Int) => cnd (ilt a3 (len x.1)) (bnd (at? x.1 a3) (fun (a4 : Int) => bnd (at? x.2.1 a3) (fun (a5 : Int) => cnd (ine a4 a5) (some false) (a2 (iadd Go.IntKind.i64 a3 1))))) (some true)) 0)
def F8 : Fn := ⟨[.val (.slice (.int .i64)), .val (.slice (.int .i64))], [.val (.bool)], S8⟩
def Γ8 : Ctx := ⟨alookup tys, alookup [], [(4, [13], [])], [], [(6, 8)], [], [], eqs, [], [], alookup [], alookup []⟩
theorem e8 (k : Nat) (x : PT [.val (.slice (.int .i64)), .val (.slice (.int .i64))]) : S8 k x = runFn Γ8 k [.val (.slice (.int .i64)), .val (.slice (.int .i64))] [.val (.bool)] Try.f8.ntmps Try.f8.results.toList (Try.f8.body.getD .skip) x := by kernel_rfl
theorem c8 : CtxOK Try.prog J Γ8 := ⟨tysOK.get, AllL.get (l := []) trivial, by kernel_rfl, eqsOK, AllL.get (l := []) trivial, AllL.get (l := []) trivial⟩
theorem ok8 : FnOK Try.prog J 8 F8 := fnOK_of c8 (fn := Try.f8) (c := Try.f8.body.getD .skip) rfl rfl rfl (by decide) e8
/-- smithyard/smithyardlaw1.BlobPiecesComeBack -/
def S3 (k : Nat) (x : PT [.val (.slice (.int .u8)), .val (.int .i64), .val (.int .i64), .val (.int .i64), .val (.int .i64)]) : Option (OT [.val (.bool)]) :=
bnd (S4 k (x.1, x.2.1, x.2.2.1, x.2.2.2.1, ())) (fun (a2 : ((List Int) × Int)) => cnd (ine a2.2 0) (cnd (ieq (len a2.1) 0) (bnd (S5 k ()) (fun (a3 : Bool) => some a3)) (some false)) (loopN k (fun (a3 : (((List (List Int)) × (Int × Int)) → (Option Bool))) (a4 : ((List (List Int)) × (Int × Int))) => cnd (ilt a4.2.2 (len a2.1)) (jn (fun (a5 : (Bool → (Option Bool))) => bnd (at? a2.1 a4.2.2) (fun (a6 : Int) => cnd (ilt a6 1) (a5 true) (bnd (at? a2.1 a4.2.2) (fun (a7 : Int) => cnd (igt a7 x.2.2.2.1) (a5 true) (cnd (ilt a4.2.2 (isub Go.IntKind.i64 (len a2.1) 1)) (bnd (at? a2.1 a4.2.2) (fun (a8 : Int) => cnd (ilt a8 x.2.1) (a5 true) (bnd (at? a2.1 a4.2.2) (fun (a9 : Int) => a5 (igt (iadd Go.IntKind.i64 a4.2.1 a9) (len x.1)))))) (bnd (at? a2.1 a4.2.2) (fun (a8 : Int) => a5 (igt (iadd Go.IntKind.i64 a4.2.1 a8) (len x.1))))))))) (fun (a5 : Bool) => cnd a5 (some false) (bnd (at? a2.1 a4.2.2) (fun (a6 : Int) => bnd (cut? x.1 a4.2.1 (iadd Go.IntKind.i64 a4.2.1 a6)) (fun (a7 : (List Int)) => bnd (app? 24 a4.1 (a7 :: ([] : List (List Int)))) (fun (a8 : (List (List Int))) => bnd (at? a2.1 a4.2.2) (fun (a9 : Int) => a3 (a8, iadd Go.IntKind.i64 a4.2.1 a9, iadd Go.IntKind.i64 a4.2.2 1)))))))) (bnd (S6 k (a4.1, ())) (fun (a5 : ((List Int) × Int)) => jn (fun (a6 : (Bool → (Option Bool))) => cnd (ine a5.2 0) (a6 true) (cnd (ine a4.2.1 (len x.1)) (a6 true) (bnd (S7 k (a5.1, x.1, ())) (fun (a7 : Bool) => cnd (bnot a7) (a6 true) (cnd (ilt x.2.2.2.2.1 0) (a6 true) (a6 (igt x.2.2.2.2.1 (len x.1)))))))) (fun (a6 : Bool) => cnd a6 (cnd (ieq a5.2 0) (cnd (ieq a4.2.1 (len x.1)) (bnd (S7 k (a5.1, x.1, ())) (fun (a7 : Bool) => cnd a7 (bnd (S5 k ()) (fun (a8 : Bool) => some a8)) (some false))) (some false)) (some false)) (bnd (inb (inc (len x.1)) x.2.2.2.2.1) (fun (a7 : Unit) => bnd (inb (inc x.2.2.2.2.1) x.2.2.2.2.1) (fun (a8 : Unit) => bnd (cut? x.1 0 x.2.2.2.2.1) (fun (a9 : (List Int)) => bnd (S4 k (a9, x.2.1, x.2.2.1, x.2.2.2.1, ())) (fun (a10 : ((List Int) × Int)) => cnd (ieq a10.2 0) (cnd (ile (len a10.1) (len a2.1)) (bnd (cut? a10.1 0 (imax 0 (isub Go.IntKind.i64 (len a10.1) 1))) (fun (a11 : (List Int)) => bnd (cut? a2.1 0 (imax 0 (isub Go.IntKind.i64 (len a10.1) 1))) (fun (a12 : (List Int)) => bnd (S8 k (a11, a12, ())) (fun (a13 : Bool) => cnd a13 (bnd (S5 k ()) (fun (a14 : Bool) => some a14)) (some false))))) (some false)) (some false)))))))))) (([] : List (List Int)), 0, 0)))
def F3 : Fn := ⟨[.val (.slice (.int .u8)), .val (.int .i64), .val (.int .i64), .val (.int .i64), .val (.int .i64)], [.val (.bool)], S3⟩
def Γ3 : Ctx := ⟨alookup tys, alookup [(4, F4), (5, F5), (6, F6), (7, F7), (8, F8)], [(7, [13, 14, 15], [])], [(7, [11])], [(17, 22)], [], [11, 16, 17, 89], eqs, [(10, [], [78], [.val (.bool)], []), (15, [], [125], [.val (.bool)], [])], [], alookup [], alookup []⟩
theorem e3 (k : Nat) (x : PT [.val (.slice (.int .u8)), .val (.int .i64), .val (.int .i64), .val (.int .i64), .val (.int .i64)]) : S3 k x = runFn Γ3 k [.val (.slice (.int .u8)), .val (.int .i64), .val (.int .i64), .val (.int .i64), .val (.int .i64)] [.val (.bool)] Try.f3.ntmps Try.f3.results.toList (Try.f3.body.getD .skip) x := by kernel_rfl
theorem c3 : CtxOK Try.prog J Γ3 := ⟨tysOK.get, AllL.get (l := [(4, F4), (5, F5), (6, F6), (7, F7), (8, F8)]) ⟨ok4, ok5, ok6, ok7, ok8, trivial⟩, by kernel_rfl, eqsOK, AllL.get (l := []) trivial, AllL.get (l := []) trivial⟩
theorem ok3 : FnOK Try.prog J 3 F3 := fnOK_of c3 (fn := Try.f3) (c := Try.f3.body.getD .skip) rfl rfl rfl (by decide) e3
end Go.Proofs.Ytcppmncmlhibhaa.Ev
