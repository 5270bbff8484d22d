/- Tfk: the functions as plain Lean, and that they are the program's (printed by this session's own wip/ev/gen.py) -/
import Derived.Test.YtocgdpnealaoeaaDoorEv2
import Derived.Test.YtocgdpnealaoeaaDoorProg
import Derived.Test.YtocgdpnealaoeaaDoorGvDel
namespace Go.Proofs.YtocgdpnealaoeaaDoor.Ev
open Go Go.Proofs Go.RowKit
set_option linter.unusedVariables false
set_option maxRecDepth 100000
theorem ty_2 : TyOK Tryd.prog 2 ⟨.int .i64, [], 0, 0, 0⟩ := ⟨⟨rfl, rfl, ⟨_, rfl, rfl, _, rfl, rfl⟩, ⟨_, rfl, rfl⟩⟩, rfl⟩
theorem ty_3 : TyOK Tryd.prog 3 ⟨.int .i64, [], 0, 0, 0⟩ := ⟨⟨rfl, rfl, ⟨_, rfl, rfl, _, rfl, rfl⟩, ⟨_, rfl, rfl⟩⟩, rfl⟩
theorem ty_4 : TyOK Tryd.prog 4 ⟨.bool, [], 0, 0, 0⟩ := ⟨⟨rfl, rfl, ⟨_, rfl, rfl, _, rfl, rfl⟩, ⟨_, rfl, rfl⟩⟩, rfl⟩
theorem ty_5 : TyOK Tryd.prog 5 ⟨.int .u8, [], 0, 0, 0⟩ := ⟨⟨rfl, rfl, ⟨_, rfl, rfl, _, rfl, rfl⟩, ⟨_, rfl, rfl⟩⟩, rfl⟩
theorem ty_9 : TyOK Tryd.prog 9 ⟨.str, [], 0, 0, 0⟩ := ⟨⟨rfl, rfl, ⟨_, rfl, rfl, _, rfl, rfl⟩, ⟨_, rfl, rfl⟩⟩, rfl⟩
theorem ty_23 : TyOK Tryd.prog 23 ⟨.slice (.str), [], 0, 9, 16⟩ := ⟨⟨trivial, rfl, ⟨_, rfl, rfl, _, rfl, rfl⟩, ⟨_, rfl, rfl⟩⟩, ⟨rfl, ty_9.1, fun i h => by cases h; rfl⟩⟩
theorem ty_26 : TyOK Tryd.prog 26 ⟨.int .i64, [], 0, 0, 0⟩ := ⟨⟨rfl, rfl, ⟨_, rfl, rfl, _, rfl, rfl⟩, ⟨_, rfl, rfl⟩⟩, rfl⟩
theorem ty_68 : TyOK Tryd.prog 68 ⟨.agg (.pair (.str) (.slice (.str))), [(0, 9), (1, 23)], 0, 0, 0⟩ := ⟨⟨trivial, rfl, ⟨_, rfl, rfl, _, rfl, rfl⟩, ⟨_, rfl, rfl⟩⟩, ⟨_, rfl, rfl, fun f off tf h => by
  match f, h with
  | 0, h => cases h; exact ⟨_, rfl, rfl, rfl, _, rfl⟩
  | 1, h => cases h; exact ⟨_, rfl, rfl, rfl, _, rfl⟩
  | _ + 2, h => cases h⟩⟩
theorem ty_33 : TyOK Tryd.prog 33 ⟨.slice (.agg (.pair (.str) (.slice (.str)))), [], 0, 68, 40⟩ := ⟨⟨trivial, rfl, ⟨_, rfl, rfl, _, rfl, rfl⟩, ⟨_, rfl, rfl⟩⟩, ⟨rfl, ty_68.1, fun i h => by cases h; rfl⟩⟩
theorem ty_70 : TyOK Tryd.prog 70 ⟨.agg (.pair (.str) (.str)), [(0, 9), (1, 9)], 0, 0, 0⟩ := ⟨⟨trivial, rfl, ⟨_, rfl, rfl, _, rfl, rfl⟩, ⟨_, rfl, rfl⟩⟩, ⟨_, rfl, rfl, fun f off tf h => by
  match f, h with
  | 0, h => cases h; exact ⟨_, rfl, rfl, rfl, _, rfl⟩
  | 1, h => cases h; exact ⟨_, rfl, rfl, rfl, _, rfl⟩
  | _ + 2, h => cases h⟩⟩
theorem ty_40 : TyOK Tryd.prog 40 ⟨.slice (.agg (.pair (.str) (.str))), [], 0, 70, 32⟩ := ⟨⟨trivial, rfl, ⟨_, rfl, rfl, _, rfl, rfl⟩, ⟨_, rfl, rfl⟩⟩, ⟨rfl, ty_70.1, fun i h => by cases h; rfl⟩⟩
theorem ty_160 : TyOK Tryd.prog 160 ⟨.agg (.pair (.str) (.pair (.slice (.agg (.pair (.str) (.str)))) (.slice (.agg (.pair (.str) (.str)))))), [(0, 9), (1, 40), (2, 40)], 0, 0, 0⟩ := ⟨⟨trivial, rfl, ⟨_, rfl, rfl, _, rfl, rfl⟩, ⟨_, rfl, rfl⟩⟩, ⟨_, rfl, rfl, fun f off tf h => by
  match f, h with
  | 0, h => cases h; exact ⟨_, rfl, rfl, rfl, _, rfl⟩
  | 1, h => cases h; exact ⟨_, rfl, rfl, rfl, _, rfl⟩
  | 2, h => cases h; exact ⟨_, rfl, rfl, rfl, _, rfl⟩
  | _ + 3, h => cases h⟩⟩
theorem ty_34 : TyOK Tryd.prog 34 ⟨.slice (.agg (.pair (.str) (.pair (.slice (.agg (.pair (.str) (.str)))) (.slice (.agg (.pair (.str) (.str))))))), [], 0, 160, 64⟩ := ⟨⟨trivial, rfl, ⟨_, rfl, rfl, _, rfl, rfl⟩, ⟨_, rfl, rfl⟩⟩, ⟨rfl, ty_160.1, fun i h => by cases h; rfl⟩⟩
theorem ty_42 : TyOK Tryd.prog 42 ⟨.agg (.pair (.str) (.slice (.agg (.pair (.str) (.str))))), [(0, 9), (1, 40)], 0, 0, 0⟩ := ⟨⟨trivial, rfl, ⟨_, rfl, rfl, _, rfl, rfl⟩, ⟨_, rfl, rfl⟩⟩, ⟨_, rfl, rfl, fun f off tf h => by
  match f, h with
  | 0, h => cases h; exact ⟨_, rfl, rfl, rfl, _, rfl⟩
  | 1, h => cases h; exact ⟨_, rfl, rfl, rfl, _, rfl⟩
  | _ + 2, h => cases h⟩⟩
theorem ty_35 : TyOK Tryd.prog 35 ⟨.slice (.agg (.pair (.str) (.slice (.agg (.pair (.str) (.str)))))), [], 0, 42, 40⟩ := ⟨⟨trivial, rfl, ⟨_, rfl, rfl, _, rfl, rfl⟩, ⟨_, rfl, rfl⟩⟩, ⟨rfl, ty_42.1, fun i h => by cases h; rfl⟩⟩
theorem ty_88 : TyOK Tryd.prog 88 ⟨.agg (.pair (.str) (.pair (.str) (.pair (.slice (.agg (.pair (.str) (.str)))) (.slice (.agg (.pair (.str) (.str))))))), [(0, 9), (1, 9), (2, 40), (3, 40)], 0, 0, 0⟩ := ⟨⟨trivial, rfl, ⟨_, rfl, rfl, _, rfl, rfl⟩, ⟨_, rfl, rfl⟩⟩, ⟨_, rfl, rfl, fun f off tf h => by
  match f, h with
  | 0, h => cases h; exact ⟨_, rfl, rfl, rfl, _, rfl⟩
  | 1, h => cases h; exact ⟨_, rfl, rfl, rfl, _, rfl⟩
  | 2, h => cases h; exact ⟨_, rfl, rfl, rfl, _, rfl⟩
  | 3, h => cases h; exact ⟨_, rfl, rfl, rfl, _, rfl⟩
  | _ + 4, h => cases h⟩⟩
theorem ty_36 : TyOK Tryd.prog 36 ⟨.slice (.agg (.pair (.str) (.pair (.str) (.pair (.slice (.agg (.pair (.str) (.str)))) (.slice (.agg (.pair (.str) (.str)))))))), [], 0, 88, 80⟩ := ⟨⟨trivial, rfl, ⟨_, rfl, rfl, _, rfl, rfl⟩, ⟨_, rfl, rfl⟩⟩, ⟨rfl, ty_88.1, fun i h => by cases h; rfl⟩⟩
theorem ty_162 : TyOK Tryd.prog 162 ⟨.agg (.pair (.str) (.pair (.slice (.agg (.pair (.str) (.str)))) (.slice (.str)))), [(0, 9), (1, 40), (2, 23)], 0, 0, 0⟩ := ⟨⟨trivial, rfl, ⟨_, rfl, rfl, _, rfl, rfl⟩, ⟨_, rfl, rfl⟩⟩, ⟨_, rfl, rfl, fun f off tf h => by
  match f, h with
  | 0, h => cases h; exact ⟨_, rfl, rfl, rfl, _, rfl⟩
  | 1, h => cases h; exact ⟨_, rfl, rfl, rfl, _, rfl⟩
  | 2, h => cases h; exact ⟨_, rfl, rfl, rfl, _, rfl⟩
  | _ + 3, h => cases h⟩⟩
theorem ty_37 : TyOK Tryd.prog 37 ⟨.slice (.agg (.pair (.str) (.pair (.slice (.agg (.pair (.str) (.str)))) (.slice (.str))))), [], 0, 162, 64⟩ := ⟨⟨trivial, rfl, ⟨_, rfl, rfl, _, rfl, rfl⟩, ⟨_, rfl, rfl⟩⟩, ⟨rfl, ty_162.1, fun i h => by cases h; rfl⟩⟩
theorem ty_39 : TyOK Tryd.prog 39 ⟨.agg (.pair (.slice (.agg (.pair (.str) (.slice (.str))))) (.pair (.slice (.agg (.pair (.str) (.pair (.slice (.agg (.pair (.str) (.str)))) (.slice (.agg (.pair (.str) (.str)))))))) (.pair (.slice (.agg (.pair (.str) (.slice (.agg (.pair (.str) (.str))))))) (.pair (.slice (.agg (.pair (.str) (.pair (.str) (.pair (.slice (.agg (.pair (.str) (.str)))) (.slice (.agg (.pair (.str) (.str))))))))) (.slice (.agg (.pair (.str) (.pair (.slice (.agg (.pair (.str) (.str)))) (.slice (.str)))))))))), [(0, 33), (1, 34), (2, 35), (3, 36), (4, 37)], 0, 0, 0⟩ := ⟨⟨trivial, rfl, ⟨_, rfl, rfl, _, rfl, rfl⟩, ⟨_, rfl, rfl⟩⟩, ⟨_, rfl, rfl, fun f off tf h => by
  match f, h with
  | 0, h => cases h; exact ⟨_, rfl, rfl, rfl, _, rfl⟩
  | 1, h => cases h; exact ⟨_, rfl, rfl, rfl, _, rfl⟩
  | 2, h => cases h; exact ⟨_, rfl, rfl, rfl, _, rfl⟩
  | 3, h => cases h; exact ⟨_, rfl, rfl, rfl, _, rfl⟩
  | 4, h => cases h; exact ⟨_, rfl, rfl, rfl, _, rfl⟩
  | _ + 5, h => cases h⟩⟩
def tys : List (Nat × Ty) := [(2, ⟨.int .i64, [], 0, 0, 0⟩), (3, ⟨.int .i64, [], 0, 0, 0⟩), (4, ⟨.bool, [], 0, 0, 0⟩), (5, ⟨.int .u8, [], 0, 0, 0⟩), (9, ⟨.str, [], 0, 0, 0⟩), (23, ⟨.slice (.str), [], 0, 9, 16⟩), (26, ⟨.int .i64, [], 0, 0, 0⟩), (68, ⟨.agg (.pair (.str) (.slice (.str))), [(0, 9), (1, 23)], 0, 0, 0⟩), (33, ⟨.slice (.agg (.pair (.str) (.slice (.str)))), [], 0, 68, 40⟩), (70, ⟨.agg (.pair (.str) (.str)), [(0, 9), (1, 9)], 0, 0, 0⟩), (40, ⟨.slice (.agg (.pair (.str) (.str))), [], 0, 70, 32⟩), (160, ⟨.agg (.pair (.str) (.pair (.slice (.agg (.pair (.str) (.str)))) (.slice (.agg (.pair (.str) (.str)))))), [(0, 9), (1, 40), (2, 40)], 0, 0, 0⟩), (34, ⟨.slice (.agg (.pair (.str) (.pair (.slice (.agg (.pair (.str) (.str)))) (.slice (.agg (.pair (.str) (.str))))))), [], 0, 160, 64⟩), (42, ⟨.agg (.pair (.str) (.slice (.agg (.pair (.str) (.str))))), [(0, 9), (1, 40)], 0, 0, 0⟩), (35, ⟨.slice (.agg (.pair (.str) (.slice (.agg (.pair (.str) (.str)))))), [], 0, 42, 40⟩), (88, ⟨.agg (.pair (.str) (.pair (.str) (.pair (.slice (.agg (.pair (.str) (.str)))) (.slice (.agg (.pair (.str) (.str))))))), [(0, 9), (1, 9), (2, 40), (3, 40)], 0, 0, 0⟩), (36, ⟨.slice (.agg (.pair (.str) (.pair (.str) (.pair (.slice (.agg (.pair (.str) (.str)))) (.slice (.agg (.pair (.str) (.str)))))))), [], 0, 88, 80⟩), (162, ⟨.agg (.pair (.str) (.pair (.slice (.agg (.pair (.str) (.str)))) (.slice (.str)))), [(0, 9), (1, 40), (2, 23)], 0, 0, 0⟩), (37, ⟨.slice (.agg (.pair (.str) (.pair (.slice (.agg (.pair (.str) (.str)))) (.slice (.str))))), [], 0, 162, 64⟩), (39, ⟨.agg (.pair (.slice (.agg (.pair (.str) (.slice (.str))))) (.pair (.slice (.agg (.pair (.str) (.pair (.slice (.agg (.pair (.str) (.str)))) (.slice (.agg (.pair (.str) (.str)))))))) (.pair (.slice (.agg (.pair (.str) (.slice (.agg (.pair (.str) (.str))))))) (.pair (.slice (.agg (.pair (.str) (.pair (.str) (.pair (.slice (.agg (.pair (.str) (.str)))) (.slice (.agg (.pair (.str) (.str))))))))) (.slice (.agg (.pair (.str) (.pair (.slice (.agg (.pair (.str) (.str)))) (.slice (.str)))))))))), [(0, 33), (1, 34), (2, 35), (3, 36), (4, 37)], 0, 0, 0⟩)]
def eqs : List Nat := [70]
theorem eq_70 : EqOK Tryd.prog 70 (.agg (.pair (.str) (.str))) := eqOK_agg rfl (by kernel_rfl) (by kernel_rfl) ⟨⟨by decide, rfl, rfl⟩, ⟨by decide, rfl, rfl⟩⟩
theorem eqsOK : ∀ t k, eqs.any (Nat.beq t) = true → (match alookup tys t with | some y => some y.k | none => none) = some k → EqOK Tryd.prog t k := by
  intro t k h hk
  obtain ⟨x, hx, e⟩ := List.any_eq_true.1 h
  obtain rfl := Nat.eq_of_beq_eq_true e
  simp only [eqs, List.mem_cons, List.not_mem_nil, or_false] at hx
  rcases hx with rfl
  · cases hk; exact eq_70
theorem tysOK : AllL (TyOK Tryd.prog) tys := ⟨ty_2, ty_3, ty_4, ty_5, ty_9, ty_23, ty_26, ty_68, ty_33, ty_70, ty_40, ty_160, ty_34, ty_42, ty_35, ty_88, ty_36, ty_162, ty_37, ty_39, trivial⟩
/-- smithyard/config.IsWord -/
def S48 (k : Nat) (x : PT [.val (.str)]) : Option (OT [.val (.bool)]) :=
jn (fun (a2 : (Bool → (Option Bool))) => cnd (ilt (ssz x.1) 1) (a2 true) (cnd (igt (ssz x.1) 40) (a2 true) (bnd (bt? x.1 0) (fun (a3 : Int) => cnd (ilt a3 97) (a2 true) (bnd (bt? x.1 0) (fun (a4 : Int) => a2 (igt a4 122))))))) (fun (a2 : Bool) => cnd a2 (some false) (bnd (S70 k (x.1, (⟨#[97, 98, 99, 100, 101, 102, 103, 104, 105, 106, 107, 108, 109, 110, 111, 112, 113, 114, 115, 116, 117, 118, 119, 120,
  121, 122, 48, 49, 50, 51, 52, 53, 54, 55, 56, 57, 95, 45]⟩ : ByteArray), ())) (fun (a3 : ByteArray) => some (seq a3 (⟨#[]⟩ : ByteArray)))))
def F48 : Fn := ⟨[.val (.str)], [.val (.bool)], S48⟩
def Γ48 : Ctx := ⟨alookup tys, alookup [(70, F70)], [], [], [], [], [], eqs, [(2, [], [20], [.val (.bool)], [])], [], alookup [], alookup [], alookup []⟩
theorem e48 (k : Nat) (x : PT [.val (.str)]) : S48 k x = runFn Γ48 k [.val (.str)] [.val (.bool)] Tryd.f48.ntmps Tryd.f48.results.toList (Tryd.f48.body.getD .skip) x := by kernel_rfl
theorem c48 : CtxOK Tryd.prog JS Γ48 := ⟨tysOK.get, AllL.get (l := [(70, F70)]) ⟨ok70, trivial⟩, by kernel_rfl, eqsOK, AllL.get (l := []) trivial, AllL.get (l := []) trivial, AllL.get (l := []) trivial⟩
theorem ok48 : FnOK Tryd.prog JS 48 F48 := fnOK_of c48 (fn := Tryd.f48) (c := Tryd.f48.body.getD .skip) rfl rfl rfl (by decide) e48
/-- smithyard/config.CheckPairs -/
def S49 (k : Nat) (x : PT [.val (.slice (.agg (.pair (.str) (.str))))]) : Option (OT [.val (.int .i64)]) :=
cnd (igt (len x.1) 30) (some 2) (loopN k (fun (a2 : (Int → (Option Int))) (a3 : Int) => cnd (ilt a3 (len x.1)) (bnd (at? x.1 a3) (fun (a4 : (ByteArray × ByteArray)) => bnd (S48 k (a4.1, ())) (fun (a5 : Bool) => cnd (bnot a5) (some 5) (bnd (S48 k (a4.2, ())) (fun (a6 : Bool) => cnd (bnot a6) (some 1) (cnd (igt a3 0) (bnd (at? x.1 (isub Go.IntKind.i64 a3 1)) (fun (a7 : (ByteArray × ByteArray)) => cnd (sle a4.1 a7.1) (some 8) (a2 (iadd Go.IntKind.i64 a3 1)))) (a2 (iadd Go.IntKind.i64 a3 1)))))))) (some 0)) 0)
def F49 : Fn := ⟨[.val (.slice (.agg (.pair (.str) (.str))))], [.val (.int .i64)], S49⟩
def Γ49 : Ctx := ⟨alookup tys, alookup [(48, F48)], [(4, [10], [])], [(4, [8])], [(10, 11)], [], [], eqs, [], [], alookup [], alookup [], alookup []⟩
theorem e49 (k : Nat) (x : PT [.val (.slice (.agg (.pair (.str) (.str))))]) : S49 k x = runFn Γ49 k [.val (.slice (.agg (.pair (.str) (.str))))] [.val (.int .i64)] Tryd.f49.ntmps Tryd.f49.results.toList (Tryd.f49.body.getD .skip) x := by kernel_rfl
theorem c49 : CtxOK Tryd.prog JS Γ49 := ⟨tysOK.get, AllL.get (l := [(48, F48)]) ⟨ok48, trivial⟩, by kernel_rfl, eqsOK, AllL.get (l := []) trivial, AllL.get (l := []) trivial, AllL.get (l := []) trivial⟩
theorem ok49 : FnOK Tryd.prog JS 49 F49 := fnOK_of c49 (fn := Tryd.f49) (c := Tryd.f49.body.getD .skip) rfl rfl rfl (by decide) e49
/-- smithyard/config.CheckPlatforms$1 -/
def S51 (k : Nat) (x : PT [.val (.agg (.pair (.str) (.slice (.agg (.pair (.str) (.str)))))), .rptr (.agg (.pair (.str) (.slice (.agg (.pair (.str) (.str))))))]) : Option (OT [.val (.bool)]) :=
some (seq x.1.1 x.2.1.1)
def F51 : Fn := ⟨[.val (.agg (.pair (.str) (.slice (.agg (.pair (.str) (.str)))))), .rptr (.agg (.pair (.str) (.slice (.agg (.pair (.str) (.str))))))], [.val (.bool)], S51⟩
def Γ51 : Ctx := ⟨alookup tys, alookup [], [], [], [], [], [], eqs, [], [], alookup [], alookup [], alookup []⟩
theorem e51 (k : Nat) (x : PT [.val (.agg (.pair (.str) (.slice (.agg (.pair (.str) (.str)))))), .rptr (.agg (.pair (.str) (.slice (.agg (.pair (.str) (.str))))))]) : S51 k x = runFn Γ51 k [.val (.agg (.pair (.str) (.slice (.agg (.pair (.str) (.str)))))), .rptr (.agg (.pair (.str) (.slice (.agg (.pair (.str) (.str))))))] [.val (.bool)] Tryd.f51.ntmps Tryd.f51.results.toList (Tryd.f51.body.getD .skip) x := by kernel_rfl
theorem c51 : CtxOK Tryd.prog JS Γ51 := ⟨tysOK.get, AllL.get (l := []) trivial, by kernel_rfl, eqsOK, AllL.get (l := []) trivial, AllL.get (l := []) trivial, AllL.get (l := []) trivial⟩
theorem ok51 : FnOK Tryd.prog JS 51 F51 := fnOK_of c51 (fn := Tryd.f51) (c := Tryd.f51.body.getD .skip) rfl rfl rfl (by decide) e51
/-- slices.IndexFunc[[]smithyard/api.Platform,smithyard/api.Platform] -/
def S71 (k : Nat) (x : PT [.val (.slice (.agg (.pair (.str) (.slice (.agg (.pair (.str) (.str))))))), .fnv (.agg (.pair (.str) (.slice (.agg (.pair (.str) (.str)))))) (.bool)]) : Option (OT [.val (.int .i64)]) :=
loopN k (fun (a2 : (Int → (Option Int))) (a3 : Int) => cnd (ilt a3 (len x.1)) (bnd (at? x.1 a3) (fun (a4 : (ByteArray × (List (ByteArray × ByteArray)))) => bnd (x.2.1 a4) (fun (a5 : Bool) => cnd a5 (some a3) (a2 (iadd Go.IntKind.i64 a3 1))))) (some (-1))) 0
def F71 : Fn := ⟨[.val (.slice (.agg (.pair (.str) (.slice (.agg (.pair (.str) (.str))))))), .fnv (.agg (.pair (.str) (.slice (.agg (.pair (.str) (.str)))))) (.bool)], [.val (.int .i64)], S71⟩
def Γ71 : Ctx := ⟨alookup tys, alookup [], [(2, [8], [])], [], [], [], [], eqs, [], [], alookup [], alookup [], alookup []⟩
theorem e71 (k : Nat) (x : PT [.val (.slice (.agg (.pair (.str) (.slice (.agg (.pair (.str) (.str))))))), .fnv (.agg (.pair (.str) (.slice (.agg (.pair (.str) (.str)))))) (.bool)]) : S71 k x = runFn Γ71 k [.val (.slice (.agg (.pair (.str) (.slice (.agg (.pair (.str) (.str))))))), .fnv (.agg (.pair (.str) (.slice (.agg (.pair (.str) (.str)))))) (.bool)] [.val (.int .i64)] Tryd.f71.ntmps Tryd.f71.results.toList (Tryd.f71.body.getD .skip) x := by kernel_rfl
theorem c71 : CtxOK Tryd.prog JS Γ71 := ⟨tysOK.get, AllL.get (l := []) trivial, by kernel_rfl, eqsOK, AllL.get (l := []) trivial, AllL.get (l := []) trivial, AllL.get (l := []) trivial⟩
theorem ok71 : FnOK Tryd.prog JS 71 F71 := fnOK_of c71 (fn := Tryd.f71) (c := Tryd.f71.body.getD .skip) rfl rfl rfl (by decide) e71
/-- slices.ContainsFunc[[]smithyard/api.Platform,smithyard/api.Platform] -/
def S50 (k : Nat) (x : PT [.val (.slice (.agg (.pair (.str) (.slice (.agg (.pair (.str) (.str))))))), .fnv (.agg (.pair (.str) (.slice (.agg (.pair (.str) (.str)))))) (.bool)]) : Option (OT [.val (.bool)]) :=
bnd (S71 k (x.1, fun (a2 : (ByteArray × (List (ByteArray × ByteArray)))) => x.2.1 a2, ())) (fun (a2 : Int) => some (ige a2 0))
def F50 : Fn := ⟨[.val (.slice (.agg (.pair (.str) (.slice (.agg (.pair (.str) (.str))))))), .fnv (.agg (.pair (.str) (.slice (.agg (.pair (.str) (.str)))))) (.bool)], [.val (.bool)], S50⟩
def Γ50 : Ctx := ⟨alookup tys, alookup [(71, F71)], [], [], [], [], [], eqs, [], [], alookup [], alookup [], alookup []⟩
theorem e50 (k : Nat) (x : PT [.val (.slice (.agg (.pair (.str) (.slice (.agg (.pair (.str) (.str))))))), .fnv (.agg (.pair (.str) (.slice (.agg (.pair (.str) (.str)))))) (.bool)]) : S50 k x = runFn Γ50 k [.val (.slice (.agg (.pair (.str) (.slice (.agg (.pair (.str) (.str))))))), .fnv (.agg (.pair (.str) (.slice (.agg (.pair (.str) (.str)))))) (.bool)] [.val (.bool)] Tryd.f50.ntmps Tryd.f50.results.toList (Tryd.f50.body.getD .skip) x := by kernel_rfl
theorem c50 : CtxOK Tryd.prog JS Γ50 := ⟨tysOK.get, AllL.get (l := [(71, F71)]) ⟨ok71, trivial⟩, by kernel_rfl, eqsOK, AllL.get (l := []) trivial, AllL.get (l := []) trivial, AllL.get (l := []) trivial⟩
theorem ok50 : FnOK Tryd.prog JS 50 F50 := fnOK_of c50 (fn := Tryd.f50) (c := Tryd.f50.body.getD .skip) rfl rfl rfl (by decide) e50
/-- smithyard/config.CheckPlatforms -/
def S27 (k : Nat) (x : PT [.val (.slice (.agg (.pair (.str) (.slice (.agg (.pair (.str) (.str)))))))]) : Option (OT [.val (.int .i64)]) :=
cnd (igt (len x.1) 50) (some 2) (loopN k (fun (a2 : (Int → (Option Int))) (a3 : Int) => cnd (ilt a3 (len x.1)) (bnd (at? x.1 a3) (fun (a4 : (ByteArray × (List (ByteArray × ByteArray)))) => bnd (S48 k (a4.1, ())) (fun (a5 : Bool) => cnd (bnot a5) (some 5) (bnd (S49 k (a4.2, ())) (fun (a6 : Int) => cnd (ine a6 0) (some a6) (bnd (cut? x.1 0 a3) (fun (a7 : (List (ByteArray × (List (ByteArray × ByteArray))))) => bnd (S50 k (a7, fun (a8 : (ByteArray × (List (ByteArray × ByteArray)))) => S51 k (a8, (a4.1, a4.2), ()), ())) (fun (a8 : Bool) => cnd a8 (some 7) (a2 (iadd Go.IntKind.i64 a3 1)))))))))) (some 0)) 0)
def F27 : Fn := ⟨[.val (.slice (.agg (.pair (.str) (.slice (.agg (.pair (.str) (.str)))))))], [.val (.int .i64)], S27⟩
def Γ27 : Ctx := ⟨alookup tys, alookup [(48, F48), (49, F49), (51, F51), (50, F50)], [(4, [11], [])], [(4, [9])], [], [], [], eqs, [], [], alookup [], alookup [], alookup []⟩
theorem e27 (k : Nat) (x : PT [.val (.slice (.agg (.pair (.str) (.slice (.agg (.pair (.str) (.str)))))))]) : S27 k x = runFn Γ27 k [.val (.slice (.agg (.pair (.str) (.slice (.agg (.pair (.str) (.str)))))))] [.val (.int .i64)] Tryd.f27.ntmps Tryd.f27.results.toList (Tryd.f27.body.getD .skip) x := by kernel_rfl
theorem c27 : CtxOK Tryd.prog JS Γ27 := ⟨tysOK.get, AllL.get (l := [(48, F48), (49, F49), (51, F51), (50, F50)]) ⟨ok48, ok49, ok51, ok50, trivial⟩, by kernel_rfl, eqsOK, AllL.get (l := []) trivial, AllL.get (l := []) trivial, AllL.get (l := []) trivial⟩
theorem ok27 : FnOK Tryd.prog JS 27 F27 := fnOK_of c27 (fn := Tryd.f27) (c := Tryd.f27.body.getD .skip) rfl rfl rfl (by decide) e27
/-- smithyard/config.CheckTools$1 -/
def S53 (k : Nat) (x : PT [.val (.agg (.pair (.str) (.pair (.str) (.pair (.slice (.agg (.pair (.str) (.str)))) (.slice (.agg (.pair (.str) (.str)))))))), .rptr (.agg (.pair (.str) (.pair (.str) (.pair (.slice (.agg (.pair (.str) (.str)))) (.slice (.agg (.pair (.str) (.str))))))))]) : Option (OT [.val (.bool)]) :=
some (seq x.1.1 x.2.1.1)
def F53 : Fn := ⟨[.val (.agg (.pair (.str) (.pair (.str) (.pair (.slice (.agg (.pair (.str) (.str)))) (.slice (.agg (.pair (.str) (.str)))))))), .rptr (.agg (.pair (.str) (.pair (.str) (.pair (.slice (.agg (.pair (.str) (.str)))) (.slice (.agg (.pair (.str) (.str))))))))], [.val (.bool)], S53⟩
def Γ53 : Ctx := ⟨alookup tys, alookup [], [], [], [], [], [], eqs, [], [], alookup [], alookup [], alookup []⟩
theorem e53 (k : Nat) (x : PT [.val (.agg (.pair (.str) (.pair (.str) (.pair (.slice (.agg (.pair (.str) (.str)))) (.slice (.agg (.pair (.str) (.str)))))))), .rptr (.agg (.pair (.str) (.pair (.str) (.pair (.slice (.agg (.pair (.str) (.str)))) (.slice (.agg (.pair (.str) (.str))))))))]) : S53 k x = runFn Γ53 k [.val (.agg (.pair (.str) (.pair (.str) (.pair (.slice (.agg (.pair (.str) (.str)))) (.slice (.agg (.pair (.str) (.str)))))))), .rptr (.agg (.pair (.str) (.pair (.str) (.pair (.slice (.agg (.pair (.str) (.str)))) (.slice (.agg (.pair (.str) (.str))))))))] [.val (.bool)] Tryd.f53.ntmps Tryd.f53.results.toList (Tryd.f53.body.getD .skip) x := by kernel_rfl
theorem c53 : CtxOK Tryd.prog JS Γ53 := ⟨tysOK.get, AllL.get (l := []) trivial, by kernel_rfl, eqsOK, AllL.get (l := []) trivial, AllL.get (l := []) trivial, AllL.get (l := []) trivial⟩
theorem ok53 : FnOK Tryd.prog JS 53 F53 := fnOK_of c53 (fn := Tryd.f53) (c := Tryd.f53.body.getD .skip) rfl rfl rfl (by decide) e53
/-- slices.IndexFunc[[]smithyard/api.Tool,smithyard/api.Tool] -/
def S54 (k : Nat) (x : PT [.val (.slice (.agg (.pair (.str) (.pair (.str) (.pair (.slice (.agg (.pair (.str) (.str)))) (.slice (.agg (.pair (.str) (.str))))))))), .fnv (.agg (.pair (.str) (.pair (.str) (.pair (.slice (.agg (.pair (.str) (.str)))) (.slice (.agg (.pair (.str) (.str)))))))) (.bool)]) : Option (OT [.val (.int .i64)]) :=
loopN k (fun (a2 : (Int → (Option Int))) (a3 : Int) => cnd (ilt a3 (len x.1)) (bnd (at? x.1 a3) (fun (a4 : (ByteArray × (ByteArray × ((List (ByteArray × ByteArray)) × (List (ByteArray × ByteArray)))))) => bnd (x.2.1 a4) (fun (a5 : Bool) => cnd a5 (some a3) (a2 (iadd Go.IntKind.i64 a3 1))))) (some (-1))) 0
def F54 : Fn := ⟨[.val (.slice (.agg (.pair (.str) (.pair (.str) (.pair (.slice (.agg (.pair (.str) (.str)))) (.slice (.agg (.pair (.str) (.str))))))))), .fnv (.agg (.pair (.str) (.pair (.str) (.pair (.slice (.agg (.pair (.str) (.str)))) (.slice (.agg (.pair (.str) (.str)))))))) (.bool)], [.val (.int .i64)], S54⟩
def Γ54 : Ctx := ⟨alookup tys, alookup [], [(2, [8], [])], [], [], [], [], eqs, [], [], alookup [], alookup [], alookup []⟩
theorem e54 (k : Nat) (x : PT [.val (.slice (.agg (.pair (.str) (.pair (.str) (.pair (.slice (.agg (.pair (.str) (.str)))) (.slice (.agg (.pair (.str) (.str))))))))), .fnv (.agg (.pair (.str) (.pair (.str) (.pair (.slice (.agg (.pair (.str) (.str)))) (.slice (.agg (.pair (.str) (.str)))))))) (.bool)]) : S54 k x = runFn Γ54 k [.val (.slice (.agg (.pair (.str) (.pair (.str) (.pair (.slice (.agg (.pair (.str) (.str)))) (.slice (.agg (.pair (.str) (.str))))))))), .fnv (.agg (.pair (.str) (.pair (.str) (.pair (.slice (.agg (.pair (.str) (.str)))) (.slice (.agg (.pair (.str) (.str)))))))) (.bool)] [.val (.int .i64)] Tryd.f54.ntmps Tryd.f54.results.toList (Tryd.f54.body.getD .skip) x := by kernel_rfl
theorem c54 : CtxOK Tryd.prog JS Γ54 := ⟨tysOK.get, AllL.get (l := []) trivial, by kernel_rfl, eqsOK, AllL.get (l := []) trivial, AllL.get (l := []) trivial, AllL.get (l := []) trivial⟩
theorem ok54 : FnOK Tryd.prog JS 54 F54 := fnOK_of c54 (fn := Tryd.f54) (c := Tryd.f54.body.getD .skip) rfl rfl rfl (by decide) e54
/-- slices.ContainsFunc[[]smithyard/api.Tool,smithyard/api.Tool] -/
def S52 (k : Nat) (x : PT [.val (.slice (.agg (.pair (.str) (.pair (.str) (.pair (.slice (.agg (.pair (.str) (.str)))) (.slice (.agg (.pair (.str) (.str))))))))), .fnv (.agg (.pair (.str) (.pair (.str) (.pair (.slice (.agg (.pair (.str) (.str)))) (.slice (.agg (.pair (.str) (.str)))))))) (.bool)]) : Option (OT [.val (.bool)]) :=
bnd (S54 k (x.1, fun (a2 : (ByteArray × (ByteArray × ((List (ByteArray × ByteArray)) × (List (ByteArray × ByteArray)))))) => x.2.1 a2, ())) (fun (a2 : Int) => some (ige a2 0))
def F52 : Fn := ⟨[.val (.slice (.agg (.pair (.str) (.pair (.str) (.pair (.slice (.agg (.pair (.str) (.str)))) (.slice (.agg (.pair (.str) (.str))))))))), .fnv (.agg (.pair (.str) (.pair (.str) (.pair (.slice (.agg (.pair (.str) (.str)))) (.slice (.agg (.pair (.str) (.str)))))))) (.bool)], [.val (.bool)], S52⟩
def Γ52 : Ctx := ⟨alookup tys, alookup [(54, F54)], [], [], [], [], [], eqs, [], [], alookup [], alookup [], alookup []⟩
theorem e52 (k : Nat) (x : PT [.val (.slice (.agg (.pair (.str) (.pair (.str) (.pair (.slice (.agg (.pair (.str) (.str)))) (.slice (.agg (.pair (.str) (.str))))))))), .fnv (.agg (.pair (.str) (.pair (.str) (.pair (.slice (.agg (.pair (.str) (.str)))) (.slice (.agg (.pair (.str) (.str)))))))) (.bool)]) : S52 k x = runFn Γ52 k [.val (.slice (.agg (.pair (.str) (.pair (.str) (.pair (.slice (.agg (.pair (.str) (.str)))) (.slice (.agg (.pair (.str) (.str))))))))), .fnv (.agg (.pair (.str) (.pair (.str) (.pair (.slice (.agg (.pair (.str) (.str)))) (.slice (.agg (.pair (.str) (.str)))))))) (.bool)] [.val (.bool)] Tryd.f52.ntmps Tryd.f52.results.toList (Tryd.f52.body.getD .skip) x := by kernel_rfl
theorem c52 : CtxOK Tryd.prog JS Γ52 := ⟨tysOK.get, AllL.get (l := [(54, F54)]) ⟨ok54, trivial⟩, by kernel_rfl, eqsOK, AllL.get (l := []) trivial, AllL.get (l := []) trivial, AllL.get (l := []) trivial⟩
theorem ok52 : FnOK Tryd.prog JS 52 F52 := fnOK_of c52 (fn := Tryd.f52) (c := Tryd.f52.body.getD .skip) rfl rfl rfl (by decide) e52
/-- smithyard/config.CheckTools -/
def S28 (k : Nat) (x : PT [.val (.slice (.agg (.pair (.str) (.pair (.str) (.pair (.slice (.agg (.pair (.str) (.str)))) (.slice (.agg (.pair (.str) (.str)))))))))]) : Option (OT [.val (.int .i64)]) :=
cnd (igt (len x.1) 100) (some 2) (loopN k (fun (a2 : (Int → (Option Int))) (a3 : Int) => cnd (ilt a3 (len x.1)) (bnd (at? x.1 a3) (fun (a4 : (ByteArray × (ByteArray × ((List (ByteArray × ByteArray)) × (List (ByteArray × ByteArray)))))) => jn (fun (a5 : (Unit → (Option Int))) => bnd (S48 k (a4.1, ())) (fun (a6 : Bool) => cnd (bnot a6) (some 5) (bnd (S48 k (a4.2.1, ())) (fun (a7 : Bool) => cnd (bnot a7) (some 5) (a5 ()))))) (fun (a5 : Unit) => bnd (S49 k (a4.2.2.1, ())) (fun (a6 : Int) => cnd (ine a6 0) (some a6) (bnd (S49 k (a4.2.2.2, ())) (fun (a7 : Int) => cnd (ine a7 0) (some a7) (bnd (cut? x.1 0 a3) (fun (a8 : (List (ByteArray × (ByteArray × ((List (ByteArray × ByteArray)) × (List (ByteArray × ByteArray))))))) => bnd (S52 k (a8, fun (a9 : (ByteArray × (ByteArray × ((List (ByteArray × ByteArray)) × (List (ByteArray × ByteArray)))))) => S53 k (a9, (a4.1, a4.2.1, a4.2.2.1, a4.2.2.2), ()), ())) (fun (a9 : Bool) => cnd a9 (some 7) (a2 (iadd Go.IntKind.i64 a3 1))))))))))) (some 0)) 0)
def F28 : Fn := ⟨[.val (.slice (.agg (.pair (.str) (.pair (.str) (.pair (.slice (.agg (.pair (.str) (.str)))) (.slice (.agg (.pair (.str) (.str)))))))))], [.val (.int .i64)], S28⟩
def Γ28 : Ctx := ⟨alookup tys, alookup [(48, F48), (49, F49), (53, F53), (52, F52)], [(4, [12], [])], [(4, [10])], [], [], [], eqs, [(8, [], [], [], [])], [], alookup [], alookup [], alookup []⟩
theorem e28 (k : Nat) (x : PT [.val (.slice (.agg (.pair (.str) (.pair (.str) (.pair (.slice (.agg (.pair (.str) (.str)))) (.slice (.agg (.pair (.str) (.str)))))))))]) : S28 k x = runFn Γ28 k [.val (.slice (.agg (.pair (.str) (.pair (.str) (.pair (.slice (.agg (.pair (.str) (.str)))) (.slice (.agg (.pair (.str) (.str)))))))))] [.val (.int .i64)] Tryd.f28.ntmps Tryd.f28.results.toList (Tryd.f28.body.getD .skip) x := by kernel_rfl
theorem c28 : CtxOK Tryd.prog JS Γ28 := ⟨tysOK.get, AllL.get (l := [(48, F48), (49, F49), (53, F53), (52, F52)]) ⟨ok48, ok49, ok53, ok52, trivial⟩, by kernel_rfl, eqsOK, AllL.get (l := []) trivial, AllL.get (l := []) trivial, AllL.get (l := []) trivial⟩
theorem ok28 : FnOK Tryd.prog JS 28 F28 := fnOK_of c28 (fn := Tryd.f28) (c := Tryd.f28.body.getD .skip) rfl rfl rfl (by decide) e28
/-- smithyard/config.checkKinds -/
def S29 (k : Nat) (x : PT [.val (.slice (.str))]) : Option (OT [.val (.int .i64)]) :=
cnd (igt (len x.1) 30) (some 2) (loopN k (fun (a2 : (Int → (Option Int))) (a3 : Int) => cnd (ilt a3 (len x.1)) (bnd (at? x.1 a3) (fun (a4 : ByteArray) => bnd (S48 k (a4, ())) (fun (a5 : Bool) => cnd (bnot a5) (some 5) (cnd (igt a3 0) (bnd (at? x.1 (isub Go.IntKind.i64 a3 1)) (fun (a6 : ByteArray) => cnd (sle a4 a6) (some 8) (a2 (iadd Go.IntKind.i64 a3 1)))) (a2 (iadd Go.IntKind.i64 a3 1)))))) (some 0)) 0)
def F29 : Fn := ⟨[.val (.slice (.str))], [.val (.int .i64)], S29⟩
def Γ29 : Ctx := ⟨alookup tys, alookup [(48, F48)], [(4, [10], [])], [(4, [8])], [], [], [], eqs, [], [], alookup [], alookup [], alookup []⟩
theorem e29 (k : Nat) (x : PT [.val (.slice (.str))]) : S29 k x = runFn Γ29 k [.val (.slice (.str))] [.val (.int .i64)] Tryd.f29.ntmps Tryd.f29.results.toList (Tryd.f29.body.getD .skip) x := by kernel_rfl
theorem c29 : CtxOK Tryd.prog JS Γ29 := ⟨tysOK.get, AllL.get (l := [(48, F48)]) ⟨ok48, trivial⟩, by kernel_rfl, eqsOK, AllL.get (l := []) trivial, AllL.get (l := []) trivial, AllL.get (l := []) trivial⟩
theorem ok29 : FnOK Tryd.prog JS 29 F29 := fnOK_of c29 (fn := Tryd.f29) (c := Tryd.f29.body.getD .skip) rfl rfl rfl (by decide) e29
/-- slices.Index[[]smithyard/api.Pair,smithyard/api.Pair] -/
def S89 (k : Nat) (x : PT [.val (.slice (.agg (.pair (.str) (.str)))), .val (.agg (.pair (.str) (.str)))]) : Option (OT [.val (.int .i64)]) :=
loopN k (fun (a2 : (Int → (Option Int))) (a3 : Int) => cnd (ilt a3 (len x.1)) (bnd (at? x.1 a3) (fun (a4 : (ByteArray × ByteArray)) => cnd (kbeq (Kd.agg (Kd.pair Kd.str Kd.str)) (x.2.1.1, x.2.1.2) a4) (some a3) (a2 (iadd Go.IntKind.i64 a3 1)))) (some (-1))) 0
def F89 : Fn := ⟨[.val (.slice (.agg (.pair (.str) (.str)))), .val (.agg (.pair (.str) (.str)))], [.val (.int .i64)], S89⟩
def Γ89 : Ctx := ⟨alookup tys, alookup [], [(2, [8], [])], [], [(4, 5)], [], [], eqs, [], [], alookup [], alookup [], alookup []⟩
theorem e89 (k : Nat) (x : PT [.val (.slice (.agg (.pair (.str) (.str)))), .val (.agg (.pair (.str) (.str)))]) : S89 k x = runFn Γ89 k [.val (.slice (.agg (.pair (.str) (.str)))), .val (.agg (.pair (.str) (.str)))] [.val (.int .i64)] Tryd.f89.ntmps Tryd.f89.results.toList (Tryd.f89.body.getD .skip) x := by kernel_rfl
theorem c89 : CtxOK Tryd.prog JS Γ89 := ⟨tysOK.get, AllL.get (l := []) trivial, by kernel_rfl, eqsOK, AllL.get (l := []) trivial, AllL.get (l := []) trivial, AllL.get (l := []) trivial⟩
theorem ok89 : FnOK Tryd.prog JS 89 F89 := fnOK_of c89 (fn := Tryd.f89) (c := Tryd.f89.body.getD .skip) rfl rfl rfl (by decide) e89
/-- slices.Contains[[]smithyard/api.Pair,smithyard/api.Pair] -/
def S72 (k : Nat) (x : PT [.val (.slice (.agg (.pair (.str) (.str)))), .val (.agg (.pair (.str) (.str)))]) : Option (OT [.val (.bool)]) :=
bnd (S89 k (x.1, (x.2.1.1, x.2.1.2), ())) (fun (a2 : Int) => some (ige a2 0))
def F72 : Fn := ⟨[.val (.slice (.agg (.pair (.str) (.str)))), .val (.agg (.pair (.str) (.str)))], [.val (.bool)], S72⟩
def Γ72 : Ctx := ⟨alookup tys, alookup [(89, F89)], [], [], [], [], [], eqs, [], [], alookup [], alookup [], alookup []⟩
theorem e72 (k : Nat) (x : PT [.val (.slice (.agg (.pair (.str) (.str)))), .val (.agg (.pair (.str) (.str)))]) : S72 k x = runFn Γ72 k [.val (.slice (.agg (.pair (.str) (.str)))), .val (.agg (.pair (.str) (.str)))] [.val (.bool)] Tryd.f72.ntmps Tryd.f72.results.toList (Tryd.f72.body.getD .skip) x := by kernel_rfl
theorem c72 : CtxOK Tryd.prog JS Γ72 := ⟨tysOK.get, AllL.get (l := [(89, F89)]) ⟨ok89, trivial⟩, by kernel_rfl, eqsOK, AllL.get (l := []) trivial, AllL.get (l := []) trivial, AllL.get (l := []) trivial⟩
theorem ok72 : FnOK Tryd.prog JS 72 F72 := fnOK_of c72 (fn := Tryd.f72) (c := Tryd.f72.body.getD .skip) rfl rfl rfl (by decide) e72
/-- smithyard/config.Fit -/
def S56 (k : Nat) (x : PT [.val (.slice (.agg (.pair (.str) (.str)))), .val (.slice (.agg (.pair (.str) (.str))))]) : Option (OT [.val (.bool)]) :=
loopN k (fun (a2 : (Int → (Option Bool))) (a3 : Int) => cnd (ilt a3 (len x.1)) (bnd (at? x.1 a3) (fun (a4 : (ByteArray × ByteArray)) => bnd (S72 k (x.2.1, (a4.1, a4.2), ())) (fun (a5 : Bool) => cnd (bnot a5) (some false) (a2 (iadd Go.IntKind.i64 a3 1))))) (some true)) 0
def F56 : Fn := ⟨[.val (.slice (.agg (.pair (.str) (.str)))), .val (.slice (.agg (.pair (.str) (.str))))], [.val (.bool)], S56⟩
def Γ56 : Ctx := ⟨alookup tys, alookup [(72, F72)], [(2, [9], [])], [(2, [7])], [], [], [], eqs, [], [], alookup [], alookup [], alookup []⟩
theorem e56 (k : Nat) (x : PT [.val (.slice (.agg (.pair (.str) (.str)))), .val (.slice (.agg (.pair (.str) (.str))))]) : S56 k x = runFn Γ56 k [.val (.slice (.agg (.pair (.str) (.str)))), .val (.slice (.agg (.pair (.str) (.str))))] [.val (.bool)] Tryd.f56.ntmps Tryd.f56.results.toList (Tryd.f56.body.getD .skip) x := by kernel_rfl
theorem c56 : CtxOK Tryd.prog JS Γ56 := ⟨tysOK.get, AllL.get (l := [(72, F72)]) ⟨ok72, trivial⟩, by kernel_rfl, eqsOK, AllL.get (l := []) trivial, AllL.get (l := []) trivial, AllL.get (l := []) trivial⟩
theorem ok56 : FnOK Tryd.prog JS 56 F56 := fnOK_of c56 (fn := Tryd.f56) (c := Tryd.f56.body.getD .skip) rfl rfl rfl (by decide) e56
/-- smithyard/config.toolsOn$1 -/
def S55 (k : Nat) (x : PT [.val (.agg (.pair (.str) (.pair (.str) (.pair (.slice (.agg (.pair (.str) (.str)))) (.slice (.agg (.pair (.str) (.str)))))))), .rptr (.str), .rptr (.agg (.pair (.str) (.slice (.agg (.pair (.str) (.str)))))), .rptr (.agg (.pair (.str) (.slice (.agg (.pair (.str) (.str))))))]) : Option (OT [.val (.bool)]) :=
cnd (seq x.1.2.1 x.2.1) (bnd (S56 k (x.1.2.2.1, x.2.2.1.2, ())) (fun (a2 : Bool) => cnd a2 (bnd (S56 k (x.1.2.2.2, x.2.2.2.1.2, ())) (fun (a3 : Bool) => some a3)) (some false))) (some false)
def F55 : Fn := ⟨[.val (.agg (.pair (.str) (.pair (.str) (.pair (.slice (.agg (.pair (.str) (.str)))) (.slice (.agg (.pair (.str) (.str)))))))), .rptr (.str), .rptr (.agg (.pair (.str) (.slice (.agg (.pair (.str) (.str)))))), .rptr (.agg (.pair (.str) (.slice (.agg (.pair (.str) (.str))))))], [.val (.bool)], S55⟩
def Γ55 : Ctx := ⟨alookup tys, alookup [(56, F56)], [], [], [], [], [], eqs, [], [], alookup [], alookup [], alookup []⟩
theorem e55 (k : Nat) (x : PT [.val (.agg (.pair (.str) (.pair (.str) (.pair (.slice (.agg (.pair (.str) (.str)))) (.slice (.agg (.pair (.str) (.str)))))))), .rptr (.str), .rptr (.agg (.pair (.str) (.slice (.agg (.pair (.str) (.str)))))), .rptr (.agg (.pair (.str) (.slice (.agg (.pair (.str) (.str))))))]) : S55 k x = runFn Γ55 k [.val (.agg (.pair (.str) (.pair (.str) (.pair (.slice (.agg (.pair (.str) (.str)))) (.slice (.agg (.pair (.str) (.str)))))))), .rptr (.str), .rptr (.agg (.pair (.str) (.slice (.agg (.pair (.str) (.str)))))), .rptr (.agg (.pair (.str) (.slice (.agg (.pair (.str) (.str))))))] [.val (.bool)] Tryd.f55.ntmps Tryd.f55.results.toList (Tryd.f55.body.getD .skip) x := by kernel_rfl
theorem c55 : CtxOK Tryd.prog JS Γ55 := ⟨tysOK.get, AllL.get (l := [(56, F56)]) ⟨ok56, trivial⟩, by kernel_rfl, eqsOK, AllL.get (l := []) trivial, AllL.get (l := []) trivial, AllL.get (l := []) trivial⟩
theorem ok55 : FnOK Tryd.prog JS 55 F55 := fnOK_of c55 (fn := Tryd.f55) (c := Tryd.f55.body.getD .skip) rfl rfl rfl (by decide) e55
/-- smithyard/config.toolsOn -/
def S30 (k : Nat) (x : PT [.val (.slice (.agg (.pair (.str) (.pair (.str) (.pair (.slice (.agg (.pair (.str) (.str)))) (.slice (.agg (.pair (.str) (.str))))))))), .val (.slice (.str)), .val (.agg (.pair (.str) (.slice (.agg (.pair (.str) (.str)))))), .val (.agg (.pair (.str) (.slice (.agg (.pair (.str) (.str))))))]) : Option (OT [.val (.slice (.str)), .val (.bool)]) :=
loopN k (fun (a2 : (((List ByteArray) × Int) → (Option ((List ByteArray) × Bool)))) (a3 : ((List ByteArray) × Int)) => cnd (ilt a3.2 (len x.2.1)) (bnd (at? x.2.1 a3.2) (fun (a4 : ByteArray) => bnd (S54 k (x.1, fun (a5 : (ByteArray × (ByteArray × ((List (ByteArray × ByteArray)) × (List (ByteArray × ByteArray)))))) => S55 k (a5, a4, (x.2.2.1.1, x.2.2.1.2), (x.2.2.2.1.1, x.2.2.2.1.2), ()), ())) (fun (a5 : Int) => cnd (ilt a5 0) (some (([] : List ByteArray), false)) (bnd (at? x.1 a5) (fun (a6 : (ByteArray × (ByteArray × ((List (ByteArray × ByteArray)) × (List (ByteArray × ByteArray)))))) => bnd (app? 16 a3.1 (a6.1 :: ([] : List ByteArray))) (fun (a7 : (List ByteArray)) => a2 (a7, iadd Go.IntKind.i64 a3.2 1))))))) (some (a3.1, true))) (([] : List ByteArray), 0)
def F30 : Fn := ⟨[.val (.slice (.agg (.pair (.str) (.pair (.str) (.pair (.slice (.agg (.pair (.str) (.str)))) (.slice (.agg (.pair (.str) (.str))))))))), .val (.slice (.str)), .val (.agg (.pair (.str) (.slice (.agg (.pair (.str) (.str)))))), .val (.agg (.pair (.str) (.slice (.agg (.pair (.str) (.str))))))], [.val (.slice (.str)), .val (.bool)], S30⟩
def Γ30 : Ctx := ⟨alookup tys, alookup [(55, F55), (54, F54)], [(3, [10, 16], [])], [(3, [14])], [], [], [8, 31], eqs, [], [], alookup [], alookup [], alookup []⟩
theorem e30 (k : Nat) (x : PT [.val (.slice (.agg (.pair (.str) (.pair (.str) (.pair (.slice (.agg (.pair (.str) (.str)))) (.slice (.agg (.pair (.str) (.str))))))))), .val (.slice (.str)), .val (.agg (.pair (.str) (.slice (.agg (.pair (.str) (.str)))))), .val (.agg (.pair (.str) (.slice (.agg (.pair (.str) (.str))))))]) : S30 k x = runFn Γ30 k [.val (.slice (.agg (.pair (.str) (.pair (.str) (.pair (.slice (.agg (.pair (.str) (.str)))) (.slice (.agg (.pair (.str) (.str))))))))), .val (.slice (.str)), .val (.agg (.pair (.str) (.slice (.agg (.pair (.str) (.str)))))), .val (.agg (.pair (.str) (.slice (.agg (.pair (.str) (.str))))))] [.val (.slice (.str)), .val (.bool)] Tryd.f30.ntmps Tryd.f30.results.toList (Tryd.f30.body.getD .skip) x := by kernel_rfl
theorem c30 : CtxOK Tryd.prog JS Γ30 := ⟨tysOK.get, AllL.get (l := [(55, F55), (54, F54)]) ⟨ok55, ok54, trivial⟩, by kernel_rfl, eqsOK, AllL.get (l := []) trivial, AllL.get (l := []) trivial, AllL.get (l := []) trivial⟩
theorem ok30 : FnOK Tryd.prog JS 30 F30 := fnOK_of c30 (fn := Tryd.f30) (c := Tryd.f30.body.getD .skip) rfl rfl rfl (by decide) e30
/-- smithyard/config.Tools -/
def S12 (k : Nat) (x : PT [.val (.slice (.agg (.pair (.str) (.slice (.agg (.pair (.str) (.str))))))), .val (.slice (.agg (.pair (.str) (.pair (.str) (.pair (.slice (.agg (.pair (.str) (.str)))) (.slice (.agg (.pair (.str) (.str))))))))), .val (.slice (.str)), .val (.agg (.pair (.str) (.slice (.agg (.pair (.str) (.str))))))]) : Option (OT [.val (.str), .val (.slice (.str)), .val (.bool), .val (.int .i64)]) :=
bnd (S27 k (x.1, ())) (fun (a2 : Int) => cnd (ine a2 0) (some ((⟨#[]⟩ : ByteArray), ([] : List ByteArray), false, a2)) (bnd (S28 k (x.2.1, ())) (fun (a3 : Int) => cnd (ine a3 0) (some ((⟨#[]⟩ : ByteArray), ([] : List ByteArray), false, a3)) (bnd (S29 k (x.2.2.1, ())) (fun (a4 : Int) => cnd (ine a4 0) (some ((⟨#[]⟩ : ByteArray), ([] : List ByteArray), false, a4)) (bnd (S27 k (((x.2.2.2.1.1, x.2.2.2.1.2) :: ([] : List (ByteArray × (List (ByteArray × ByteArray))))), ())) (fun (a5 : Int) => cnd (ine a5 0) (some ((⟨#[]⟩ : ByteArray), ([] : List ByteArray), false, a5)) (loopN k (fun (a6 : (Int → (Option (ByteArray × ((List ByteArray) × (Bool × Int)))))) (a7 : Int) => cnd (ilt a7 (len x.1)) (bnd (at? x.1 a7) (fun (a8 : (ByteArray × (List (ByteArray × ByteArray)))) => bnd (S30 k (x.2.1, x.2.2.1, (a8.1, a8.2), (x.2.2.2.1.1, x.2.2.2.1.2), ())) (fun (a9 : ((List ByteArray) × Bool)) => cnd a9.2 (some (a8.1, a9.1, true, 0)) (a6 (iadd Go.IntKind.i64 a7 1))))) (some ((⟨#[]⟩ : ByteArray), ([] : List ByteArray), false, 0))) 0))))))))
def F12 : Fn := ⟨[.val (.slice (.agg (.pair (.str) (.slice (.agg (.pair (.str) (.str))))))), .val (.slice (.agg (.pair (.str) (.pair (.str) (.pair (.slice (.agg (.pair (.str) (.str)))) (.slice (.agg (.pair (.str) (.str))))))))), .val (.slice (.str)), .val (.agg (.pair (.str) (.slice (.agg (.pair (.str) (.str))))))], [.val (.str), .val (.slice (.str)), .val (.bool), .val (.int .i64)], S12⟩
def Γ12 : Ctx := ⟨alookup tys, alookup [(27, F27), (28, F28), (29, F29), (30, F30)], [(14, [43], [])], [(14, [41])], [], [], [9, 18, 36], eqs, [], [], alookup [], alookup [], alookup []⟩
theorem e12 (k : Nat) (x : PT [.val (.slice (.agg (.pair (.str) (.slice (.agg (.pair (.str) (.str))))))), .val (.slice (.agg (.pair (.str) (.pair (.str) (.pair (.slice (.agg (.pair (.str) (.str)))) (.slice (.agg (.pair (.str) (.str))))))))), .val (.slice (.str)), .val (.agg (.pair (.str) (.slice (.agg (.pair (.str) (.str))))))]) : S12 k x = runFn Γ12 k [.val (.slice (.agg (.pair (.str) (.slice (.agg (.pair (.str) (.str))))))), .val (.slice (.agg (.pair (.str) (.pair (.str) (.pair (.slice (.agg (.pair (.str) (.str)))) (.slice (.agg (.pair (.str) (.str))))))))), .val (.slice (.str)), .val (.agg (.pair (.str) (.slice (.agg (.pair (.str) (.str))))))] [.val (.str), .val (.slice (.str)), .val (.bool), .val (.int .i64)] Tryd.f12.ntmps Tryd.f12.results.toList (Tryd.f12.body.getD .skip) x := by kernel_rfl
theorem c12 : CtxOK Tryd.prog JS Γ12 := ⟨tysOK.get, AllL.get (l := [(27, F27), (28, F28), (29, F29), (30, F30)]) ⟨ok27, ok28, ok29, ok30, trivial⟩, by kernel_rfl, eqsOK, AllL.get (l := []) trivial, AllL.get (l := []) trivial, AllL.get (l := []) trivial⟩
theorem ok12 : FnOK Tryd.prog JS 12 F12 := fnOK_of c12 (fn := Tryd.f12) (c := Tryd.f12.body.getD .skip) rfl rfl rfl (by decide) e12
/-- slices.Index[[]string,string] -/
def S104 (k : Nat) (x : PT [.val (.slice (.str)), .val (.str)]) : Option (OT [.val (.int .i64)]) :=
loopN k (fun (a2 : (Int → (Option Int))) (a3 : Int) => cnd (ilt a3 (len x.1)) (bnd (at? x.1 a3) (fun (a4 : ByteArray) => cnd (seq x.2.1 a4) (some a3) (a2 (iadd Go.IntKind.i64 a3 1)))) (some (-1))) 0
def F104 : Fn := ⟨[.val (.slice (.str)), .val (.str)], [.val (.int .i64)], S104⟩
def Γ104 : Ctx := ⟨alookup tys, alookup [], [(2, [8], [])], [], [], [], [], eqs, [], [], alookup [], alookup [], alookup []⟩
theorem e104 (k : Nat) (x : PT [.val (.slice (.str)), .val (.str)]) : S104 k x = runFn Γ104 k [.val (.slice (.str)), .val (.str)] [.val (.int .i64)] Tryd.f104.ntmps Tryd.f104.results.toList (Tryd.f104.body.getD .skip) x := by kernel_rfl
theorem c104 : CtxOK Tryd.prog JS Γ104 := ⟨tysOK.get, AllL.get (l := []) trivial, by kernel_rfl, eqsOK, AllL.get (l := []) trivial, AllL.get (l := []) trivial, AllL.get (l := []) trivial⟩
theorem ok104 : FnOK Tryd.prog JS 104 F104 := fnOK_of c104 (fn := Tryd.f104) (c := Tryd.f104.body.getD .skip) rfl rfl rfl (by decide) e104
/-- slices.Contains[[]string,string] -/
def S90 (k : Nat) (x : PT [.val (.slice (.str)), .val (.str)]) : Option (OT [.val (.bool)]) :=
bnd (S104 k (x.1, x.2.1, ())) (fun (a2 : Int) => some (ige a2 0))
def F90 : Fn := ⟨[.val (.slice (.str)), .val (.str)], [.val (.bool)], S90⟩
def Γ90 : Ctx := ⟨alookup tys, alookup [(104, F104)], [], [], [], [], [], eqs, [], [], alookup [], alookup [], alookup []⟩
theorem e90 (k : Nat) (x : PT [.val (.slice (.str)), .val (.str)]) : S90 k x = runFn Γ90 k [.val (.slice (.str)), .val (.str)] [.val (.bool)] Tryd.f90.ntmps Tryd.f90.results.toList (Tryd.f90.body.getD .skip) x := by kernel_rfl
theorem c90 : CtxOK Tryd.prog JS Γ90 := ⟨tysOK.get, AllL.get (l := [(104, F104)]) ⟨ok104, trivial⟩, by kernel_rfl, eqsOK, AllL.get (l := []) trivial, AllL.get (l := []) trivial, AllL.get (l := []) trivial⟩
theorem ok90 : FnOK Tryd.prog JS 90 F90 := fnOK_of c90 (fn := Tryd.f90) (c := Tryd.f90.body.getD .skip) rfl rfl rfl (by decide) e90
/-- smithyard/config.CheckSettings -/
def S73 (k : Nat) (x : PT [.val (.slice (.agg (.pair (.str) (.slice (.str)))))]) : Option (OT [.val (.int .i64)]) :=
cnd (igt (len x.1) 30) (some 2) (loopN k (fun (a2 : (Int → (Option Int))) (a3 : Int) => cnd (ilt a3 (len x.1)) (bnd (at? x.1 a3) (fun (a4 : (ByteArray × (List ByteArray))) => bnd (S48 k (a4.1, ())) (fun (a5 : Bool) => cnd (bnot a5) (some 5) (cnd (ieq (len a4.2) 0) (some 9) (cnd (igt (len a4.2) 20) (some 2) (loopN k (fun (a6 : (Int → (Option Int))) (a7 : Int) => cnd (ilt a7 (len a4.2)) (bnd (at? a4.2 a7) (fun (a8 : ByteArray) => bnd (S48 k (a8, ())) (fun (a9 : Bool) => cnd (bnot a9) (some 5) (bnd (cut? a4.2 0 a7) (fun (a10 : (List ByteArray)) => bnd (S90 k (a10, a8, ())) (fun (a11 : Bool) => cnd a11 (some 7) (a6 (iadd Go.IntKind.i64 a7 1)))))))) (cnd (igt a3 0) (bnd (at? x.1 (isub Go.IntKind.i64 a3 1)) (fun (a8 : (ByteArray × (List ByteArray))) => cnd (sle a4.1 a8.1) (some 8) (a2 (iadd Go.IntKind.i64 a3 1)))) (a2 (iadd Go.IntKind.i64 a3 1)))) 0)))))) (some 0)) 0)
def F73 : Fn := ⟨[.val (.slice (.agg (.pair (.str) (.slice (.str)))))], [.val (.int .i64)], S73⟩
def Γ73 : Ctx := ⟨alookup tys, alookup [(48, F48), (90, F90)], [(4, [12], []), (13, [35], [])], [(4, [10]), (13, [10, 33])], [(20, 11)], [], [], eqs, [], [], alookup [], alookup [], alookup []⟩
theorem e73 (k : Nat) (x : PT [.val (.slice (.agg (.pair (.str) (.slice (.str)))))]) : S73 k x = runFn Γ73 k [.val (.slice (.agg (.pair (.str) (.slice (.str)))))] [.val (.int .i64)] Tryd.f73.ntmps Tryd.f73.results.toList (Tryd.f73.body.getD .skip) x := by kernel_rfl
theorem c73 : CtxOK Tryd.prog JS Γ73 := ⟨tysOK.get, AllL.get (l := [(48, F48), (90, F90)]) ⟨ok48, ok90, trivial⟩, by kernel_rfl, eqsOK, AllL.get (l := []) trivial, AllL.get (l := []) trivial, AllL.get (l := []) trivial⟩
theorem ok73 : FnOK Tryd.prog JS 73 F73 := fnOK_of c73 (fn := Tryd.f73) (c := Tryd.f73.body.getD .skip) rfl rfl rfl (by decide) e73
/-- smithyard/config.find$1 -/
def S106 (k : Nat) (x : PT [.val (.agg (.pair (.str) (.slice (.str)))), .rptr (.str)]) : Option (OT [.val (.bool)]) :=
some (seq x.1.1 x.2.1)
def F106 : Fn := ⟨[.val (.agg (.pair (.str) (.slice (.str)))), .rptr (.str)], [.val (.bool)], S106⟩
def Γ106 : Ctx := ⟨alookup tys, alookup [], [], [], [], [], [], eqs, [], [], alookup [], alookup [], alookup []⟩
theorem e106 (k : Nat) (x : PT [.val (.agg (.pair (.str) (.slice (.str)))), .rptr (.str)]) : S106 k x = runFn Γ106 k [.val (.agg (.pair (.str) (.slice (.str)))), .rptr (.str)] [.val (.bool)] Tryd.f106.ntmps Tryd.f106.results.toList (Tryd.f106.body.getD .skip) x := by kernel_rfl
theorem c106 : CtxOK Tryd.prog JS Γ106 := ⟨tysOK.get, AllL.get (l := []) trivial, by kernel_rfl, eqsOK, AllL.get (l := []) trivial, AllL.get (l := []) trivial, AllL.get (l := []) trivial⟩
theorem ok106 : FnOK Tryd.prog JS 106 F106 := fnOK_of c106 (fn := Tryd.f106) (c := Tryd.f106.body.getD .skip) rfl rfl rfl (by decide) e106
/-- slices.IndexFunc[[]smithyard/api.Setting,smithyard/api.Setting] -/
def S105 (k : Nat) (x : PT [.val (.slice (.agg (.pair (.str) (.slice (.str))))), .fnv (.agg (.pair (.str) (.slice (.str)))) (.bool)]) : Option (OT [.val (.int .i64)]) :=
loopN k (fun (a2 : (Int → (Option Int))) (a3 : Int) => cnd (ilt a3 (len x.1)) (bnd (at? x.1 a3) (fun (a4 : (ByteArray × (List ByteArray))) => bnd (x.2.1 a4) (fun (a5 : Bool) => cnd a5 (some a3) (a2 (iadd Go.IntKind.i64 a3 1))))) (some (-1))) 0
def F105 : Fn := ⟨[.val (.slice (.agg (.pair (.str) (.slice (.str))))), .fnv (.agg (.pair (.str) (.slice (.str)))) (.bool)], [.val (.int .i64)], S105⟩
def Γ105 : Ctx := ⟨alookup tys, alookup [], [(2, [8], [])], [], [], [], [], eqs, [], [], alookup [], alookup [], alookup []⟩
theorem e105 (k : Nat) (x : PT [.val (.slice (.agg (.pair (.str) (.slice (.str))))), .fnv (.agg (.pair (.str) (.slice (.str)))) (.bool)]) : S105 k x = runFn Γ105 k [.val (.slice (.agg (.pair (.str) (.slice (.str))))), .fnv (.agg (.pair (.str) (.slice (.str)))) (.bool)] [.val (.int .i64)] Tryd.f105.ntmps Tryd.f105.results.toList (Tryd.f105.body.getD .skip) x := by kernel_rfl
theorem c105 : CtxOK Tryd.prog JS Γ105 := ⟨tysOK.get, AllL.get (l := []) trivial, by kernel_rfl, eqsOK, AllL.get (l := []) trivial, AllL.get (l := []) trivial, AllL.get (l := []) trivial⟩
theorem ok105 : FnOK Tryd.prog JS 105 F105 := fnOK_of c105 (fn := Tryd.f105) (c := Tryd.f105.body.getD .skip) rfl rfl rfl (by decide) e105
/-- smithyard/config.find -/
def S91 (k : Nat) (x : PT [.val (.slice (.agg (.pair (.str) (.slice (.str))))), .val (.str)]) : Option (OT [.val (.int .i64)]) :=
bnd (S105 k (x.1, fun (a2 : (ByteArray × (List ByteArray))) => S106 k (a2, x.2.1, ()), ())) (fun (a2 : Int) => some a2)
def F91 : Fn := ⟨[.val (.slice (.agg (.pair (.str) (.slice (.str))))), .val (.str)], [.val (.int .i64)], S91⟩
def Γ91 : Ctx := ⟨alookup tys, alookup [(106, F106), (105, F105)], [], [], [], [], [], eqs, [], [], alookup [], alookup [], alookup []⟩
theorem e91 (k : Nat) (x : PT [.val (.slice (.agg (.pair (.str) (.slice (.str))))), .val (.str)]) : S91 k x = runFn Γ91 k [.val (.slice (.agg (.pair (.str) (.slice (.str))))), .val (.str)] [.val (.int .i64)] Tryd.f91.ntmps Tryd.f91.results.toList (Tryd.f91.body.getD .skip) x := by kernel_rfl
theorem c91 : CtxOK Tryd.prog JS Γ91 := ⟨tysOK.get, AllL.get (l := [(106, F106), (105, F105)]) ⟨ok106, ok105, trivial⟩, by kernel_rfl, eqsOK, AllL.get (l := []) trivial, AllL.get (l := []) trivial, AllL.get (l := []) trivial⟩
theorem ok91 : FnOK Tryd.prog JS 91 F91 := fnOK_of c91 (fn := Tryd.f91) (c := Tryd.f91.body.getD .skip) rfl rfl rfl (by decide) e91
/-- smithyard/config.checkSet -/
def S74 (k : Nat) (x : PT [.val (.slice (.agg (.pair (.str) (.slice (.str))))), .val (.slice (.agg (.pair (.str) (.str)))), .val (.bool)]) : Option (OT [.val (.int .i64)]) :=
loopN k (fun (a2 : (Int → (Option Int))) (a3 : Int) => cnd (ilt a3 (len x.2.1)) (bnd (at? x.2.1 a3) (fun (a4 : (ByteArray × ByteArray)) => bnd (S91 k (x.1, a4.1, ())) (fun (a5 : Int) => cnd (ilt a5 0) (some 5) (bnd (at? x.1 a5) (fun (a6 : (ByteArray × (List ByteArray))) => bnd (S90 k (a6.2, a4.2, ())) (fun (a7 : Bool) => cnd (bnot a7) (some 1) (jn (fun (a8 : (Bool → (Option Int))) => cnd x.2.2.1 (bnd (at? x.1 a5) (fun (a9 : (ByteArray × (List ByteArray))) => bnd (at? a9.2 0) (fun (a10 : ByteArray) => a8 (seq a4.2 a10)))) (a8 false)) (fun (a8 : Bool) => cnd a8 (some 3) (cnd (igt a3 0) (bnd (at? x.2.1 (isub Go.IntKind.i64 a3 1)) (fun (a9 : (ByteArray × ByteArray)) => cnd (sle a4.1 a9.1) (some 8) (a2 (iadd Go.IntKind.i64 a3 1)))) (a2 (iadd Go.IntKind.i64 a3 1))))))))))) (some 0)) 0
def F74 : Fn := ⟨[.val (.slice (.agg (.pair (.str) (.slice (.str))))), .val (.slice (.agg (.pair (.str) (.str)))), .val (.bool)], [.val (.int .i64)], S74⟩
def Γ74 : Ctx := ⟨alookup tys, alookup [(91, F91), (90, F90)], [(2, [12], [])], [(2, [10])], [(7, 7), (9, 11), (11, 11)], [], [], eqs, [(10, [], [34], [.val (.bool)], [])], [], alookup [], alookup [], alookup []⟩
theorem e74 (k : Nat) (x : PT [.val (.slice (.agg (.pair (.str) (.slice (.str))))), .val (.slice (.agg (.pair (.str) (.str)))), .val (.bool)]) : S74 k x = runFn Γ74 k [.val (.slice (.agg (.pair (.str) (.slice (.str))))), .val (.slice (.agg (.pair (.str) (.str)))), .val (.bool)] [.val (.int .i64)] Tryd.f74.ntmps Tryd.f74.results.toList (Tryd.f74.body.getD .skip) x := by kernel_rfl
theorem c74 : CtxOK Tryd.prog JS Γ74 := ⟨tysOK.get, AllL.get (l := [(91, F91), (90, F90)]) ⟨ok91, ok90, trivial⟩, by kernel_rfl, eqsOK, AllL.get (l := []) trivial, AllL.get (l := []) trivial, AllL.get (l := []) trivial⟩
theorem ok74 : FnOK Tryd.prog JS 74 F74 := fnOK_of c74 (fn := Tryd.f74) (c := Tryd.f74.body.getD .skip) rfl rfl rfl (by decide) e74
/-- smithyard/config.CheckConfig -/
def S57 (k : Nat) (x : PT [.val (.slice (.agg (.pair (.str) (.slice (.str))))), .val (.slice (.agg (.pair (.str) (.str))))]) : Option (OT [.val (.int .i64)]) :=
bnd (S73 k (x.1, ())) (fun (a2 : Int) => cnd (ine a2 0) (some a2) (bnd (S74 k (x.1, x.2.1, true, ())) (fun (a3 : Int) => some a3)))
def F57 : Fn := ⟨[.val (.slice (.agg (.pair (.str) (.slice (.str))))), .val (.slice (.agg (.pair (.str) (.str))))], [.val (.int .i64)], S57⟩
def Γ57 : Ctx := ⟨alookup tys, alookup [(73, F73), (74, F74)], [], [], [], [], [], eqs, [], [], alookup [], alookup [], alookup []⟩
theorem e57 (k : Nat) (x : PT [.val (.slice (.agg (.pair (.str) (.slice (.str))))), .val (.slice (.agg (.pair (.str) (.str))))]) : S57 k x = runFn Γ57 k [.val (.slice (.agg (.pair (.str) (.slice (.str))))), .val (.slice (.agg (.pair (.str) (.str))))] [.val (.int .i64)] Tryd.f57.ntmps Tryd.f57.results.toList (Tryd.f57.body.getD .skip) x := by kernel_rfl
theorem c57 : CtxOK Tryd.prog JS Γ57 := ⟨tysOK.get, AllL.get (l := [(73, F73), (74, F74)]) ⟨ok73, ok74, trivial⟩, by kernel_rfl, eqsOK, AllL.get (l := []) trivial, AllL.get (l := []) trivial, AllL.get (l := []) trivial⟩
theorem ok57 : FnOK Tryd.prog JS 57 F57 := fnOK_of c57 (fn := Tryd.f57) (c := Tryd.f57.body.getD .skip) rfl rfl rfl (by decide) e57
/-- smithyard/config.ConfigText -/
def S31 (k : Nat) (x : PT [.val (.slice (.agg (.pair (.str) (.slice (.str))))), .val (.slice (.agg (.pair (.str) (.str))))]) : Option (OT [.val (.str), .val (.int .i64)]) :=
bnd (S57 k (x.1, x.2.1, ())) (fun (a2 : Int) => cnd (ine a2 0) (some ((⟨#[]⟩ : ByteArray), a2)) (cnd (ieq (len x.2.1) 0) (some ((⟨#[45]⟩ : ByteArray), 0)) (loopN k (fun (a3 : (((List ByteArray) × Int) → (Option (ByteArray × Int)))) (a4 : ((List ByteArray) × Int)) => cnd (ilt a4.2 (len x.2.1)) (bnd (at? x.2.1 a4.2) (fun (a5 : (ByteArray × ByteArray)) => bnd (cat? a5.1 (⟨#[61]⟩ : ByteArray)) (fun (a6 : ByteArray) => bnd (cat? a6 a5.2) (fun (a7 : ByteArray) => bnd (app? 16 a4.1 (a7 :: ([] : List ByteArray))) (fun (a8 : (List ByteArray)) => a3 (a8, iadd Go.IntKind.i64 a4.2 1)))))) (bnd (S58 k (a4.1, (⟨#[44]⟩ : ByteArray), ())) (fun (a5 : ByteArray) => some (a5, 0)))) (([] : List ByteArray), 0))))
def F31 : Fn := ⟨[.val (.slice (.agg (.pair (.str) (.slice (.str))))), .val (.slice (.agg (.pair (.str) (.str))))], [.val (.str), .val (.int .i64)], S31⟩
def Γ31 : Ctx := ⟨alookup tys, alookup [(57, F57), (58, F58)], [(8, [7, 21], [])], [(8, [19])], [], [], [32], eqs, [], [], alookup [], alookup [], alookup []⟩
theorem e31 (k : Nat) (x : PT [.val (.slice (.agg (.pair (.str) (.slice (.str))))), .val (.slice (.agg (.pair (.str) (.str))))]) : S31 k x = runFn Γ31 k [.val (.slice (.agg (.pair (.str) (.slice (.str))))), .val (.slice (.agg (.pair (.str) (.str))))] [.val (.str), .val (.int .i64)] Tryd.f31.ntmps Tryd.f31.results.toList (Tryd.f31.body.getD .skip) x := by kernel_rfl
theorem c31 : CtxOK Tryd.prog JS Γ31 := ⟨tysOK.get, AllL.get (l := [(57, F57), (58, F58)]) ⟨ok57, ok58, trivial⟩, by kernel_rfl, eqsOK, AllL.get (l := []) trivial, AllL.get (l := []) trivial, AllL.get (l := []) trivial⟩
theorem ok31 : FnOK Tryd.prog JS 31 F31 := fnOK_of c31 (fn := Tryd.f31) (c := Tryd.f31.body.getD .skip) rfl rfl rfl (by decide) e31
/-- smithyard/smithyardlaw3.awake -/
def S13 (k : Nat) (x : PT []) : Option (OT [.val (.bool)]) :=
bnd (S31 k ((((⟨#[109]⟩ : ByteArray), ((⟨#[97]⟩ : ByteArray) :: ((⟨#[98]⟩ : ByteArray) :: ([] : List ByteArray)))) :: ([] : List (ByteArray × (List ByteArray)))), (((⟨#[109]⟩ : ByteArray), (⟨#[98]⟩ : ByteArray)) :: ([] : List (ByteArray × ByteArray))), ())) (fun (a2 : (ByteArray × Int)) => cnd (ieq a2.2 0) (some (seq a2.1 (⟨#[109, 61, 98]⟩ : ByteArray))) (some false))
def F13 : Fn := ⟨[], [.val (.bool)], S13⟩
def Γ13 : Ctx := ⟨alookup tys, alookup [(31, F31)], [], [], [], [], [4, 6, 8], eqs, [], [], alookup [], alookup [], alookup []⟩
theorem e13 (k : Nat) (x : PT []) : S13 k x = runFn Γ13 k [] [.val (.bool)] Tryd.f13.ntmps Tryd.f13.results.toList (Tryd.f13.body.getD .skip) x := by kernel_rfl
theorem c13 : CtxOK Tryd.prog JS Γ13 := ⟨tysOK.get, AllL.get (l := [(31, F31)]) ⟨ok31, trivial⟩, by kernel_rfl, eqsOK, AllL.get (l := []) trivial, AllL.get (l := []) trivial, AllL.get (l := []) trivial⟩
theorem ok13 : FnOK Tryd.prog JS 13 F13 := fnOK_of c13 (fn := Tryd.f13) (c := Tryd.f13.body.getD .skip) rfl rfl rfl (by decide) e13
/-- smithyard/smithyardlaw3.ConfigToolsFewerKinds -/
def S4 (k : Nat) (x : PT [.val (.agg (.pair (.slice (.agg (.pair (.str) (.slice (.str))))) (.pair (.slice (.agg (.pair (.str) (.pair (.slice (.agg (.pair (.str) (.str)))) (.slice (.agg (.pair (.str) (.str)))))))) (.pair (.slice (.agg (.pair (.str) (.slice (.agg (.pair (.str) (.str))))))) (.pair (.slice (.agg (.pair (.str) (.pair (.str) (.pair (.slice (.agg (.pair (.str) (.str)))) (.slice (.agg (.pair (.str) (.str))))))))) (.slice (.agg (.pair (.str) (.pair (.slice (.agg (.pair (.str) (.str)))) (.slice (.str))))))))))), .val (.slice (.str)), .val (.agg (.pair (.str) (.slice (.agg (.pair (.str) (.str)))))), .val (.int .i64)]) : Option (OT [.val (.bool)]) :=
bnd (S12 k (x.1.2.2.1, x.1.2.2.2.1, x.2.1, (x.2.2.1.1, x.2.2.1.2), ())) (fun (a2 : (ByteArray × ((List ByteArray) × (Bool × Int)))) => jn (fun (a3 : (Bool → (Option Bool))) => cnd (ine a2.2.2.2 0) (a3 true) (cnd (bnot a2.2.2.1) (a3 true) (a3 (ieq (len x.2.1) 0)))) (fun (a3 : Bool) => cnd a3 (cnd (ieq a2.2.2.2 0) (bnd (S13 k ()) (fun (a4 : Bool) => some a4)) (cnd (seq a2.1 (⟨#[]⟩ : ByteArray)) (cnd (ieq (len a2.2.1) 0) (bnd (S13 k ()) (fun (a4 : Bool) => some a4)) (some false)) (some false))) (bnd (irem? Go.IntKind.i64 x.2.2.2.1 (len x.2.1)) (fun (a4 : Int) => bnd (irem? Go.IntKind.i64 (iadd Go.IntKind.i64 a4 (len x.2.1)) (len x.2.1)) (fun (a5 : Int) => bnd (S6 k (x.2.1, ())) (fun (a6 : (List ByteArray)) => bnd (S14 k (a6, a5, iadd Go.IntKind.i64 a5 1, ())) (fun (a7 : (List ByteArray)) => bnd (S12 k (x.1.2.2.1, x.1.2.2.2.1, a7, (x.2.2.1.1, x.2.2.1.2), ())) (fun (a8 : (ByteArray × ((List ByteArray) × (Bool × Int)))) => jn (fun (a9 : (Bool → (Option Bool))) => cnd (ine a8.2.2.2 0) (a9 true) (cnd (bnot a8.2.2.1) (a9 true) (cnd (ine (len a8.2.1) (isub Go.IntKind.i64 (len a2.2.1) 1)) (a9 true) (bnd (S13 k ()) (fun (a10 : Bool) => a9 (bnot a10)))))) (fun (a9 : Bool) => cnd a9 (some false) (loopN k (fun (a10 : (Int → (Option Bool))) (a11 : Int) => cnd (ilt a11 (len x.1.2.2.1)) (bnd (at? x.1.2.2.1 a11) (fun (a12 : (ByteArray × (List (ByteArray × ByteArray)))) => cnd (seq a12.1 a8.1) (some true) (cnd (seq a12.1 a2.1) (some false) (a10 (iadd Go.IntKind.i64 a11 1))))) (some false)) 0))))))))))
def F4 : Fn := ⟨[.val (.agg (.pair (.slice (.agg (.pair (.str) (.slice (.str))))) (.pair (.slice (.agg (.pair (.str) (.pair (.slice (.agg (.pair (.str) (.str)))) (.slice (.agg (.pair (.str) (.str)))))))) (.pair (.slice (.agg (.pair (.str) (.slice (.agg (.pair (.str) (.str))))))) (.pair (.slice (.agg (.pair (.str) (.pair (.str) (.pair (.slice (.agg (.pair (.str) (.str)))) (.slice (.agg (.pair (.str) (.str))))))))) (.slice (.agg (.pair (.str) (.pair (.slice (.agg (.pair (.str) (.str)))) (.slice (.str))))))))))), .val (.slice (.str)), .val (.agg (.pair (.str) (.slice (.agg (.pair (.str) (.str)))))), .val (.int .i64)], [.val (.bool)], S4⟩
def Γ4 : Ctx := ⟨alookup tys, alookup [(12, F12), (13, F13), (6, F6), (14, F14)], [(9, [102], [])], [(9, [100])], [(5, 1000020)], [], [10, 14, 74], eqs, [(3, [], [39], [.val (.bool)], []), (7, [], [98], [.val (.bool)], [])], [], alookup [], alookup [], alookup []⟩
theorem e4 (k : Nat) (x : PT [.val (.agg (.pair (.slice (.agg (.pair (.str) (.slice (.str))))) (.pair (.slice (.agg (.pair (.str) (.pair (.slice (.agg (.pair (.str) (.str)))) (.slice (.agg (.pair (.str) (.str)))))))) (.pair (.slice (.agg (.pair (.str) (.slice (.agg (.pair (.str) (.str))))))) (.pair (.slice (.agg (.pair (.str) (.pair (.str) (.pair (.slice (.agg (.pair (.str) (.str)))) (.slice (.agg (.pair (.str) (.str))))))))) (.slice (.agg (.pair (.str) (.pair (.slice (.agg (.pair (.str) (.str)))) (.slice (.str))))))))))), .val (.slice (.str)), .val (.agg (.pair (.str) (.slice (.agg (.pair (.str) (.str)))))), .val (.int .i64)]) : S4 k x = runFn Γ4 k [.val (.agg (.pair (.slice (.agg (.pair (.str) (.slice (.str))))) (.pair (.slice (.agg (.pair (.str) (.pair (.slice (.agg (.pair (.str) (.str)))) (.slice (.agg (.pair (.str) (.str)))))))) (.pair (.slice (.agg (.pair (.str) (.slice (.agg (.pair (.str) (.str))))))) (.pair (.slice (.agg (.pair (.str) (.pair (.str) (.pair (.slice (.agg (.pair (.str) (.str)))) (.slice (.agg (.pair (.str) (.str))))))))) (.slice (.agg (.pair (.str) (.pair (.slice (.agg (.pair (.str) (.str)))) (.slice (.str))))))))))), .val (.slice (.str)), .val (.agg (.pair (.str) (.slice (.agg (.pair (.str) (.str)))))), .val (.int .i64)] [.val (.bool)] Tryd.f4.ntmps Tryd.f4.results.toList (Tryd.f4.body.getD .skip) x := by kernel_rfl
theorem c4 : CtxOK Tryd.prog JS Γ4 := ⟨tysOK.get, AllL.get (l := [(12, F12), (13, F13), (6, F6), (14, F14)]) ⟨ok12, ok13, ok6, ok14, trivial⟩, by kernel_rfl, eqsOK, AllL.get (l := []) trivial, AllL.get (l := []) trivial, AllL.get (l := []) trivial⟩
theorem ok4 : FnOK Tryd.prog JS 4 F4 := fnOK_of c4 (fn := Tryd.f4) (c := Tryd.f4.body.getD .skip) rfl rfl rfl (by decide) e4
end Go.Proofs.YtocgdpnealaoeaaDoor.Ev
