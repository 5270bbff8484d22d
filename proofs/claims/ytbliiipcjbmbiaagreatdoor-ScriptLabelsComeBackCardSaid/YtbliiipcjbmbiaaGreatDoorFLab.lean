/- Lab: the functions as plain Lean, and that they are the program's (printed by this session's own wip/ev/gen.py) -/
import Derived.Test.YtbliiipcjbmbiaaGreatDoorGc
import Derived.Test.YtbliiipcjbmbiaaGreatDoorProg
import Derived.Test.YtbliiipcjbmbiaaGreatDoorAwC
namespace Go.Proofs.YtbliiipcjbmbiaaGreatDoor.Ev
open Go Go.Proofs Go.RowKit
set_option linter.unusedVariables false
set_option maxRecDepth 100000
theorem ty_3 : TyOK Tryz.prog 3 ⟨.int .i64, [], 0, 0, 0⟩ := ⟨⟨rfl, rfl, ⟨_, rfl, rfl, _, rfl, rfl⟩, ⟨_, rfl, rfl⟩⟩, rfl⟩
theorem ty_4 : TyOK Tryz.prog 4 ⟨.bool, [], 0, 0, 0⟩ := ⟨⟨rfl, rfl, ⟨_, rfl, rfl, _, rfl, rfl⟩, ⟨_, rfl, rfl⟩⟩, rfl⟩
theorem ty_5 : TyOK Tryz.prog 5 ⟨.int .u8, [], 0, 0, 0⟩ := ⟨⟨rfl, rfl, ⟨_, rfl, rfl, _, rfl, rfl⟩, ⟨_, rfl, rfl⟩⟩, rfl⟩
theorem ty_9 : TyOK Tryz.prog 9 ⟨.str, [], 0, 0, 0⟩ := ⟨⟨rfl, rfl, ⟨_, rfl, rfl, _, rfl, rfl⟩, ⟨_, rfl, rfl⟩⟩, rfl⟩
theorem ty_22 : TyOK Tryz.prog 22 ⟨.slice (.str), [], 0, 9, 16⟩ := ⟨⟨trivial, rfl, ⟨_, rfl, rfl, _, rfl, rfl⟩, ⟨_, rfl, rfl⟩⟩, ⟨rfl, ty_9.1, fun i h => by cases h; rfl⟩⟩
theorem ty_26 : TyOK Tryz.prog 26 ⟨.int .i64, [], 0, 0, 0⟩ := ⟨⟨rfl, rfl, ⟨_, rfl, rfl, _, rfl, rfl⟩, ⟨_, rfl, rfl⟩⟩, rfl⟩
theorem ty_51 : TyOK Tryz.prog 51 ⟨.agg (.pair (.str) (.str)), [(0, 9), (1, 9)], 0, 0, 0⟩ := ⟨⟨trivial, rfl, ⟨_, rfl, rfl, _, rfl, rfl⟩, ⟨_, rfl, rfl⟩⟩, ⟨_, rfl, rfl, fun f off tf h => by
  match f, h with
  | 0, h => cases h; exact ⟨_, rfl, rfl, rfl, _, rfl⟩
  | 1, h => cases h; exact ⟨_, rfl, rfl, rfl, _, rfl⟩
  | _ + 2, h => cases h⟩⟩
def tys : List (Nat × Ty) := [(3, ⟨.int .i64, [], 0, 0, 0⟩), (4, ⟨.bool, [], 0, 0, 0⟩), (5, ⟨.int .u8, [], 0, 0, 0⟩), (9, ⟨.str, [], 0, 0, 0⟩), (22, ⟨.slice (.str), [], 0, 9, 16⟩), (26, ⟨.int .i64, [], 0, 0, 0⟩), (51, ⟨.agg (.pair (.str) (.str)), [(0, 9), (1, 9)], 0, 0, 0⟩)]
def eqs : List Nat := [51]
theorem eq_51 : EqOK Tryz.prog 51 (.agg (.pair (.str) (.str))) := eqOK_agg rfl (by kernel_rfl) (by kernel_rfl) ⟨⟨by decide, rfl, rfl⟩, ⟨by decide, rfl, rfl⟩⟩
theorem eqsOK : ∀ t k, eqs.any (Nat.beq t) = true → (match alookup tys t with | some y => some y.k | none => none) = some k → EqOK Tryz.prog t k := by
  intro t k h hk
  obtain ⟨x, hx, e⟩ := List.any_eq_true.1 h
  obtain rfl := Nat.eq_of_beq_eq_true e
  simp only [eqs, List.mem_cons, List.not_mem_nil, or_false] at hx
  rcases hx with rfl
  · cases hk; exact eq_51
theorem tysOK : AllL (TyOK Tryz.prog) tys := ⟨ty_3, ty_4, ty_5, ty_9, ty_22, ty_26, ty_51, trivial⟩
/-- smithyard/blob.inPart -/
def S126 (k : Nat) (x : PT [.val (.int .u8)]) : Option (OT [.val (.bool)]) :=
cnd (ige x.1 97) (cnd (ile x.1 122) (some true) (cnd (ige x.1 65) (cnd (ile x.1 90) (some true) (cnd (ige x.1 48) (cnd (ile x.1 57) (some true) (bnd (S130 k ((⟨#[46, 95, 45, 43]⟩ : ByteArray), x.1, ())) (fun (a2 : Int) => some (ige a2 0)))) (bnd (S130 k ((⟨#[46, 95, 45, 43]⟩ : ByteArray), x.1, ())) (fun (a2 : Int) => some (ige a2 0))))) (cnd (ige x.1 48) (cnd (ile x.1 57) (some true) (bnd (S130 k ((⟨#[46, 95, 45, 43]⟩ : ByteArray), x.1, ())) (fun (a2 : Int) => some (ige a2 0)))) (bnd (S130 k ((⟨#[46, 95, 45, 43]⟩ : ByteArray), x.1, ())) (fun (a2 : Int) => some (ige a2 0)))))) (cnd (ige x.1 65) (cnd (ile x.1 90) (some true) (cnd (ige x.1 48) (cnd (ile x.1 57) (some true) (bnd (S130 k ((⟨#[46, 95, 45, 43]⟩ : ByteArray), x.1, ())) (fun (a2 : Int) => some (ige a2 0)))) (bnd (S130 k ((⟨#[46, 95, 45, 43]⟩ : ByteArray), x.1, ())) (fun (a2 : Int) => some (ige a2 0))))) (cnd (ige x.1 48) (cnd (ile x.1 57) (some true) (bnd (S130 k ((⟨#[46, 95, 45, 43]⟩ : ByteArray), x.1, ())) (fun (a2 : Int) => some (ige a2 0)))) (bnd (S130 k ((⟨#[46, 95, 45, 43]⟩ : ByteArray), x.1, ())) (fun (a2 : Int) => some (ige a2 0)))))
def F126 : Fn := ⟨[.val (.int .u8)], [.val (.bool)], S126⟩
def Γ126 : Ctx := ⟨alookup tys, alookup [(130, F130)], [], [], [], [], [], eqs, [], [], alookup [], alookup [], alookup []⟩
theorem e126 (k : Nat) (x : PT [.val (.int .u8)]) : S126 k x = runFn Γ126 k [.val (.int .u8)] [.val (.bool)] Tryz.f126.ntmps Tryz.f126.results.toList (Tryz.f126.body.getD .skip) x := by kernel_rfl
theorem c126 : CtxOK Tryz.prog JS Γ126 := ⟨tysOK.get, AllL.get (l := [(130, F130)]) ⟨ok130, trivial⟩, by kernel_rfl, eqsOK, AllL.get (l := []) trivial, AllL.get (l := []) trivial, AllL.get (l := []) trivial⟩
theorem ok126 : FnOK Tryz.prog JS 126 F126 := fnOK_of c126 (fn := Tryz.f126) (c := Tryz.f126.body.getD .skip) rfl rfl rfl (by decide) e126
/-- smithyard/blob.isPart -/
def S101 (k : Nat) (x : PT [.val (.str)]) : Option (OT [.val (.bool)]) :=
loopN k (fun (a2 : (Int → (Option Bool))) (a3 : Int) => cnd (ilt a3 (ssz x.1)) (bnd (bt? x.1 a3) (fun (a4 : Int) => bnd (S126 k (a4, ())) (fun (a5 : Bool) => cnd (bnot a5) (some false) (a2 (iadd Go.IntKind.i64 a3 1))))) (cnd (sne x.1 (⟨#[]⟩ : ByteArray)) (cnd (sne x.1 (⟨#[46]⟩ : ByteArray)) (some (sne x.1 (⟨#[46, 46]⟩ : ByteArray))) (some false)) (some false))) 0
def F101 : Fn := ⟨[.val (.str)], [.val (.bool)], S101⟩
def Γ101 : Ctx := ⟨alookup tys, alookup [(126, F126)], [(2, [6], [])], [], [], [], [], eqs, [], [], alookup [], alookup [], alookup []⟩
theorem e101 (k : Nat) (x : PT [.val (.str)]) : S101 k x = runFn Γ101 k [.val (.str)] [.val (.bool)] Tryz.f101.ntmps Tryz.f101.results.toList (Tryz.f101.body.getD .skip) x := by kernel_rfl
theorem c101 : CtxOK Tryz.prog JS Γ101 := ⟨tysOK.get, AllL.get (l := [(126, F126)]) ⟨ok126, trivial⟩, by kernel_rfl, eqsOK, AllL.get (l := []) trivial, AllL.get (l := []) trivial, AllL.get (l := []) trivial⟩
theorem ok101 : FnOK Tryz.prog JS 101 F101 := fnOK_of c101 (fn := Tryz.f101) (c := Tryz.f101.body.getD .skip) rfl rfl rfl (by decide) e101
/-- smithyard/blob.IsPath -/
def S59 (k : Nat) (x : PT [.val (.str)]) : Option (OT [.val (.bool)]) :=
jn (fun (a2 : (Unit → (Option Bool))) => cnd (ilt (ssz x.1) 1) (some false) (cnd (igt (ssz x.1) 200) (some false) (a2 ()))) (fun (a2 : Unit) => bnd (S94 k (x.1, (⟨#[47]⟩ : ByteArray), ())) (fun (a3 : (List ByteArray)) => loopN k (fun (a4 : (Int → (Option Bool))) (a5 : Int) => cnd (ilt a5 (len a3)) (bnd (at? a3 a5) (fun (a6 : ByteArray) => bnd (S101 k (a6, ())) (fun (a7 : Bool) => cnd (bnot a7) (some false) (a4 (iadd Go.IntKind.i64 a5 1))))) (some true)) 0))
def F59 : Fn := ⟨[.val (.str)], [.val (.bool)], S59⟩
def Γ59 : Ctx := ⟨alookup tys, alookup [(94, F94), (101, F101)], [(4, [16], [])], [(4, [14])], [], [], [14], eqs, [(3, [], [], [], [])], [], alookup [], alookup [], alookup []⟩
theorem e59 (k : Nat) (x : PT [.val (.str)]) : S59 k x = runFn Γ59 k [.val (.str)] [.val (.bool)] Tryz.f59.ntmps Tryz.f59.results.toList (Tryz.f59.body.getD .skip) x := by kernel_rfl
theorem c59 : CtxOK Tryz.prog JS Γ59 := ⟨tysOK.get, AllL.get (l := [(94, F94), (101, F101)]) ⟨ok94, ok101, trivial⟩, by kernel_rfl, eqsOK, AllL.get (l := []) trivial, AllL.get (l := []) trivial, AllL.get (l := []) trivial⟩
theorem ok59 : FnOK Tryz.prog JS 59 F59 := fnOK_of c59 (fn := Tryz.f59) (c := Tryz.f59.body.getD .skip) rfl rfl rfl (by decide) e59
/-- internal/stringslite.HasPrefix -/
def S127 (k : Nat) (x : PT [.val (.str), .val (.str)]) : Option (OT [.val (.bool)]) :=
cnd (ige (ssz x.1) (ssz x.2.1)) (bnd (sub? x.1 0 (ssz x.2.1)) (fun (a2 : ByteArray) => some (seq a2 x.2.1))) (some false)
def F127 : Fn := ⟨[.val (.str), .val (.str)], [.val (.bool)], S127⟩
def Γ127 : Ctx := ⟨alookup tys, alookup [], [], [], [], [], [], eqs, [], [], alookup [], alookup [], alookup []⟩
theorem e127 (k : Nat) (x : PT [.val (.str), .val (.str)]) : S127 k x = runFn Γ127 k [.val (.str), .val (.str)] [.val (.bool)] Tryz.f127.ntmps Tryz.f127.results.toList (Tryz.f127.body.getD .skip) x := by kernel_rfl
theorem c127 : CtxOK Tryz.prog JS Γ127 := ⟨tysOK.get, AllL.get (l := []) trivial, by kernel_rfl, eqsOK, AllL.get (l := []) trivial, AllL.get (l := []) trivial, AllL.get (l := []) trivial⟩
theorem ok127 : FnOK Tryz.prog JS 127 F127 := fnOK_of c127 (fn := Tryz.f127) (c := Tryz.f127.body.getD .skip) rfl rfl rfl (by decide) e127
/-- internal/stringslite.CutPrefix -/
def S102 (k : Nat) (x : PT [.val (.str), .val (.str)]) : Option (OT [.val (.str), .val (.bool)]) :=
bnd (S127 k (x.1, x.2.1, ())) (fun (a2 : Bool) => cnd (bnot a2) (some (x.1, false)) (bnd (sub? x.1 (ssz x.2.1) (ssz x.1)) (fun (a3 : ByteArray) => some (a3, true))))
def F102 : Fn := ⟨[.val (.str), .val (.str)], [.val (.str), .val (.bool)], S102⟩
def Γ102 : Ctx := ⟨alookup tys, alookup [(127, F127)], [], [], [], [], [], eqs, [], [], alookup [], alookup [], alookup []⟩
theorem e102 (k : Nat) (x : PT [.val (.str), .val (.str)]) : S102 k x = runFn Γ102 k [.val (.str), .val (.str)] [.val (.str), .val (.bool)] Tryz.f102.ntmps Tryz.f102.results.toList (Tryz.f102.body.getD .skip) x := by kernel_rfl
theorem c102 : CtxOK Tryz.prog JS Γ102 := ⟨tysOK.get, AllL.get (l := [(127, F127)]) ⟨ok127, trivial⟩, by kernel_rfl, eqsOK, AllL.get (l := []) trivial, AllL.get (l := []) trivial, AllL.get (l := []) trivial⟩
theorem ok102 : FnOK Tryz.prog JS 102 F102 := fnOK_of c102 (fn := Tryz.f102) (c := Tryz.f102.body.getD .skip) rfl rfl rfl (by decide) e102
/-- strings.CutPrefix -/
def S60 (k : Nat) (x : PT [.val (.str), .val (.str)]) : Option (OT [.val (.str), .val (.bool)]) :=
bnd (S102 k (x.1, x.2.1, ())) (fun (a2 : (ByteArray × Bool)) => some (a2.1, a2.2))
def F60 : Fn := ⟨[.val (.str), .val (.str)], [.val (.str), .val (.bool)], S60⟩
def Γ60 : Ctx := ⟨alookup tys, alookup [(102, F102)], [], [], [], [], [], eqs, [], [], alookup [], alookup [], alookup []⟩
theorem e60 (k : Nat) (x : PT [.val (.str), .val (.str)]) : S60 k x = runFn Γ60 k [.val (.str), .val (.str)] [.val (.str), .val (.bool)] Tryz.f60.ntmps Tryz.f60.results.toList (Tryz.f60.body.getD .skip) x := by kernel_rfl
theorem c60 : CtxOK Tryz.prog JS Γ60 := ⟨tysOK.get, AllL.get (l := [(102, F102)]) ⟨ok102, trivial⟩, by kernel_rfl, eqsOK, AllL.get (l := []) trivial, AllL.get (l := []) trivial, AllL.get (l := []) trivial⟩
theorem ok60 : FnOK Tryz.prog JS 60 F60 := fnOK_of c60 (fn := Tryz.f60) (c := Tryz.f60.body.getD .skip) rfl rfl rfl (by decide) e60
/-- internal/bytealg.LastIndexByteString -/
def S129 (k : Nat) (x : PT [.val (.str), .val (.int .u8)]) : Option (OT [.val (.int .i64)]) :=
loopN k (fun (a2 : (Int → (Option Int))) (a3 : Int) => cnd (ige a3 0) (bnd (bt? x.1 a3) (fun (a4 : Int) => cnd (ieq a4 x.2.1) (some a3) (a2 (isub Go.IntKind.i64 a3 1)))) (some (-1))) (isub Go.IntKind.i64 (ssz x.1) 1)
def F129 : Fn := ⟨[.val (.str), .val (.int .u8)], [.val (.int .i64)], S129⟩
def Γ129 : Ctx := ⟨alookup tys, alookup [], [(2, [5], [])], [], [], [], [], eqs, [], [], alookup [], alookup [], alookup []⟩
theorem e129 (k : Nat) (x : PT [.val (.str), .val (.int .u8)]) : S129 k x = runFn Γ129 k [.val (.str), .val (.int .u8)] [.val (.int .i64)] Tryz.f129.ntmps Tryz.f129.results.toList (Tryz.f129.body.getD .skip) x := by kernel_rfl
theorem c129 : CtxOK Tryz.prog JS Γ129 := ⟨tysOK.get, AllL.get (l := []) trivial, by kernel_rfl, eqsOK, AllL.get (l := []) trivial, AllL.get (l := []) trivial, AllL.get (l := []) trivial⟩
theorem ok129 : FnOK Tryz.prog JS 129 F129 := fnOK_of c129 (fn := Tryz.f129) (c := Tryz.f129.body.getD .skip) rfl rfl rfl (by decide) e129
/-- strings.LastIndexByte -/
def S104 (k : Nat) (x : PT [.val (.str), .val (.int .u8)]) : Option (OT [.val (.int .i64)]) :=
bnd (S129 k (x.1, x.2.1, ())) (fun (a2 : Int) => some a2)
def F104 : Fn := ⟨[.val (.str), .val (.int .u8)], [.val (.int .i64)], S104⟩
def Γ104 : Ctx := ⟨alookup tys, alookup [(129, F129)], [], [], [], [], [], eqs, [], [], alookup [], alookup [], alookup []⟩
theorem e104 (k : Nat) (x : PT [.val (.str), .val (.int .u8)]) : S104 k x = runFn Γ104 k [.val (.str), .val (.int .u8)] [.val (.int .i64)] Tryz.f104.ntmps Tryz.f104.results.toList (Tryz.f104.body.getD .skip) x := by kernel_rfl
theorem c104 : CtxOK Tryz.prog JS Γ104 := ⟨tysOK.get, AllL.get (l := [(129, F129)]) ⟨ok129, trivial⟩, by kernel_rfl, eqsOK, AllL.get (l := []) trivial, AllL.get (l := []) trivial, AllL.get (l := []) trivial⟩
theorem ok104 : FnOK Tryz.prog JS 104 F104 := fnOK_of c104 (fn := Tryz.f104) (c := Tryz.f104.body.getD .skip) rfl rfl rfl (by decide) e104
/-- smithyard/script.last -/
def S62 (k : Nat) (x : PT [.val (.str)]) : Option (OT [.val (.str)]) :=
bnd (S104 k (x.1, 47, ())) (fun (a2 : Int) => bnd (sub? x.1 (iadd Go.IntKind.i64 a2 1) (ssz x.1)) (fun (a3 : ByteArray) => some a3))
def F62 : Fn := ⟨[.val (.str)], [.val (.str)], S62⟩
def Γ62 : Ctx := ⟨alookup tys, alookup [(104, F104)], [], [], [], [], [], eqs, [], [], alookup [], alookup [], alookup []⟩
theorem e62 (k : Nat) (x : PT [.val (.str)]) : S62 k x = runFn Γ62 k [.val (.str)] [.val (.str)] Tryz.f62.ntmps Tryz.f62.results.toList (Tryz.f62.body.getD .skip) x := by kernel_rfl
theorem c62 : CtxOK Tryz.prog JS Γ62 := ⟨tysOK.get, AllL.get (l := [(104, F104)]) ⟨ok104, trivial⟩, by kernel_rfl, eqsOK, AllL.get (l := []) trivial, AllL.get (l := []) trivial, AllL.get (l := []) trivial⟩
theorem ok62 : FnOK Tryz.prog JS 62 F62 := fnOK_of c62 (fn := Tryz.f62) (c := Tryz.f62.body.getD .skip) rfl rfl rfl (by decide) e62
/-- smithyard/script.CheckLabel -/
def S28 (k : Nat) (x : PT [.val (.agg (.pair (.str) (.str)))]) : Option (OT [.val (.int .i64)]) :=
cnd (sne x.1.1 (⟨#[]⟩ : ByteArray)) (bnd (S59 k (x.1.1, ())) (fun (a2 : Bool) => cnd (bnot a2) (some 3) (bnd (S59 k (x.1.2, ())) (fun (a3 : Bool) => cnd (bnot a3) (some 3) (some 0))))) (bnd (S59 k (x.1.2, ())) (fun (a2 : Bool) => cnd (bnot a2) (some 3) (some 0)))
def F28 : Fn := ⟨[.val (.agg (.pair (.str) (.str)))], [.val (.int .i64)], S28⟩
def Γ28 : Ctx := ⟨alookup tys, alookup [(59, F59)], [], [], [], [], [], eqs, [], [], alookup [], alookup [], alookup []⟩
theorem e28 (k : Nat) (x : PT [.val (.agg (.pair (.str) (.str)))]) : S28 k x = runFn Γ28 k [.val (.agg (.pair (.str) (.str)))] [.val (.int .i64)] Tryz.f28.ntmps Tryz.f28.results.toList (Tryz.f28.body.getD .skip) x := by kernel_rfl
theorem c28 : CtxOK Tryz.prog JS Γ28 := ⟨tysOK.get, AllL.get (l := [(59, F59)]) ⟨ok59, trivial⟩, by kernel_rfl, eqsOK, AllL.get (l := []) trivial, AllL.get (l := []) trivial, AllL.get (l := []) trivial⟩
theorem ok28 : FnOK Tryz.prog JS 28 F28 := fnOK_of c28 (fn := Tryz.f28) (c := Tryz.f28.body.getD .skip) rfl rfl rfl (by decide) e28
/-- smithyard/script.ReadLabel -/
def S26 (k : Nat) (x : PT [.val (.str), .val (.str)]) : Option (OT [.val (.agg (.pair (.str) (.str))), .val (.int .i64)]) :=
jn (fun (a2 : ((ByteArray × ByteArray) → (Option ((ByteArray × ByteArray) × Int)))) => cnd (sne x.2.1 (⟨#[]⟩ : ByteArray)) (bnd (S59 k (x.2.1, ())) (fun (a3 : Bool) => cnd (bnot a3) (some (((⟨#[]⟩ : ByteArray), (⟨#[]⟩ : ByteArray)), 3)) (a2 ((⟨#[]⟩ : ByteArray), (⟨#[]⟩ : ByteArray))))) (a2 ((⟨#[]⟩ : ByteArray), (⟨#[]⟩ : ByteArray)))) (fun (a2 : (ByteArray × ByteArray)) => bnd (S60 k (x.1, (⟨#[47, 47]⟩ : ByteArray), ())) (fun (a3 : (ByteArray × Bool)) => bnd (S60 k (x.1, (⟨#[58]⟩ : ByteArray), ())) (fun (a4 : (ByteArray × Bool)) => jn (fun (a5 : ((ByteArray × ByteArray) → (Option ((ByteArray × ByteArray) × Int)))) => cnd a3.2 (bnd (S61 k (a3.1, (⟨#[58]⟩ : ByteArray), ())) (fun (a6 : (ByteArray × (ByteArray × Bool))) => cnd (bnot a6.2.2) (bnd (S62 k (a6.1, ())) (fun (a7 : ByteArray) => a5 (a6.1, a7))) (a5 (a6.1, a6.2.1)))) (cnd a4.2 (a5 (x.2.1, a4.1)) (a5 ((⟨#[]⟩ : ByteArray), (⟨#[]⟩ : ByteArray))))) (fun (a5 : (ByteArray × ByteArray)) => bnd (S28 k ((a5.1, a5.2), ())) (fun (a6 : Int) => cnd (ine a6 0) (some (((⟨#[]⟩ : ByteArray), (⟨#[]⟩ : ByteArray)), 10)) (some ((a5.1, a5.2), 0)))))))
def F26 : Fn := ⟨[.val (.str), .val (.str)], [.val (.agg (.pair (.str) (.str))), .val (.int .i64)], S26⟩
def Γ26 : Ctx := ⟨alookup tys, alookup [(59, F59), (60, F60), (61, F61), (62, F62), (28, F28)], [], [], [], [], [], eqs, [(13, [], [], [], [6]), (3, [], [], [], [4])], [], alookup [], alookup [], alookup []⟩
theorem e26 (k : Nat) (x : PT [.val (.str), .val (.str)]) : S26 k x = runFn Γ26 k [.val (.str), .val (.str)] [.val (.agg (.pair (.str) (.str))), .val (.int .i64)] Tryz.f26.ntmps Tryz.f26.results.toList (Tryz.f26.body.getD .skip) x := by kernel_rfl
theorem c26 : CtxOK Tryz.prog JS Γ26 := ⟨tysOK.get, AllL.get (l := [(59, F59), (60, F60), (61, F61), (62, F62), (28, F28)]) ⟨ok59, ok60, ok61, ok62, ok28, trivial⟩, by kernel_rfl, eqsOK, AllL.get (l := []) trivial, AllL.get (l := []) trivial, AllL.get (l := []) trivial⟩
theorem ok26 : FnOK Tryz.prog JS 26 F26 := fnOK_of c26 (fn := Tryz.f26) (c := Tryz.f26.body.getD .skip) rfl rfl rfl (by decide) e26
/-- smithyard/smithyardref2.isPart -/
def S105 (k : Nat) (x : PT [.val (.str)]) : Option (OT [.val (.bool)]) :=
loopN k (fun (a2 : (Int → (Option Bool))) (a3 : Int) => cnd (ilt a3 (ssz x.1)) (bnd (bt? x.1 a3) (fun (a4 : Int) => jn (fun (a5 : (Bool → (Option Bool))) => cnd (ilt a4 97) (cnd (ilt a4 65) (cnd (ilt a4 48) (bnd (S130 k ((⟨#[46, 95, 45, 43]⟩ : ByteArray), a4, ())) (fun (a6 : Int) => a5 (ilt a6 0))) (cnd (igt a4 57) (bnd (S130 k ((⟨#[46, 95, 45, 43]⟩ : ByteArray), a4, ())) (fun (a6 : Int) => a5 (ilt a6 0))) (a5 false))) (cnd (igt a4 90) (cnd (ilt a4 48) (bnd (S130 k ((⟨#[46, 95, 45, 43]⟩ : ByteArray), a4, ())) (fun (a6 : Int) => a5 (ilt a6 0))) (cnd (igt a4 57) (bnd (S130 k ((⟨#[46, 95, 45, 43]⟩ : ByteArray), a4, ())) (fun (a6 : Int) => a5 (ilt a6 0))) (a5 false))) (a5 false))) (cnd (igt a4 122) (cnd (ilt a4 65) (cnd (ilt a4 48) (bnd (S130 k ((⟨#[46, 95, 45, 43]⟩ : ByteArray), a4, ())) (fun (a6 : Int) => a5 (ilt a6 0))) (cnd (igt a4 57) (bnd (S130 k ((⟨#[46, 95, 45, 43]⟩ : ByteArray), a4, ())) (fun (a6 : Int) => a5 (ilt a6 0))) (a5 false))) (cnd (igt a4 90) (cnd (ilt a4 48) (bnd (S130 k ((⟨#[46, 95, 45, 43]⟩ : ByteArray), a4, ())) (fun (a6 : Int) => a5 (ilt a6 0))) (cnd (igt a4 57) (bnd (S130 k ((⟨#[46, 95, 45, 43]⟩ : ByteArray), a4, ())) (fun (a6 : Int) => a5 (ilt a6 0))) (a5 false))) (a5 false))) (a5 false))) (fun (a5 : Bool) => cnd a5 (some false) (a2 (iadd Go.IntKind.i64 a3 1))))) (cnd (sne x.1 (⟨#[]⟩ : ByteArray)) (cnd (sne x.1 (⟨#[46]⟩ : ByteArray)) (some (sne x.1 (⟨#[46, 46]⟩ : ByteArray))) (some false)) (some false))) 0
def F105 : Fn := ⟨[.val (.str)], [.val (.bool)], S105⟩
def Γ105 : Ctx := ⟨alookup tys, alookup [(130, F130)], [(2, [7], [])], [], [], [], [], eqs, [(6, [], [39], [.val (.bool)], [])], [], alookup [], alookup [], alookup []⟩
theorem e105 (k : Nat) (x : PT [.val (.str)]) : S105 k x = runFn Γ105 k [.val (.str)] [.val (.bool)] Tryz.f105.ntmps Tryz.f105.results.toList (Tryz.f105.body.getD .skip) x := by kernel_rfl
theorem c105 : CtxOK Tryz.prog JS Γ105 := ⟨tysOK.get, AllL.get (l := [(130, F130)]) ⟨ok130, trivial⟩, by kernel_rfl, eqsOK, AllL.get (l := []) trivial, AllL.get (l := []) trivial, AllL.get (l := []) trivial⟩
theorem ok105 : FnOK Tryz.prog JS 105 F105 := fnOK_of c105 (fn := Tryz.f105) (c := Tryz.f105.body.getD .skip) rfl rfl rfl (by decide) e105
/-- smithyard/smithyardref2.within -/
def S43 (k : Nat) (x : PT [.val (.int .i64), .val (.int .i64), .val (.int .i64)]) : Option (OT [.val (.bool)]) :=
cnd (ile x.2.1 x.1) (some (ile x.1 x.2.2.1)) (some false)
def F43 : Fn := ⟨[.val (.int .i64), .val (.int .i64), .val (.int .i64)], [.val (.bool)], S43⟩
def Γ43 : Ctx := ⟨alookup tys, alookup [], [], [], [], [], [], eqs, [], [], alookup [], alookup [], alookup []⟩
theorem e43 (k : Nat) (x : PT [.val (.int .i64), .val (.int .i64), .val (.int .i64)]) : S43 k x = runFn Γ43 k [.val (.int .i64), .val (.int .i64), .val (.int .i64)] [.val (.bool)] Tryz.f43.ntmps Tryz.f43.results.toList (Tryz.f43.body.getD .skip) x := by kernel_rfl
theorem c43 : CtxOK Tryz.prog JS Γ43 := ⟨tysOK.get, AllL.get (l := []) trivial, by kernel_rfl, eqsOK, AllL.get (l := []) trivial, AllL.get (l := []) trivial, AllL.get (l := []) trivial⟩
theorem ok43 : FnOK Tryz.prog JS 43 F43 := fnOK_of c43 (fn := Tryz.f43) (c := Tryz.f43.body.getD .skip) rfl rfl rfl (by decide) e43
/-- smithyard/smithyardref2.IsPath -/
def S64 (k : Nat) (x : PT [.val (.str)]) : Option (OT [.val (.bool)]) :=
bnd (S94 k (x.1, (⟨#[47]⟩ : ByteArray), ())) (fun (a2 : (List ByteArray)) => loopN k (fun (a3 : (Int → (Option Bool))) (a4 : Int) => cnd (ilt a4 (len a2)) (bnd (at? a2 a4) (fun (a5 : ByteArray) => bnd (S105 k (a5, ())) (fun (a6 : Bool) => cnd (bnot a6) (some false) (a3 (iadd Go.IntKind.i64 a4 1))))) (bnd (S43 k (ssz x.1, 1, 200, ())) (fun (a5 : Bool) => some a5))) 0)
def F64 : Fn := ⟨[.val (.str)], [.val (.bool)], S64⟩
def Γ64 : Ctx := ⟨alookup tys, alookup [(94, F94), (105, F105), (43, F43)], [(2, [8], [])], [(2, [6])], [], [], [6], eqs, [], [], alookup [], alookup [], alookup []⟩
theorem e64 (k : Nat) (x : PT [.val (.str)]) : S64 k x = runFn Γ64 k [.val (.str)] [.val (.bool)] Tryz.f64.ntmps Tryz.f64.results.toList (Tryz.f64.body.getD .skip) x := by kernel_rfl
theorem c64 : CtxOK Tryz.prog JS Γ64 := ⟨tysOK.get, AllL.get (l := [(94, F94), (105, F105), (43, F43)]) ⟨ok94, ok105, ok43, trivial⟩, by kernel_rfl, eqsOK, AllL.get (l := []) trivial, AllL.get (l := []) trivial, AllL.get (l := []) trivial⟩
theorem ok64 : FnOK Tryz.prog JS 64 F64 := fnOK_of c64 (fn := Tryz.f64) (c := Tryz.f64.body.getD .skip) rfl rfl rfl (by decide) e64
/-- smithyard/smithyardref2.isPkg -/
def S55 (k : Nat) (x : PT [.val (.str)]) : Option (OT [.val (.bool)]) :=
cnd (seq x.1 (⟨#[]⟩ : ByteArray)) (some true) (bnd (S64 k (x.1, ())) (fun (a2 : Bool) => some a2))
def F55 : Fn := ⟨[.val (.str)], [.val (.bool)], S55⟩
def Γ55 : Ctx := ⟨alookup tys, alookup [(64, F64)], [], [], [], [], [], eqs, [], [], alookup [], alookup [], alookup []⟩
theorem e55 (k : Nat) (x : PT [.val (.str)]) : S55 k x = runFn Γ55 k [.val (.str)] [.val (.bool)] Tryz.f55.ntmps Tryz.f55.results.toList (Tryz.f55.body.getD .skip) x := by kernel_rfl
theorem c55 : CtxOK Tryz.prog JS Γ55 := ⟨tysOK.get, AllL.get (l := [(64, F64)]) ⟨ok64, trivial⟩, by kernel_rfl, eqsOK, AllL.get (l := []) trivial, AllL.get (l := []) trivial, AllL.get (l := []) trivial⟩
theorem ok55 : FnOK Tryz.prog JS 55 F55 := fnOK_of c55 (fn := Tryz.f55) (c := Tryz.f55.body.getD .skip) rfl rfl rfl (by decide) e55
/-- smithyard/smithyardref2.last -/
def S63 (k : Nat) (x : PT [.val (.str)]) : Option (OT [.val (.str)]) :=
bnd (S104 k (x.1, 47, ())) (fun (a2 : Int) => bnd (sub? x.1 (iadd Go.IntKind.i64 a2 1) (ssz x.1)) (fun (a3 : ByteArray) => some a3))
def F63 : Fn := ⟨[.val (.str)], [.val (.str)], S63⟩
def Γ63 : Ctx := ⟨alookup tys, alookup [(104, F104)], [], [], [], [], [], eqs, [], [], alookup [], alookup [], alookup []⟩
theorem e63 (k : Nat) (x : PT [.val (.str)]) : S63 k x = runFn Γ63 k [.val (.str)] [.val (.str)] Tryz.f63.ntmps Tryz.f63.results.toList (Tryz.f63.body.getD .skip) x := by kernel_rfl
theorem c63 : CtxOK Tryz.prog JS Γ63 := ⟨tysOK.get, AllL.get (l := [(104, F104)]) ⟨ok104, trivial⟩, by kernel_rfl, eqsOK, AllL.get (l := []) trivial, AllL.get (l := []) trivial, AllL.get (l := []) trivial⟩
theorem ok63 : FnOK Tryz.prog JS 63 F63 := fnOK_of c63 (fn := Tryz.f63) (c := Tryz.f63.body.getD .skip) rfl rfl rfl (by decide) e63
/-- smithyard/smithyardref2.CheckLabel -/
def S29 (k : Nat) (x : PT [.val (.agg (.pair (.str) (.str)))]) : Option (OT [.val (.int .i64)]) :=
bnd (S55 k (x.1.1, ())) (fun (a2 : Bool) => cnd (bnot a2) (some 3) (bnd (S64 k (x.1.2, ())) (fun (a3 : Bool) => cnd (bnot a3) (some 3) (some 0))))
def F29 : Fn := ⟨[.val (.agg (.pair (.str) (.str)))], [.val (.int .i64)], S29⟩
def Γ29 : Ctx := ⟨alookup tys, alookup [(55, F55), (64, F64)], [], [], [], [], [], eqs, [], [], alookup [], alookup [], alookup []⟩
theorem e29 (k : Nat) (x : PT [.val (.agg (.pair (.str) (.str)))]) : S29 k x = runFn Γ29 k [.val (.agg (.pair (.str) (.str)))] [.val (.int .i64)] Tryz.f29.ntmps Tryz.f29.results.toList (Tryz.f29.body.getD .skip) x := by kernel_rfl
theorem c29 : CtxOK Tryz.prog JS Γ29 := ⟨tysOK.get, AllL.get (l := [(55, F55), (64, F64)]) ⟨ok55, ok64, trivial⟩, by kernel_rfl, eqsOK, AllL.get (l := []) trivial, AllL.get (l := []) trivial, AllL.get (l := []) trivial⟩
theorem ok29 : FnOK Tryz.prog JS 29 F29 := fnOK_of c29 (fn := Tryz.f29) (c := Tryz.f29.body.getD .skip) rfl rfl rfl (by decide) e29
/-- smithyard/smithyardref2.ReadLabel -/
def S27 (k : Nat) (x : PT [.val (.str), .val (.str)]) : Option (OT [.val (.agg (.pair (.str) (.str))), .val (.int .i64)]) :=
bnd (S55 k (x.2.1, ())) (fun (a2 : Bool) => cnd (bnot a2) (some (((⟨#[]⟩ : ByteArray), (⟨#[]⟩ : ByteArray)), 3)) (bnd (S61 k (x.1, (⟨#[58]⟩ : ByteArray), ())) (fun (a3 : (ByteArray × (ByteArray × Bool))) => bnd (S60 k (a3.1, (⟨#[47, 47]⟩ : ByteArray), ())) (fun (a4 : (ByteArray × Bool)) => jn (fun (a5 : ((ByteArray × (ByteArray × (ByteArray × ByteArray))) → (Option ((ByteArray × ByteArray) × Int)))) => jn (fun (a6 : (Bool → (Option ((ByteArray × ByteArray) × Int)))) => cnd a3.2.2 (a6 (seq a3.1 (⟨#[]⟩ : ByteArray))) (a6 false)) (fun (a6 : Bool) => cnd a6 (a5 (x.2.1, a3.2.1, (⟨#[]⟩ : ByteArray), (⟨#[]⟩ : ByteArray))) (jn (fun (a7 : (Bool → (Option ((ByteArray × ByteArray) × Int)))) => cnd a3.2.2 (a7 a4.2) (a7 false)) (fun (a7 : Bool) => cnd a7 (a5 (a4.1, a3.2.1, (⟨#[]⟩ : ByteArray), (⟨#[]⟩ : ByteArray))) (cnd a4.2 (cnd (sne a4.1 (⟨#[]⟩ : ByteArray)) (bnd (S63 k (a4.1, ())) (fun (a8 : ByteArray) => a5 (a4.1, a8, (⟨#[]⟩ : ByteArray), (⟨#[]⟩ : ByteArray)))) (some (((⟨#[]⟩ : ByteArray), (⟨#[]⟩ : ByteArray)), 10))) (some (((⟨#[]⟩ : ByteArray), (⟨#[]⟩ : ByteArray)), 10))))))) (fun (a5 : (ByteArray × (ByteArray × (ByteArray × ByteArray)))) => bnd (S29 k ((a5.1, a5.2.1), ())) (fun (a6 : Int) => cnd (ine a6 0) (some (((⟨#[]⟩ : ByteArray), (⟨#[]⟩ : ByteArray)), 10)) (some ((a5.1, a5.2.1), 0))))))))
def F27 : Fn := ⟨[.val (.str), .val (.str)], [.val (.agg (.pair (.str) (.str))), .val (.int .i64)], S27⟩
def Γ27 : Ctx := ⟨alookup tys, alookup [(55, F55), (61, F61), (60, F60), (63, F63), (29, F29)], [], [], [], [], [], eqs, [(10, [], [38], [.val (.bool)], []), (8, [], [30], [.val (.bool)], []), (13, [], [], [], [6, 4])], [], alookup [], alookup [], alookup []⟩
theorem e27 (k : Nat) (x : PT [.val (.str), .val (.str)]) : S27 k x = runFn Γ27 k [.val (.str), .val (.str)] [.val (.agg (.pair (.str) (.str))), .val (.int .i64)] Tryz.f27.ntmps Tryz.f27.results.toList (Tryz.f27.body.getD .skip) x := by kernel_rfl
theorem c27 : CtxOK Tryz.prog JS Γ27 := ⟨tysOK.get, AllL.get (l := [(55, F55), (61, F61), (60, F60), (63, F63), (29, F29)]) ⟨ok55, ok61, ok60, ok63, ok29, trivial⟩, by kernel_rfl, eqsOK, AllL.get (l := []) trivial, AllL.get (l := []) trivial, AllL.get (l := []) trivial⟩
theorem ok27 : FnOK Tryz.prog JS 27 F27 := fnOK_of c27 (fn := Tryz.f27) (c := Tryz.f27.body.getD .skip) rfl rfl rfl (by decide) e27
/-- smithyard/script.Whole -/
def S65 (k : Nat) (x : PT [.val (.agg (.pair (.str) (.str)))]) : Option (OT [.val (.str)]) :=
bnd (cat? (⟨#[47, 47]⟩ : ByteArray) x.1.1) (fun (a2 : ByteArray) => bnd (cat? a2 (⟨#[58]⟩ : ByteArray)) (fun (a3 : ByteArray) => bnd (cat? a3 x.1.2) (fun (a4 : ByteArray) => some a4)))
def F65 : Fn := ⟨[.val (.agg (.pair (.str) (.str)))], [.val (.str)], S65⟩
def Γ65 : Ctx := ⟨alookup tys, alookup [], [], [], [], [], [], eqs, [], [], alookup [], alookup [], alookup []⟩
theorem e65 (k : Nat) (x : PT [.val (.agg (.pair (.str) (.str)))]) : S65 k x = runFn Γ65 k [.val (.agg (.pair (.str) (.str)))] [.val (.str)] Tryz.f65.ntmps Tryz.f65.results.toList (Tryz.f65.body.getD .skip) x := by kernel_rfl
theorem c65 : CtxOK Tryz.prog JS Γ65 := ⟨tysOK.get, AllL.get (l := []) trivial, by kernel_rfl, eqsOK, AllL.get (l := []) trivial, AllL.get (l := []) trivial, AllL.get (l := []) trivial⟩
theorem ok65 : FnOK Tryz.prog JS 65 F65 := fnOK_of c65 (fn := Tryz.f65) (c := Tryz.f65.body.getD .skip) rfl rfl rfl (by decide) e65
/-- smithyard/script.LabelText -/
def S30 (k : Nat) (x : PT [.val (.agg (.pair (.str) (.str))), .val (.str)]) : Option (OT [.val (.str), .val (.int .i64)]) :=
bnd (S28 k ((x.1.1, x.1.2), ())) (fun (a2 : Int) => cnd (ine a2 0) (some ((⟨#[]⟩ : ByteArray), a2)) (jn (fun (a3 : (Unit → (Option (ByteArray × Int)))) => cnd (sne x.2.1 (⟨#[]⟩ : ByteArray)) (bnd (S59 k (x.2.1, ())) (fun (a4 : Bool) => cnd (bnot a4) (some ((⟨#[]⟩ : ByteArray), 3)) (a3 ()))) (a3 ())) (fun (a3 : Unit) => cnd (seq x.1.1 x.2.1) (bnd (cat? (⟨#[58]⟩ : ByteArray) x.1.2) (fun (a4 : ByteArray) => some (a4, 0))) (cnd (sne x.1.1 (⟨#[]⟩ : ByteArray)) (bnd (S62 k (x.1.1, ())) (fun (a4 : ByteArray) => cnd (seq a4 x.1.2) (bnd (cat? (⟨#[47, 47]⟩ : ByteArray) x.1.1) (fun (a5 : ByteArray) => some (a5, 0))) (bnd (S65 k ((x.1.1, x.1.2), ())) (fun (a5 : ByteArray) => some (a5, 0))))) (bnd (S65 k ((x.1.1, x.1.2), ())) (fun (a4 : ByteArray) => some (a4, 0)))))))
def F30 : Fn := ⟨[.val (.agg (.pair (.str) (.str))), .val (.str)], [.val (.str), .val (.int .i64)], S30⟩
def Γ30 : Ctx := ⟨alookup tys, alookup [(28, F28), (59, F59), (62, F62), (65, F65)], [], [], [(8, 9)], [], [], eqs, [(6, [], [], [], [])], [], alookup [], alookup [], alookup []⟩
theorem e30 (k : Nat) (x : PT [.val (.agg (.pair (.str) (.str))), .val (.str)]) : S30 k x = runFn Γ30 k [.val (.agg (.pair (.str) (.str))), .val (.str)] [.val (.str), .val (.int .i64)] Tryz.f30.ntmps Tryz.f30.results.toList (Tryz.f30.body.getD .skip) x := by kernel_rfl
theorem c30 : CtxOK Tryz.prog JS Γ30 := ⟨tysOK.get, AllL.get (l := [(28, F28), (59, F59), (62, F62), (65, F65)]) ⟨ok28, ok59, ok62, ok65, trivial⟩, by kernel_rfl, eqsOK, AllL.get (l := []) trivial, AllL.get (l := []) trivial, AllL.get (l := []) trivial⟩
theorem ok30 : FnOK Tryz.prog JS 30 F30 := fnOK_of c30 (fn := Tryz.f30) (c := Tryz.f30.body.getD .skip) rfl rfl rfl (by decide) e30
/-- smithyard/smithyardref2.LabelText -/
def S31 (k : Nat) (x : PT [.val (.agg (.pair (.str) (.str))), .val (.str)]) : Option (OT [.val (.str), .val (.int .i64)]) :=
bnd (S29 k ((x.1.1, x.1.2), ())) (fun (a2 : Int) => cnd (ine a2 0) (some ((⟨#[]⟩ : ByteArray), a2)) (bnd (S55 k (x.2.1, ())) (fun (a3 : Bool) => cnd (bnot a3) (some ((⟨#[]⟩ : ByteArray), 3)) (cnd (seq x.1.1 x.2.1) (bnd (cat? (⟨#[58]⟩ : ByteArray) x.1.2) (fun (a4 : ByteArray) => some (a4, 0))) (cnd (sne x.1.1 (⟨#[]⟩ : ByteArray)) (bnd (S63 k (x.1.1, ())) (fun (a4 : ByteArray) => cnd (seq a4 x.1.2) (bnd (cat? (⟨#[47, 47]⟩ : ByteArray) x.1.1) (fun (a5 : ByteArray) => some (a5, 0))) (bnd (cat? (⟨#[47, 47]⟩ : ByteArray) x.1.1) (fun (a5 : ByteArray) => bnd (cat? a5 (⟨#[58]⟩ : ByteArray)) (fun (a6 : ByteArray) => bnd (cat? a6 x.1.2) (fun (a7 : ByteArray) => some (a7, 0))))))) (bnd (cat? (⟨#[47, 47]⟩ : ByteArray) x.1.1) (fun (a4 : ByteArray) => bnd (cat? a4 (⟨#[58]⟩ : ByteArray)) (fun (a5 : ByteArray) => bnd (cat? a5 x.1.2) (fun (a6 : ByteArray) => some (a6, 0))))))))))
def F31 : Fn := ⟨[.val (.agg (.pair (.str) (.str))), .val (.str)], [.val (.str), .val (.int .i64)], S31⟩
def Γ31 : Ctx := ⟨alookup tys, alookup [(29, F29), (55, F55), (63, F63)], [], [], [(8, 9)], [], [], eqs, [], [], alookup [], alookup [], alookup []⟩
theorem e31 (k : Nat) (x : PT [.val (.agg (.pair (.str) (.str))), .val (.str)]) : S31 k x = runFn Γ31 k [.val (.agg (.pair (.str) (.str))), .val (.str)] [.val (.str), .val (.int .i64)] Tryz.f31.ntmps Tryz.f31.results.toList (Tryz.f31.body.getD .skip) x := by kernel_rfl
theorem c31 : CtxOK Tryz.prog JS Γ31 := ⟨tysOK.get, AllL.get (l := [(29, F29), (55, F55), (63, F63)]) ⟨ok29, ok55, ok63, trivial⟩, by kernel_rfl, eqsOK, AllL.get (l := []) trivial, AllL.get (l := []) trivial, AllL.get (l := []) trivial⟩
theorem ok31 : FnOK Tryz.prog JS 31 F31 := fnOK_of c31 (fn := Tryz.f31) (c := Tryz.f31.body.getD .skip) rfl rfl rfl (by decide) e31
/-- smithyard/smithyardlaw2.ScriptLabelsMatchSpec -/
def S6 (k : Nat) (x : PT [.val (.agg (.pair (.str) (.str))), .val (.str), .val (.str)]) : Option (OT [.val (.bool)]) :=
bnd (S26 k (x.2.1, x.2.2.1, ())) (fun (a2 : ((ByteArray × ByteArray) × Int)) => bnd (S27 k (x.2.1, x.2.2.1, ())) (fun (a3 : ((ByteArray × ByteArray) × Int)) => jn (fun (a4 : (Unit → (Option Bool))) => bnd (S28 k ((x.1.1, x.1.2), ())) (fun (a5 : Int) => bnd (S29 k ((x.1.1, x.1.2), ())) (fun (a6 : Int) => cnd (ine a5 a6) (some false) (cnd (ine a2.2 a3.2) (some false) (cnd (bnot (kbeq (Kd.agg (Kd.pair Kd.str Kd.str)) (a2.1.1, a2.1.2) (a3.1.1, a3.1.2))) (some false) (a4 ())))))) (fun (a4 : Unit) => bnd (S30 k ((x.1.1, x.1.2), x.2.2.1, ())) (fun (a5 : (ByteArray × Int)) => bnd (S31 k ((x.1.1, x.1.2), x.2.2.1, ())) (fun (a6 : (ByteArray × Int)) => cnd (ieq a5.2 a6.2) (cnd (seq a5.1 a6.1) (bnd (S10 k ()) (fun (a7 : Bool) => some a7)) (some false)) (some false))))))
def F6 : Fn := ⟨[.val (.agg (.pair (.str) (.str))), .val (.str), .val (.str)], [.val (.bool)], S6⟩
def Γ6 : Ctx := ⟨alookup tys, alookup [(26, F26), (27, F27), (28, F28), (29, F29), (30, F30), (31, F31), (10, F10)], [], [], [(3, 13)], [], [], eqs, [(5, [], [], [], [])], [], alookup [], alookup [], alookup []⟩
theorem e6 (k : Nat) (x : PT [.val (.agg (.pair (.str) (.str))), .val (.str), .val (.str)]) : S6 k x = runFn Γ6 k [.val (.agg (.pair (.str) (.str))), .val (.str), .val (.str)] [.val (.bool)] Tryz.f6.ntmps Tryz.f6.results.toList (Tryz.f6.body.getD .skip) x := by kernel_rfl
theorem c6 : CtxOK Tryz.prog JS Γ6 := ⟨tysOK.get, AllL.get (l := [(26, F26), (27, F27), (28, F28), (29, F29), (30, F30), (31, F31), (10, F10)]) ⟨ok26, ok27, ok28, ok29, ok30, ok31, ok10, trivial⟩, by kernel_rfl, eqsOK, AllL.get (l := []) trivial, AllL.get (l := []) trivial, AllL.get (l := []) trivial⟩
theorem ok6 : FnOK Tryz.prog JS 6 F6 := fnOK_of c6 (fn := Tryz.f6) (c := Tryz.f6.body.getD .skip) rfl rfl rfl (by decide) e6
/-- smithyard/smithyardlaw2.ScriptLabelsComeBack -/
def S7 (k : Nat) (x : PT [.val (.agg (.pair (.str) (.str))), .val (.str)]) : Option (OT [.val (.bool)]) :=
bnd (S30 k ((x.1.1, x.1.2), x.2.1, ())) (fun (a2 : (ByteArray × Int)) => cnd (ine a2.2 0) (cnd (seq a2.1 (⟨#[]⟩ : ByteArray)) (bnd (S10 k ()) (fun (a3 : Bool) => some a3)) (some false)) (bnd (S26 k (a2.1, x.2.1, ())) (fun (a3 : ((ByteArray × ByteArray) × Int)) => cnd (ieq a3.2 0) (cnd (kbeq (Kd.agg (Kd.pair Kd.str Kd.str)) (a3.1.1, a3.1.2) (x.1.1, x.1.2)) (bnd (S10 k ()) (fun (a4 : Bool) => some a4)) (some false)) (some false))))
def F7 : Fn := ⟨[.val (.agg (.pair (.str) (.str))), .val (.str)], [.val (.bool)], S7⟩
def Γ7 : Ctx := ⟨alookup tys, alookup [(30, F30), (10, F10), (26, F26)], [], [], [], [], [], eqs, [], [], alookup [], alookup [], alookup []⟩
theorem e7 (k : Nat) (x : PT [.val (.agg (.pair (.str) (.str))), .val (.str)]) : S7 k x = runFn Γ7 k [.val (.agg (.pair (.str) (.str))), .val (.str)] [.val (.bool)] Tryz.f7.ntmps Tryz.f7.results.toList (Tryz.f7.body.getD .skip) x := by kernel_rfl
theorem c7 : CtxOK Tryz.prog JS Γ7 := ⟨tysOK.get, AllL.get (l := [(30, F30), (10, F10), (26, F26)]) ⟨ok30, ok10, ok26, trivial⟩, by kernel_rfl, eqsOK, AllL.get (l := []) trivial, AllL.get (l := []) trivial, AllL.get (l := []) trivial⟩
theorem ok7 : FnOK Tryz.prog JS 7 F7 := fnOK_of c7 (fn := Tryz.f7) (c := Tryz.f7.body.getD .skip) rfl rfl rfl (by decide) e7
end Go.Proofs.YtbliiipcjbmbiaaGreatDoor.Ev
