/- A small evaluator of the program's own code over plain data: its states and its rules (this session's own; that it is right is proved in the texts behind it). No condition. -/
import Derived.Test.YtbliiipcjbmbiaaGreatDoorEvK
namespace Go.Proofs.YtbliiipcjbmbiaaGreatDoor.Ev
open Go.RowKit
set_option linter.unusedVariables false

/-! ### results that may come later -/
inductive Res (β : Type) : Type 1 where
  | fail : Res β
  | now : β → Res β
  | ite : Bool → Res β → Res β → Res β
  | bind : (α : Type) → Option α → (α → Res β) → Res β

def Res.run {β R : Type} : Res β → (β → Option R) → Option R
  | .fail, _ => none
  | .now b, K => K b
  | .ite c x y, K => cnd c (x.run K) (y.run K)
  | .bind _ m f, K => bnd m fun a => (f a).run K

/-- it comes to 'b' -/
def Res.To {β : Type} (r : Res β) (b : β) : Prop := r.run some = some b
theorem Res.run_some {β R : Type} {K : β → Option R} {q : R} : ∀ {r : Res β}, r.run K = some q → ∃ b, r.To b ∧ K b = some q
  | .fail, h => by cases h
  | .now b, h => ⟨b, rfl, h⟩
  | .ite c x y, h => by
    cases c
    · obtain ⟨b, h1, h2⟩ := Res.run_some (r := y) h; exact ⟨b, h1, h2⟩
    · obtain ⟨b, h1, h2⟩ := Res.run_some (r := x) h; exact ⟨b, h1, h2⟩
  | .bind α m f, h => by
    cases m with
    | none => cases h
    | some a => obtain ⟨b, h1, h2⟩ := Res.run_some (r := f a) h; exact ⟨b, h1, h2⟩
theorem Res.to_now {β : Type} {b b' : β} (h : (Res.now b).To b') : b = b' := Option.some.inj h
theorem Res.to_fail {β : Type} {b : β} (h : (Res.fail : Res β).To b) : False := by cases h
theorem Res.to_bind {β α : Type} {m : Option α} {f : α → Res β} {b : β} (h : (Res.bind α m f).To b) : ∃ a, m = some a ∧ (f a).To b := by
  cases m with
  | none => cases h
  | some a => exact ⟨a, rfl, h⟩
theorem Res.to_ite {β : Type} {c : Bool} {x y : Res β} {b : β} (h : (Res.ite c x y).To b) : (c = true ∧ x.To b) ∨ (c = false ∧ y.To b) := by
  cases c
  · exact .inr ⟨rfl, h⟩
  · exact .inl ⟨rfl, h⟩
def Res.of {β : Type} : Option β → Res β
  | some b => .now b
  | none => .fail
theorem Res.to_of {β : Type} {m : Option β} {b : β} (h : (Res.of m).To b) : m = some b := by
  cases m with
  | none => cases h
  | some a => exact congrArg some (Res.to_now h)

/-! ### keys of maps -/
def Kd.keyEq : (k : Kd) → Option (k.T → k.T → Bool)
  | .int _ => some ieq
  | .str => some keq
  | .bool => some beq2
  | _ => none

/-! ### states -/
inductive RV where
  | val (k : Kd) (x : k.T)
  | nilk (e : Kd)
  | arr (L : Nat)
  | map (L : Nat)
  | ptr (L : Nat) (off : Nat)
  | fn (g : Nat) (caps : List Nat)
inductive TV where
  | dead
  | skipped
  | nil
  | nilk (e : Kd)
  | val (k : Kd) (x : k.T)
  | arr (L : Nat)
  | map (L : Nat)
  | ptr (L : Nat) (off : Nat)
  | eptr (e : Kd) (L : Nat) (i : Int) (off : Nat)
  | view (e : Kd) (L : Nat) (a b : Int)
  | rop (k : Kd) (x : k.T)
  | fn (g : Nat) (caps : List Nat)
  | fnv (a r : Kd) (f : a.T → Option r.T)
  | tup (l : List RV)
  | sv (c : Kd) (l : List RV)
  | cst (vs : List Value)
inductive Ob where
  | dead
  | box (cs : List RV)
  | arr (e : Kd) (l : List e.T)
  | frz (e : Kd) (l : List e.T)
  | map (kk kv : Kd) (l : List (kk.T × kv.T))
  | fmap (kk kv : Kd) (l : List (kk.T × kv.T))
  | iter (kk kv : Kd) (l : List (kk.T × kv.T)) (left : List Nat) (cur : Option Nat)
/-! ### a head form first, before it is used -/
def RV.fc {R : Type} (v : RV) (K : RV → R) : R := match v with
  | .val k x => K (.val k x)
  | .nilk e => K (.nilk e)
  | .arr L => K (.arr L)
  | .map L => K (.map L)
  | .ptr L off => K (.ptr L off)
  | .fn g caps => K (.fn g caps)
def rvF {R : Type} : List RV → (List RV → R) → R
  | [], K => K []
  | v :: r, K => v.fc fun v => rvF r fun r => K (v :: r)
def TV.fc {R : Type} (tv : TV) (K : TV → R) : R := match tv with
  | .dead => K .dead
  | .skipped => K .skipped
  | .nil => K .nil
  | .nilk e => K (.nilk e)
  | .val k x => K (.val k x)
  | .arr L => K (.arr L)
  | .map L => K (.map L)
  | .ptr L off => K (.ptr L off)
  | .eptr e L i off => K (.eptr e L i off)
  | .view e L a b => K (.view e L a b)
  | .rop k x => K (.rop k x)
  | .fn g caps => K (.fn g caps)
  | .fnv a r f => K (.fnv a r f)
  | .tup l => rvF l fun l => K (.tup l)
  | .sv c l => rvF l fun l => K (.sv c l)
  | .cst vs => K (.cst vs)
def Ob.fc {R : Type} (o : Ob) (K : Ob → R) : R := match o with
  | .dead => K .dead
  | .box cs => rvF cs fun cs => K (.box cs)
  | .arr e l => K (.arr e l)
  | .frz e l => K (.frz e l)
  | .map kk kv m => K (.map kk kv m)
  | .fmap kk kv m => K (.fmap kk kv m)
  | .iter kk kv m l c => K (.iter kk kv m l c)
def obF {R : Type} : List Ob → (List Ob → R) → R
  | [], K => K []
  | o :: r, K => o.fc fun o => obF r fun r => K (o :: r)
theorem RV.fc_eq {R : Type} (v : RV) (K : RV → R) : v.fc K = K v := by cases v <;> rfl
theorem rvF_eq {R : Type} : ∀ (l : List RV) (K : List RV → R), rvF l K = K l
  | [], K => rfl
  | v :: r, K => by rw [rvF, RV.fc_eq, rvF_eq r]
theorem TV.fc_eq {R : Type} (v : TV) (K : TV → R) : v.fc K = K v := by cases v <;> first | rfl | exact rvF_eq _ _
theorem Ob.fc_eq {R : Type} (v : Ob) (K : Ob → R) : v.fc K = K v := by cases v <;> first | rfl | exact rvF_eq _ _
theorem obF_eq {R : Type} : ∀ (l : List Ob) (K : List Ob → R), obF l K = K l
  | [], K => rfl
  | v :: r, K => by rw [obF, Ob.fc_eq, obF_eq r]

/-! ### data reckoned out before they are used -/
def natF {R : Type} (n : Nat) (K : Nat → R) : R := match n with
  | 0 => K 0
  | m + 1 => K (m + 1)
def boolF {R : Type} (b : Bool) (K : Bool → R) : R := match b with
  | true => K true
  | false => K false
def intF {R : Type} (n : Int) (K : Int → R) : R := match n with
  | .ofNat m => natF m fun m => K (.ofNat m)
  | .negSucc m => natF m fun m => K (.negSucc m)
def listF {α R : Type} (f : α → (α → R) → R) : List α → (List α → R) → R
  | [], K => K []
  | x :: r, K => f x fun x => listF f r fun r => K (x :: r)
def kF {R : Type} : (k : Kd) → k.T → (k.T → R) → R
  | .int _, x, K => intF x K
  | .bool, x, K => boolF x K
  | .slice e, x, K => listF (kF e) x K
  | .pair a b, x, K => kF a x.1 fun y => kF b x.2 fun z => K (y, z)
  | .agg c, x, K => kF c x K
  | .oslice _, x, K => natF x K
  | .optr, x, K => boolF x K
  | .ofn, x, K => boolF x K
  | .map kk kv, x, K => listF (fun p K => kF kk p.1 fun y => kF kv p.2 fun z => K (y, z)) x K
  | _, x, K => K x
theorem natF_eq {R : Type} (n : Nat) (K : Nat → R) : natF n K = K n := by cases n <;> rfl
theorem boolF_eq {R : Type} (n : Bool) (K : Bool → R) : boolF n K = K n := by cases n <;> rfl
theorem intF_eq {R : Type} (n : Int) (K : Int → R) : intF n K = K n := by cases n <;> simp only [intF, natF_eq]
theorem listF_eq {α R : Type} {f : α → (α → R) → R} (h : ∀ x K, f x K = K x) : ∀ (l : List α) (K : List α → R), listF f l K = K l
  | [], K => rfl
  | x :: r, K => by rw [listF, h, listF_eq h r]
theorem kF_eq {R : Type} : ∀ (k : Kd) (x : k.T) (K : k.T → R), kF k x K = K x
  | .int _, x, K => intF_eq x K
  | .bool, x, K => boolF_eq x K
  | .slice e, x, K => listF_eq (kF_eq e) x K
  | .pair a b, x, K => by rw [kF, kF_eq a, kF_eq b]
  | .agg c, x, K => kF_eq c x K
  | .oslice _, x, K => natF_eq x K
  | .optr, x, K => boolF_eq x K
  | .ofn, x, K => boolF_eq x K
  | .map kk kv, x, K => listF_eq (fun p K => by rw [kF_eq kk, kF_eq kv]) x K
  | .str, x, K => rfl
  | .unit, x, K => rfl
  | .iter _ _ _, x, K => rfl
def RV.ff {R : Type} (v : RV) (K : RV → R) : R := match v with
  | .val k x => kF k x fun x => K (.val k x)
  | .nilk e => K (.nilk e)
  | .arr L => natF L fun L => K (.arr L)
  | .map L => natF L fun L => K (.map L)
  | .ptr L off => natF L fun L => natF off fun off => K (.ptr L off)
  | .fn g caps => listF natF caps fun caps => K (.fn g caps)
theorem RV.ff_eq {R : Type} (v : RV) (K : RV → R) : v.ff K = K v := by
  cases v <;> simp only [RV.ff, kF_eq, natF_eq, listF_eq (fun x K => natF_eq x K)]
def TV.ff {R : Type} (tv : TV) (K : TV → R) : R := match tv with
  | .val k x => kF k x fun x => K (.val k x)
  | .arr L => natF L fun L => K (.arr L)
  | .map L => natF L fun L => K (.map L)
  | .ptr L off => natF L fun L => natF off fun off => K (.ptr L off)
  | .fn g caps => listF natF caps fun caps => K (.fn g caps)
  | .tup l => listF RV.ff l fun l => K (.tup l)
  | tv => K tv
theorem TV.ff_eq {R : Type} (v : TV) (K : TV → R) : v.ff K = K v := by
  cases v <;> simp only [TV.ff, kF_eq, natF_eq, listF_eq (fun x K => natF_eq x K), listF_eq (fun x K => RV.ff_eq x K)]
def Ob.ff {R : Type} (o : Ob) (K : Ob → R) : R := match o with
  | .box cs => listF RV.ff cs fun cs => K (.box cs)
  | .arr e l => listF (kF e) l fun l => K (.arr e l)
  | .frz e l => listF (kF e) l fun l => K (.frz e l)
  | o => K o
theorem Ob.ff_eq {R : Type} (v : Ob) (K : Ob → R) : v.ff K = K v := by
  cases v <;> simp only [Ob.ff, listF_eq (fun x K => RV.ff_eq x K), listF_eq (kF_eq _)]

/-- the slots (n of them; the last writing first); the variables, arrays and maps of this call, by label; what lies below 'lk' and is not in 'op' is not written now -/
structure St where
  n : Nat
  tmps : List (Nat × TV)
  obs : List Ob
  lk : Nat
  op : List Nat

def slotF {R : Type} (p : Nat × TV) (K : Nat × TV → R) : R := match p with
  | (s, tv) => tv.ff fun tv => K (s, tv)
theorem slotF_eq {R : Type} (p : Nat × TV) (K : Nat × TV → R) : slotF p K = K p := by
  obtain ⟨s, tv⟩ := p
  simp only [slotF, TV.ff_eq]
def St.ff {R : Type} (st : St) (K : St → R) : R := match st with
  | ⟨n, tmps, obs, lk, op⟩ => natF n fun n => listF slotF tmps fun tmps => listF Ob.ff obs fun obs => natF lk fun lk => listF natF op fun op => K ⟨n, tmps, obs, lk, op⟩
theorem St.ff_eq {R : Type} (st : St) (K : St → R) : st.ff K = K st := by
  cases st
  simp only [St.ff, natF_eq, listF_eq (fun x K => natF_eq x K), listF_eq (fun x K => slotF_eq x K), listF_eq (fun x K => Ob.ff_eq x K)]
def RV.tv : RV → TV
  | .val k x => .val k x
  | .nilk e => .nilk e
  | .arr L => .arr L
  | .map L => .map L
  | .ptr L off => .ptr L off
  | .fn g caps => .fn g caps

def getOb (obs : List Ob) (L : Nat) : Ob := obs.getD L .dead
def tget : List (Nat × TV) → Nat → TV
  | [], _ => .dead
  | (s, tv) :: r, n => bif Nat.beq s n then tv else tget r n
def St.get (st : St) (s : Nat) : TV := tget st.tmps s
def St.put (st : St) (d : Option Nat) (tv : TV) : St :=
  match d with
  | some d => ⟨st.n, bif Nat.blt d st.n then (d, tv) :: st.tmps else st.tmps, st.obs, st.lk, st.op⟩
  | none => st
def St.with (st : St) (obs : List Ob) : St := ⟨st.n, st.tmps, obs, st.lk, st.op⟩
def wr (lk : Nat) (op : List Nat) (L : Nat) : Bool := Nat.ble lk L || op.any (Nat.beq L)
def St.wr (st : St) (L : Nat) : Bool := Ev.wr st.lk st.op L
def constTV : Value → TV
  | .int k n => .val (.int k) n
  | .bool b => .val .bool b
  | .string s => .val .str s
  | .slice none 0 0 => .nil
  | .pointer none => .val .optr true
  | .agg vs => .cst vs.toList
  | _ => .dead
def St.ev (st : St) : Operand → TV
  | .tmp t => st.get t
  | .const v => constTV v
  | .func f => .fn f []
  | .global _ => .dead

/-! ### what the evaluator knows of the program's types and functions -/
structure Ty where
  k : Kd
  flds : List (Nat × Nat)
  key : Nat
  elem : Nat
  bytes : Nat
inductive Lm where
  | val (k : Kd)
  | own (e : Kd)
@[reducible] def Lm.T : Lm → Type
  | .val k => k.T
  | .own e => List e.T
inductive Pm where
  | val (k : Kd)
  | own (e : Kd)
  | rptr (k : Kd)
  | fnv (a r : Kd)
  | nil (e : Kd)
@[reducible] def Pm.T : Pm → Type
  | .val k => k.T
  | .own e => List e.T
  | .rptr k => k.T
  | .fnv a r => a.T → Option r.T
  | .nil _ => Unit
@[reducible] def PT : List Pm → Type
  | [] => Unit
  | p :: ps => p.T × PT ps
@[reducible] def OT : List Lm → Type
  | [] => Unit
  | [o] => o.T
  | o :: p :: os => o.T × OT (p :: os)
structure Fn where
  ps : List Pm
  rs : List Lm
  f : Nat → PT ps → Option (OT rs)

/-- a function that changes an array in place, and returns nothing -/
structure IoFn where
  e : Kd
  f : Nat → List e.T → List Nat → Option (List e.T)
/-- the shape of a slot that varies -/
inductive SV where
  | val (k : Kd)
  | arr (e : Kd)
  | map (kk kv : Kd)
@[reducible] def SV.T : SV → Type
  | .val k => k.T
  | .arr e => List e.T
  | .map kk kv => List (kk.T × kv.T)
@[reducible] def XT : List SV → Type
  | [] => Unit
  | [s] => s.T
  | s :: t :: r => s.T × XT (t :: r)
/-- a parameter: plain; a pointer to a variable that the function may change; a function value that holds such pointers -/
inductive XPm where
  | pl (p : Pm)
  | bx (i : Nat)
  | clo (g : Nat) (is : List Nat)
@[reducible] def plains : List XPm → List Pm
  | [] => []
  | .pl p :: r => p :: plains r
  | .bx _ :: r => plains r
  | .clo _ _ :: r => plains r
/-- a function that changes variables of its caller: how many cells each has, their shapes -/
structure XFn where
  cs : List Nat
  ss : List SV
  ps : List XPm
  rs : List Lm
  f : Nat → XT ss → PT (plains ps) → Option (OT rs × XT ss)
/-- a function in place: what it makes of its arguments and of the caller's variables, arrays and maps (of which it may change those that are told) -/
structure YFn where
  f : Nat → List TV → (Nat → Bool) → List Ob → Option (TV × List Ob)
/-- hints: the loops (by the first region in the loop: the slots that vary, the slots whose variables do), the slots of cuts that stay own arrays, the slots that hold plain data -/
structure Ctx where
  ty : Nat → Option Ty
  fn : Nat → Option Fn
  loops : List (Nat × List Nat × List Nat)
  frees : List (Nat × List Nat)
  draws : List (Nat × Nat)
  cuts : List Nat
  vals : List Nat
  eqs : List Nat
  joins : List (Nat × List Nat × List Nat × List SV × List Nat)
  svs : List Nat
  io : Nat → Option IoFn
  xf : Nat → Option XFn
  yf : Nat → Option YFn

def alookup {α : Type} : List (Nat × α) → Nat → Option α
  | [], _ => none
  | (k, v) :: r, n => bif Nat.beq k n then some v else alookup r n

/-! ### plain data out of slots -/
/-- a datum out of a constant's cells; what lies behind it -/
def constL (k : Kd) (v : Value) : Option k.T := match k with
  | .int j => match v with
    | .int j' n => match ikEq j' j with
      | true => some n
      | false => none
    | _ => none
  | .bool => match v with
    | .bool b => some b
    | _ => none
  | .str => match v with
    | .string s => some s
    | _ => none
  | .slice e => match v with
    | .slice none 0 0 => some ([] : List e.T)
    | _ => none
  | .oslice _ => match v with
    | .slice none 0 0 => some (0 : Nat)
    | _ => none
  | .optr => match v with
    | .pointer none => some true
    | _ => none
  | .ofn => match v with
    | .nilFunc => some true
    | _ => none
  | .map kk kv => match v with
    | .map none => some ([] : List (kk.T × kv.T))
    | _ => none
  | _ => none
def constD : (k : Kd) → List Value → Option (k.T × List Value)
  | .pair a b, vs => match constD a vs with
    | some (x, r) => match constD b r with
      | some (y, r') => some ((x, y), r')
      | none => none
    | none => none
  | .agg c, vs => constD c vs
  | .unit, vs => some ((), vs)
  | k, v :: r => match constL k v with
    | some x => some (x, r)
    | none => none
  | _, [] => none
def constV (k : Kd) (vs : List Value) : Option k.T := match k with
  | .agg c => match constD c vs with
    | some (x, []) => some x
    | _ => none
  | _ => none
def toVal (k : Kd) (tv : TV) (obs : List Ob) : Option k.T :=
  match tv with
  | .cst vs => constV k vs
  | .val k' x => Kd.castW k' k x
  | .nil => match k with
    | .slice e => some ([] : List e.T)
    | .oslice _ => some (0 : Nat)
    | _ => none
  | .nilk e => Kd.castW (.slice e) k []
  | .arr L => match getOb obs L with
    | .arr e l => Kd.cast (.slice e) k l
    | .frz e l => Kd.cast (.slice e) k l
    | _ => none
  | .map L => match getOb obs L with
    | .map kk kv m => Kd.cast (.map kk kv) k m
    | .fmap kk kv m => Kd.cast (.map kk kv) k m
    | _ => none
  | .ptr _ _ => match k with
    | .optr => some false
    | _ => none
  | _ => none
/-- from here on what the slot refers to is only read -/
def frz1 (wr : Nat → Bool) (tv : TV) (obs : List Ob) : Option (List Ob) :=
  match tv with
  | .arr L => match getOb obs L with
    | .arr e l => match wr L with
      | true => some (obs.set L (.frz e l))
      | false => none
    | _ => some obs
  | .map L => match getOb obs L with
    | .map kk kv m => match wr L with
      | true => some (obs.set L (.fmap kk kv m))
      | false => none
    | _ => some obs
  | _ => some obs

/-- the cells of a datum -/
def leaves : (k : Kd) → k.T → List RV
  | .pair a b, x => leaves a x.1 ++ leaves b x.2
  | .agg c, x => leaves c x
  | .unit, _ => []
  | k, x => [.val k x]
def zleaves : Kd → List RV
  | .pair a b => zleaves a ++ zleaves b
  | .agg c => zleaves c
  | .unit => []
  | .slice e => [.nilk e]
  | k => [.val k k.dflt]
/-- a datum out of cells; what lies behind it -/
def gather : (k : Kd) → List RV → List Ob → Option (k.T × List RV)
  | .pair a b, cs, obs => match gather a cs obs with
    | some (x, cs1) => match gather b cs1 obs with
      | some (y, cs2) => some ((x, y), cs2)
      | none => none
    | none => none
  | .agg c, cs, obs => gather c cs obs
  | .unit, cs, _ => some ((), cs)
  | k, c :: cs, obs => match toVal k c.tv obs with
    | some x => some (x, cs)
    | none => none
  | _, [], _ => none
/-- the kind that cells bear, where they bear plain data already -/
def akind : Kd → List RV → Kd × List RV
  | .pair a b, cs => ((.pair (akind a cs).1 (akind b (akind a cs).2).1), (akind b (akind a cs).2).2)
  | .agg c, cs => (.agg (akind c cs).1, (akind c cs).2)
  | .unit, cs => (.unit, cs)
  | .slice _, .val k _ :: cs => (k, cs)
  | .oslice _, .val k _ :: cs => (k, cs)
  | k, _ :: cs => (k, cs)
  | k, [] => (k, [])
def frzAll (wr : Nat → Bool) : List TV → List Ob → Option (List Ob)
  | [], obs => some obs
  | c :: cs, obs => match frz1 wr c obs with
    | some o => frzAll wr cs o
    | none => none
def spliceAt {α : Type} (l : List α) (off : Nat) (m : List α) : List α := l.take off ++ m ++ l.drop (off + m.length)

/-- a slot's content for one cell of a variable -/
def toLeaf (k : Kd) (tv : TV) (obs : List Ob) : Option RV :=
  match tv with
  | .val k' x => match Kd.sim k' k with
    | true => some (.val k' x)
    | false => none
  | .nil => match k with
    | .slice e => some (.nilk e)
    | .oslice n => some (.val (.oslice n) (0 : Nat))
    | _ => none
  | .nilk e => some (.nilk e)
  | .arr L => match getOb obs L with
    | .arr e _ => match Kd.eq? (.slice e) k with
      | some _ => some (.arr L)
      | none => none
    | .frz e _ => match Kd.eq? (.slice e) k with
      | some _ => some (.arr L)
      | none => none
    | _ => none
  | .map L => match getOb obs L with
    | .map kk kv _ => match Kd.eq? (.map kk kv) k with
      | some _ => some (.map L)
      | none => none
    | .fmap kk kv _ => match Kd.eq? (.map kk kv) k with
      | some _ => some (.map L)
      | none => none
    | _ => none
  | .ptr L off => match k with
    | .optr => some (.ptr L off)
    | _ => none
  | .fn g caps => match k with
    | .ofn => some (.fn g caps)
    | _ => none
  | _ => none

/-! ### arguments and results -/
def Lm.flat : Lm → Bool
  | .val k => k.flat
  | .own _ => false
/-- the own arrays that are handed over -/
def moved (wr : Nat → Bool) : List Pm → List TV → List Ob → Option (List Ob)
  | [], [], obs => some obs
  | .own _ :: ps, tv :: tvs, obs => match tv with
    | .arr L => match getOb obs L, wr L with
      | .arr _ _, true => moved wr ps tvs (obs.set L .dead)
      | _, _ => none
    | .nil => moved wr ps tvs obs
    | .nilk _ => moved wr ps tvs obs
    | _ => none
  | .val _ :: ps, _ :: tvs, obs => moved wr ps tvs obs
  | .rptr _ :: ps, _ :: tvs, obs => moved wr ps tvs obs
  | .fnv _ _ :: ps, _ :: tvs, obs => moved wr ps tvs obs
  | .nil _ :: ps, _ :: tvs, obs => moved wr ps tvs obs
  | _, _, _ => none
/-- what is only read by the callee, and may come back in its results -/
def lent (wr : Nat → Bool) : List Pm → List TV → List Ob → Option (List Ob)
  | .val _ :: ps, tv :: tvs, obs => match frz1 wr tv obs with
    | some o => lent wr ps tvs o
    | none => none
  | .rptr _ :: ps, .ptr L _ :: tvs, obs => match getOb obs L with
    | .box cs => match frzAll wr (cs.map RV.tv) obs with
      | some o => lent wr ps tvs o
      | none => none
    | _ => none
  | _ :: ps, _ :: tvs, obs => lent wr ps tvs obs
  | _, _, obs => some obs
def gatherPtr (k : Kd) (tv : TV) (obs : List Ob) : Option k.T :=
  match tv with
  | .rop k' x => Kd.cast k' k x
  | .ptr L off => match getOb obs L with
    | .box cs => match gather k (cs.drop off) obs with
      | some (x, _) => some x
      | none => none
    | _ => none
  | _ => none
/-- the arguments of a closure in front of its captured variables: one value, or two -/
def capArgs : (ps : List Pm) → List Nat → List Ob → Option (PT ps)
  | [], [], _ => some ()
  | .rptr k :: ps, L :: Ls, obs => match gatherPtr k (.ptr L 0) obs, capArgs ps Ls obs with
    | some x, some xs => some (x, xs)
    | _, _ => none
  | _, _, _ => none
def cloFn (k : Nat) (F : Fn) (caps : List Nat) (obs : List Ob) (a r : Kd) : Option (a.T → Option r.T) :=
  match F with
  | ⟨ps, rs, f⟩ =>
    match rs, f with
    | [.val r'], f => match Kd.eq? r' r with
      | some ⟨hr⟩ => match ps, f with
        | .val p :: ps', f => match p.isVal, Kd.eq? a p with
          | true, some ⟨ha⟩ => match capArgs ps' caps obs with
            | some cs => some fun x => hr ▸ f k ((ha ▸ x : p.T), cs)
            | none => none
          | _, _ => match ps', f with
            | .val q :: ps'', f => match Kd.eq? a (.pair p q) with
              | some ⟨ha⟩ => match capArgs ps'' caps obs with
                | some cs => some fun x => hr ▸ f k ((ha ▸ x : (Kd.pair p q).T).1, (ha ▸ x : (Kd.pair p q).T).2, cs)
                | none => none
              | none => none
            | _, _ => none
        | _, _ => none
      | none => none
    | _, _ => none
def argOf (Γ : Ctx) (k : Nat) (p : Pm) (tv : TV) (obs0 obs : List Ob) : Option p.T :=
  match p with
  | .val k => toVal k tv obs
  | .own e => match tv with
    | .arr L => match getOb obs0 L with
      | .arr e' l => Kd.cast (.slice e') (.slice e) l
      | _ => none
    | .nil => some []
    | .nilk _ => some []
    | _ => none
  | .rptr k => gatherPtr k tv obs
  | .fnv a r => match tv with
    | .fnv a' r' f => match Kd.eq? a a', Kd.eq? r' r with
      | some ⟨ha⟩, some ⟨hr⟩ => some fun x => hr ▸ f (ha ▸ x)
      | _, _ => none
    | .fn g caps => if r.flat then (match Γ.fn g with
      | some F => cloFn k F caps obs a r
      | none => none) else none
    | _ => none
  | .nil _ => match tv with
    | .nil => some ()
    | .nilk _ => some ()
    | _ => none
def argsOf (Γ : Ctx) (k : Nat) : (ps : List Pm) → List TV → List Ob → List Ob → Option (PT ps)
  | [], [], _, _ => some ()
  | p :: ps, tv :: tvs, obs0, obs => match argOf Γ k p tv obs0 obs, argsOf Γ k ps tvs obs0 obs with
    | some x, some xs => some (x, xs)
    | _, _ => none
  | _, _, _, _ => none
def oneBack : (o : Lm) → o.T → List Ob → RV × List Ob
  | .val k, x, obs => (.val k x, obs)
  | .own e, l, obs => (.arr obs.length, obs ++ [.arr e l])
def back : (os : List Lm) → OT os → List Ob → List RV × List Ob
  | [], _, obs => ([], obs)
  | [o], y, obs => ([(oneBack o y obs).1], (oneBack o y obs).2)
  | o :: p :: os, y, obs => match oneBack o y.1 obs with
    | (r, obs1) => match back (p :: os) y.2 obs1 with
      | (rs, obs2) => (r :: rs, obs2)
def tvOf : List RV → TV
  | [r] => r.tv
  | l => .tup l

end Go.Proofs.YtbliiipcjbmbiaaGreatDoor.Ev
