/- What the small evaluator is told of the program's types and functions, and that plain data out of a state is what lies in memory (this session's own). No condition. -/
import Derived.Test.YtbliiipcjbmbiaaGreatDoorEvR
import Derived.Deep.MidRow
import Derived.Deep.AppendSrc
import Derived.Laws.MakeOwn
import Derived.Laws.BytesArg
import Derived.Laws.BytesString
import Derived.Shelf.Abstract
namespace Go.Proofs.YtbliiipcjbmbiaaGreatDoor.Ev
open Go.RowKit
set_option linter.unusedVariables false

/-- a type whose values are of the kind -/
def ScOK (P : Program) (t : Nat) : Kd → Prop
  | .int k => P.underlying t = some (.int k)
  | .bool => P.underlying t = some .bool
  | .str => P.underlying t = some .string
  | _ => True
structure ElOK (P : Program) (t : Nat) (k : Kd) : Prop where
  sc : ScOK P t k
  isVal : k.isVal = true
  info : ∃ i, P.info? t = some i ∧ i.size = k.sz ∧ ∃ z, i.zero = some z ∧ valCells k k.zeroCells z
  row : ∃ d, P.underlying t = some d ∧ d.isRow = k.isAgg
theorem ElOK.sim {P : Program} {t : Nat} {k k' : Kd} (h : ElOK P t k) (hs : Kd.sim k' k = true) : ElOK P t k' := by
  obtain ⟨s1, s2, s3, s4⟩ := Kd.sim_facts hs
  refine ⟨?_, by rw [s3]; exact h.isVal, ?_, ?_⟩
  · have := h.sc
    cases k' <;> cases k <;> first | trivial | (simp [Kd.sim] at hs) | exact this
    all_goals (first | exact this | (rw [ikEq_eq hs]; exact this))
  · obtain ⟨i, e1, e2, z, e3, e4⟩ := h.info
    refine ⟨i, e1, e2.trans s1.symm, z, e3, ?_⟩
    unfold valCells at e4 ⊢
    rw [s2, s4]; exact e4
  · obtain ⟨d, e1, e2⟩ := h.row
    exact ⟨d, e1, by rw [s2]; exact e2⟩
def KeyOK (P : Program) (t : Nat) : Kd → Prop
  | .int k => P.underlying t = some (.int k)
  | .bool => P.underlying t = some .bool
  | .str => P.underlying t = some .string
  | _ => False
def TyOK (P : Program) (t : Nat) (y : Ty) : Prop := ElOK P t y.k ∧
  match y.k with
  | .int k => P.underlying t = some (.int k)
  | .bool => P.underlying t = some .bool
  | .str => P.underlying t = some .string
  | .slice e => P.underlying t = some (.slice y.elem) ∧ ElOK P y.elem e ∧ ∀ i, P.info? y.elem = some i → i.bytes = y.bytes
  | .map kk kv => P.underlying t = some (.map y.key y.elem) ∧ ElOK P y.elem kv ∧ KeyOK P y.key kk
  | .oslice _ => P.underlying t = some (.slice y.elem)
  | .ofn => True
  | .optr => P.underlying t = some (.pointer y.elem) ∧ ∃ i, P.info? y.elem = some i ∧ i.size ≠ 0
  | .agg c => ∃ fs, P.underlying t = some (.struct fs) ∧ fs.size = y.flds.length ∧ ∀ (f off tf : Nat), y.flds[f]? = some (off, tf) → ∃ fd, fs[f]? = some fd ∧ fd.offset = off ∧ fd.type = tf ∧ ∃ i, P.info? tf = some i
  | _ => False

/-- values of the type are compared as data -/
def EqOK (P : Program) (t : Nat) (k : Kd) : Prop := ∀ (w : World) (F F' : Nat → Prop) (vx vy : Value) (x y : k.T), RdV w F k vx x → RdV w F' k vy y →
  (∀ op ox oy, (eqGuard op t ox oy vx vy).run P w = .ok () w) ∧ (Op.equal t vx vy).run P w = .ok (kbeq k x y) w

/-! ### calls -/
def ownBs : List Pm → List Value → List Nat
  | .own _ :: ps, v :: vs => (bOf v).toList ++ ownBs ps vs
  | _ :: ps, _ :: vs => ownBs ps vs
  | _, _ => []
def ArgRep (P : Program) (J : Inv) (w : World) (F S : Nat → Prop) : (p : Pm) → p.T → Value → Prop
  | .val k, x, v => RdV w F k v x
  | .own e, l, v => ObRep w F [] v (.arr e l)
  | .rptr k, x, v => TVRep P J w F S [] (.rop k x) v
  | .fnv a r, f, v => FnvRep P J w S a r f v
  | .nil _, _, v => v = .slice none 0 0
def ArgsRep (P : Program) (J : Inv) (w : World) (F S : Nat → Prop) : (ps : List Pm) → PT ps → List Value → Prop
  | [], _, vs => vs = []
  | p :: ps, x, vs => ∃ v r, vs = v :: r ∧ ArgRep P J w F S p x.1 v ∧ ArgsRep P J w F S ps x.2 r
def ownRs : List Lm → List Value → List Nat
  | .own _ :: ps, v :: vs => (bOf v).toList ++ ownRs ps vs
  | _ :: ps, _ :: vs => ownRs ps vs
  | _, _ => []
def RetRep (w : World) (F : Nat → Prop) : (o : Lm) → o.T → Value → Prop
  | .val k, x, v => RdV w F k v x
  | .own e, l, v => ObRep w F [] v (.arr e l)
def RetsRep (w : World) (F : Nat → Prop) : (rs : List Lm) → OT rs → List Value → Prop
  | [], _, vs => vs = []
  | [o], y, vs => ∃ v, vs = [v] ∧ RetRep w F o y v
  | o :: p :: os, y, vs => ∃ v r, vs = v :: r ∧ RetRep w F o y.1 v ∧ RetsRep w F (p :: os) y.2 r
def tupV : List Value → Value
  | [v] => v
  | l => .tuple l.toArray
def RetF (B : Base) (own : List Nat) (w : World) (b : Nat) : Prop := B.F0 b ∨ ((B.n0 ≤ b ∨ B.G b) ∧ b < w.heap.size ∧ b ∉ own)
def Post (B : Base) (rs : List Lm) (y : OT rs) (e : Ending) (w' : World) : Prop :=
  ∃ vs, e = .returned (tupV vs) ∧ RetsRep w' (RetF B (ownRs rs vs) w') rs y vs ∧ (ownRs rs vs).Nodup ∧ (∀ b ∈ ownRs rs vs, (B.n0 ≤ b ∨ B.G b) ∧ b < w'.heap.size) ∧ Ext B w'
/-- the function's calls come to what f gives -/
def FOK (P : Program) (J : Inv) (g : Nat) (F : Fn) (k : Nat) : Prop :=
  ∀ (B : Base) (vals : List Value) (x : PT F.ps) (y : OT F.rs), B.Ok J → ArgsRep P J B.w0 B.F0 B.S F.ps x vals → (ownBs F.ps vals).Nodup → (∀ b ∈ ownBs F.ps vals, B.G b ∧ b < B.n0) →
    F.f k x = some y → Calls P g vals.toArray B.w0 (Post B F.rs y)
structure FnOK (P : Program) (J : Inv) (g : Nat) (F : Fn) : Prop where
  enters : ∃ fn, P.funcs[g]? = some fn ∧ fn.body.isSome = true ∧ (fn.name == "runtime.NumGoroutine") = false
  ok : ∀ k, FOK P J g F k
/-- the function's calls turn the array into what f gives -/
structure IoOK (P : Program) (J : Inv) (g : Nat) (F : IoFn) : Prop where
  enters : ∃ fn, P.funcs[g]? = some fn ∧ fn.body.isSome = true ∧ (fn.name == "runtime.NumGoroutine") = false
  ok : ∀ (k : Nat) (B : Base) (F0 : Nat → Prop) (v : Value) (l : List F.e.T) (gs : List Nat) (l' : List F.e.T), B.Ok J → (∀ b, F0 b → b < B.n0 ∧ ¬ B.G b) → ObRep B.w0 F0 [] v (.arr F.e l) →
    (∀ b, bOf v = some b → B.G b ∧ b < B.n0) → F.f k l gs = some l' →
    Calls P g (v :: gs.map fun g => Value.func (.func g) #[] #[]).toArray B.w0 fun e w' => e = .returned (.tuple #[]) ∧ Ext B w' ∧ ObRep w' F0 [] v (.arr F.e l')

/-! ### calls that change variables of the caller -/
def PackRep (w : World) (F : Nat → Prop) : (s : SV) → s.T → Value → Prop
  | .val k, x, v => RdV w F k v x
  | .arr e, l, v => ObRep w F [] v (.arr e l)
  | .map kk kv, m, v => ObRep w F [] v (.map kk kv m)
def PacksRep (w : World) (F : Nat → Prop) : (ss : List SV) → XT ss → List Value → Prop
  | [], _, vs => vs = []
  | [s], x, vs => ∃ v, vs = [v] ∧ PackRep w F s x v
  | s :: t :: r, x, vs => ∃ v q, vs = v :: q ∧ PackRep w F s x.1 v ∧ PacksRep w F (t :: r) x.2 q
/-- which shapes bring a label of their own -/
def newVals : List SV → List Value → List Value
  | .val _ :: ss, _ :: vs => newVals ss vs
  | .arr _ :: ss, v :: vs => v :: newVals ss vs
  | .map _ _ :: ss, v :: vs => v :: newVals ss vs
  | _, _ => []
def BoxVals (w : World) (βs : List Value) : List (Nat × Nat) → List Value → Prop
  | [], vs => vs = []
  | p :: r, vs => ∃ b c t fr q, vs = c.toList ++ q ∧ bv βs p.1 = .pointer (some ⟨b, 0, none⟩) ∧ w.heap[b]? = some (.cells c t fr) ∧ NF fr c.size ∧ c.size = p.2 ∧ BoxVals w βs r q
def ptrV (b : Nat) : Value := .pointer (some ⟨b, 0, none⟩)
/-- the arguments: the plain ones apart -/
def XArgs (bls : List Nat) : List XPm → List Value → List Value → Prop
  | [], vs, pv => vs = [] ∧ pv = []
  | .pl _ :: ps, vs, pv => ∃ v r q, vs = v :: r ∧ pv = v :: q ∧ XArgs bls ps r q
  | .bx i :: ps, vs, pv => ∃ (b : Nat) (r : List Value), bls[i]? = some b ∧ vs = ptrV b :: r ∧ XArgs bls ps r pv
  | .clo g is :: ps, vs, pv => ∃ (bs : List Nat) (r : List Value), is.map (fun i => bls[i]?) = bs.map some ∧ vs = .func (.func g) #[] (bs.map ptrV).toArray :: r ∧ XArgs bls ps r pv
def blks (vs : List Value) : List Nat := vs.flatMap fun v => (bOf v).toList
def XPost (B : Base) (F : XFn) (bls : List Nat) (y : OT F.rs × XT F.ss) (e : Ending) (w' : World) : Prop :=
  ∃ rvs vs own, own = ownRs F.rs rvs ++ blks (newVals F.ss vs) ++ bls ∧ e = .returned (tupV rvs) ∧ RetsRep w' (RetF B own w') F.rs y.1 rvs ∧ PacksRep w' (RetF B own w') F.ss y.2 vs ∧ BoxVals w' (bls.map ptrV) (cnts0 0 F.cs) vs ∧ own.Nodup ∧
    (∀ b ∈ own, (B.n0 ≤ b ∨ B.G b) ∧ b < w'.heap.size) ∧ Ext B w'
/-- the function's calls come to what f gives, and change the variables as it says -/
structure XOK (P : Program) (J : Inv) (g : Nat) (F : XFn) : Prop where
  enters : ∃ fn, P.funcs[g]? = some fn ∧ fn.body.isSome = true ∧ (fn.name == "runtime.NumGoroutine") = false
  leaf : F.ss.all SV.leaf = true
  ok : ∀ (k : Nat) (B : Base) (vals pv : List Value) (bls : List Nat) (vs : List Value) (x : XT F.ss) (xs : PT (plains F.ps)) (y : OT F.rs × XT F.ss), B.Ok J → XArgs bls F.ps vals pv → bls.length = F.cs.length →
    ArgsRep P J B.w0 B.F0 B.S (plains F.ps) xs pv → BoxVals B.w0 (bls.map ptrV) (cnts0 0 F.cs) vs → PacksRep B.w0 B.F0 F.ss x vs → (ownBs (plains F.ps) pv ++ blks (newVals F.ss vs) ++ bls).Nodup →
    (∀ b ∈ ownBs (plains F.ps) pv ++ blks (newVals F.ss vs) ++ bls, B.G b ∧ b < B.n0) → F.f k x xs = some y → Calls P g vals.toArray B.w0 (XPost B F bls y)
structure Obs (B : Base) (βs : List Value) (obs : List Ob) (w : World) : Prop where
  len : βs.length = obs.length
  rep : ∀ L, L < βs.length → ObRep w (Fz B βs obs w) βs (bv βs L) (getOb obs L)
structure Rep' (P : Program) (J : Inv) (B : Base) (βs : List Value) (obs : List Ob) (w : World) : Prop where
  base : B.n0 ≤ w.heap.size
  f0 : ∀ b, B.F0 b → b < B.n0 ∧ ¬ B.G b
  own : ∀ b, Own βs obs b → (B.n0 ≤ b ∨ B.G b) ∧ b < w.heap.size
  inj : ∀ L L' b, L < βs.length → L' < βs.length → (getOb obs L).live = true → (getOb obs L').live = true → bOf (bv βs L) = some b → bOf (bv βs L') = some b → L = L'
  obs : Obs B βs obs w
def TVs (P : Program) (J : Inv) (B : Base) (βs : List Value) (obs : List Ob) (w : World) : List TV → List Value → Prop
  | [], vs => vs = []
  | tv :: tvs, vs => ∃ v r, vs = v :: r ∧ TVRep P J w (Fz B βs obs w) B.S βs tv v ∧ TVs P J B βs obs w tvs r
def Behind (P : Program) (J : Inv) (B : Base) (βs : List Value) (obs : List Ob) (wr : Nat → Bool) (w : World) (tv : TV) (obs' : List Ob) (v : Value) (w' : World) : Prop :=
  ∃ βs', Step B βs obs wr w βs' obs' w' ∧ TVRep P J w' (Fz B βs' obs' w') B.S βs' tv v
/-- the function's calls do what f says, in place -/
structure YOK (P : Program) (J : Inv) (g : Nat) (F : YFn) : Prop where
  enters : ∃ fn, P.funcs[g]? = some fn ∧ fn.body.isSome = true ∧ (fn.name == "runtime.NumGoroutine") = false
  ok : ∀ (k : Nat) (B : Base) (βs : List Value) (obs : List Ob) (wr : Nat → Bool) (w : World) (tvs : List TV) (vals : List Value) (tv : TV) (obs' : List Ob), B.Ok J → Rep' P J B βs obs w → J.I w → TVs P J B βs obs w tvs vals → F.f k tvs wr obs = some (tv, obs') →
    Calls P g vals.toArray w fun e w' => ∃ v, e = .returned v ∧ Behind P J B βs obs wr w tv obs' v w'
structure CtxOK (P : Program) (J : Inv) (Γ : Ctx) : Prop where
  ty : ∀ t y, Γ.ty t = some y → TyOK P t y
  fn : ∀ g F, Γ.fn g = some F → FnOK P J g F
  mixed : P.follows .mixedOrders = true
  eq : ∀ t k, Γ.eqs.any (Nat.beq t) = true → kindOf Γ t = some k → EqOK P t k
  io : ∀ g F, Γ.io g = some F → IoOK P J g F
  xf : ∀ g F, Γ.xf g = some F → XOK P J g F
  yf : ∀ g F, Γ.yf g = some F → YOK P J g F

variable {P : Program} {J : Inv} {Γ : Ctx}
theorem CtxOK.kind (h : CtxOK P J Γ) {t : Nat} {k : Kd} (hk : kindOf Γ t = some k) : ElOK P t k := by
  unfold kindOf at hk
  split at hk
  · rename_i y hy
    cases hk
    exact (h.ty t y hy).1
  · cases hk

/-! ### plain data out of a state -/
variable {B : Base} {C : LBase} {βs : List Value} {st : St} {a : Act} {w : World} {obs : List Ob}

/-- what may be read, and what is the call's own -/
def FO (B : Base) (βs : List Value) (obs : List Ob) (w : World) (b : Nat) : Prop := Fz B βs obs w b ∨ Own βs obs b
theorem FO.of {b : Nat} (h : Fz B βs obs w b) : FO B βs obs w b ∧ w.heap[b]? = w.heap[b]? := ⟨.inl h, rfl⟩

theorem cell_of {w : World} {b o : Nat} {c : Array Value} {t : TypeId} {fr : Nat × Nat} (h : w.heap[b]? = some (.cells c t fr)) : w.cell? ⟨b, o, none⟩ = c[o]? := cell_of_row w b o c t fr h

/-- an own array reads as a list -/
theorem arr_reads {F F' : Nat → Prop} {e : Kd} {l : List e.T} {v : Value} (h : ObRep w F βs v (.arr e l)) (hF : ∀ b, F b → F' b) (hb : ∀ b, bOf v = some b → F' b) : RdV w F' (.slice e) v l := by
  refine ⟨rfl, [v], by simp [valCells, Kd.isAgg], ?_⟩
  rcases h with ⟨rfl, rfl⟩ | ⟨b, off, cap, c, t, fr, rfl, h2, h3, h4, h5, h6⟩
  · exact ⟨none, 0, rfl, Nat.le_refl _, .inl rfl⟩
  · refine ⟨some ⟨b, off, none⟩, cap, rfl, h5, .inr ⟨⟨b, off, none⟩, rfl, hb b rfl, fun i hi => ?_⟩⟩
    obtain ⟨cs, e1, e2, e3⟩ := h6 i hi
    refine ⟨cs, e1, fun j hj => ?_, Rd.mono (fun b hb => ⟨hF b hb, rfl⟩) e3⟩
    rw [Addr.add_mid, cell_of h2]
    exact e2 j hj
theorem map_reads {F F' : Nat → Prop} {kk kv : Kd} {m : List (kk.T × kv.T)} {v : Value} (h : ObRep w F βs v (.map kk kv m)) (hF : ∀ b, F b → F' b) (hb : ∀ b, bOf v = some b → F' b) : RdV w F' (.map kk kv) v m := by
  obtain ⟨r, rfl, es, clock, h1, h2, h3⟩ := h
  refine ⟨rfl, [_], by simp [valCells, Kd.isAgg], .inr ⟨r, es, clock, rfl, hb r rfl, h1, h2, fun i hi => ?_⟩⟩
  obtain ⟨en, ck, cv, e1, e2, e3, e4, e5⟩ := h3 i hi
  exact ⟨en, ck, cv, e1, e2, e3, Rd.mono (fun b hb => ⟨hF b hb, rfl⟩) e4, Rd.mono (fun b hb => ⟨hF b hb, rfl⟩) e5⟩

theorem ptr_val {P : Program} {J : Inv} {w : World} {F G S : Nat → Prop} {βs : List Value} {L off : Nat} {v : Value} (h : TVRep P J w G S βs (.ptr L off) v) : RdV w F .optr v false := by
  obtain ⟨_, b, _, rfl⟩ := h
  exact ⟨rfl, [.pointer (some ⟨b, off, none⟩)], by simp [valCells, Kd.isAgg], some ⟨b, off, none⟩, rfl, rfl⟩
theorem nil_readsO {F : Nat → Prop} (n : Nat) : RdV w F (.oslice n) (.slice none 0 0) (0 : Nat) := ⟨rfl, [_], by simp [valCells, Kd.isAgg], none, 0, rfl, Nat.le_refl _⟩
theorem nil_reads {F : Nat → Prop} (e : Kd) : RdV w F (.slice e) (.slice none 0 0) ([] : List e.T) := ⟨rfl, [_], by simp [valCells, Kd.isAgg], none, 0, rfl, Nat.le_refl _, .inl rfl⟩

theorem constL_rd {F : Nat → Prop} {k : Kd} {v : Value} {x : k.T} (h : constL k v = some x) : Rd w F k [v] x := by
  cases k with
  | int j =>
    simp only [constL] at h
    split at h
    · split at h
      · rename_i q
        cases h
        rw [ikEq_eq q]; rfl
      · cases h
    · cases h
  | bool =>
    simp only [constL] at h
    split at h <;> cases h
    rfl
  | str =>
    simp only [constL] at h
    split at h <;> cases h
    rfl
  | slice e =>
    simp only [constL] at h
    split at h <;> cases h
    exact ⟨none, 0, rfl, Nat.le_refl _, .inl rfl⟩
  | oslice n =>
    simp only [constL] at h
    split at h <;> cases h
    exact ⟨none, 0, rfl, Nat.le_refl _⟩
  | optr =>
    simp only [constL] at h
    split at h <;> cases h
    exact ⟨none, rfl, rfl⟩
  | ofn =>
    simp only [constL] at h
    split at h <;> cases h
    exact ⟨rfl, rfl⟩
  | map kk kv =>
    simp only [constL] at h
    split at h <;> cases h
    exact .inl ⟨rfl, rfl⟩
  | _ => cases h
theorem constD_rd {F : Nat → Prop} : ∀ (k : Kd) (vs r : List Value) (x : k.T), constD k vs = some (x, r) → ∃ cs, vs = cs ++ r ∧ Rd w F k cs x
  | .pair a b, vs, r, x, h => by
    simp only [constD] at h
    split at h
    · rename_i x1 r1 h1
      split at h
      · rename_i y1 r2 h2
        cases h
        obtain ⟨c1, rfl, g1⟩ := constD_rd a _ _ _ h1
        obtain ⟨c2, rfl, g2⟩ := constD_rd b _ _ _ h2
        exact ⟨c1 ++ c2, by simp, c1, c2, rfl, g1, g2⟩
      · cases h
    · cases h
  | .agg c, vs, r, x, h => constD_rd c vs r x h
  | .unit, vs, r, x, h => by
    simp only [constD] at h
    cases h
    exact ⟨[], rfl, rfl⟩
  | .int j, vs, r, x, h => by
    cases vs with
    | nil => cases h
    | cons v r' =>
      simp only [constD] at h
      split at h
      · rename_i y hy
        cases h
        exact ⟨[v], rfl, constL_rd hy⟩
      · cases h
  | .bool, vs, r, x, h => by
    cases vs with
    | nil => cases h
    | cons v r' =>
      simp only [constD] at h
      split at h
      · rename_i y hy
        cases h
        exact ⟨[v], rfl, constL_rd hy⟩
      · cases h
  | .str, vs, r, x, h => by
    cases vs with
    | nil => cases h
    | cons v r' =>
      simp only [constD] at h
      split at h
      · rename_i y hy
        cases h
        exact ⟨[v], rfl, constL_rd hy⟩
      · cases h
  | .slice e, vs, r, x, h => by
    cases vs with
    | nil => cases h
    | cons v r' =>
      simp only [constD] at h
      split at h
      · rename_i y hy
        cases h
        exact ⟨[v], rfl, constL_rd hy⟩
      · cases h
  | .map kk kv, vs, r, x, h => by
    cases vs with
    | nil => cases h
    | cons v r' =>
      simp only [constD] at h
      split at h
      · rename_i y hy
        cases h
        exact ⟨[v], rfl, constL_rd hy⟩
      · cases h
  | .iter g kk kv, vs, r, x, h => by
    cases vs with
    | nil => cases h
    | cons v r' =>
      simp only [constD] at h
      split at h
      · rename_i y hy
        cases h
        exact ⟨[v], rfl, constL_rd hy⟩
      · cases h
  | .oslice n, vs, r, x, h => by
    cases vs with
    | nil => cases h
    | cons v r' =>
      simp only [constD] at h
      split at h
      · rename_i y hy
        cases h
        exact ⟨[v], rfl, constL_rd hy⟩
      · cases h
  | .optr, vs, r, x, h => by
    cases vs with
    | nil => cases h
    | cons v r' =>
      simp only [constD] at h
      split at h
      · rename_i y hy
        cases h
        exact ⟨[v], rfl, constL_rd hy⟩
      · cases h
  | .ofn, vs, r, x, h => by
    cases vs with
    | nil => cases h
    | cons v r' =>
      simp only [constD] at h
      split at h
      · rename_i y hy
        cases h
        exact ⟨[v], rfl, constL_rd hy⟩
      · cases h
theorem constV_rep {F : Nat → Prop} {k : Kd} {vs : List Value} {x : k.T} (h : constV k vs = some x) : RdV w F k (.agg vs.toArray) x := by
  cases k with
  | agg c =>
    simp only [constV] at h
    split at h
    · rename_i y hy
      cases h
      obtain ⟨cs, e, g⟩ := constD_rd (w := w) (F := F) c vs [] _ hy
      rw [List.append_nil] at e
      subst e
      exact ⟨rfl, vs, by simp [valCells, Kd.isAgg], g⟩
    · cases h
  | _ => cases h
/-- what is wanted of the variables of a state -/
theorem Rep.toObs (h : Rep P J B C βs st a w) : Obs B βs st.obs w := ⟨h.len, h.obs⟩

theorem toVal_rep (hO : Obs B βs obs w) {k : Kd} {tv : TV} {v : Value} {x : k.T} (ht : TVRep P J w (Fz B βs obs w) B.S βs tv v) (h : toVal k tv obs = some x) : RdV w (FO B βs obs w) k v x := by
  cases tv with
  | cst vs => rw [show v = _ from ht]; exact constV_rep h
  | val k' y => exact RdV.castW (RdV.mono (fun b hb => FO.of hb) ht) h
  | nil =>
    cases k <;> simp only [toVal] at h <;> cases h
    · rw [show v = _ from ht]; exact nil_reads _
    · rw [show v = _ from ht]; exact nil_readsO _
  | nilk e =>
    rw [show v = _ from ht]
    exact RdV.castW (nil_reads e) h
  | arr L =>
    obtain ⟨hL, rfl⟩ := ht
    have hr := hO.rep L hL
    simp only [toVal] at h
    split at h
    · rename_i e l ho
      rw [ho] at hr
      exact RdV.cast (arr_reads hr (fun b hb => .inl hb) (fun b hb => .inr ⟨L, hL, by rw [ho]; rfl, hb⟩)) h
    · rename_i e l ho
      rw [ho] at hr
      exact RdV.cast (RdV.mono (fun b hb => FO.of hb) hr) h
    · cases h
  | map L =>
    obtain ⟨hL, rfl⟩ := ht
    have hr := hO.rep L hL
    simp only [toVal] at h
    split at h
    · rename_i kk kv m ho
      rw [ho] at hr
      exact RdV.cast (map_reads hr (fun b hb => .inl hb) (fun b hb => .inr ⟨L, hL, by rw [ho]; rfl, hb⟩)) h
    · rename_i kk kv m ho
      rw [ho] at hr
      exact RdV.cast (RdV.mono (fun b hb => FO.of hb) hr) h
    · cases h
  | ptr L off =>
    cases k with
    | optr =>
      simp only [toVal] at h
      cases h
      exact ptr_val ht
    | _ => simp [toVal] at h
  | _ => simp [toVal] at h

theorem RdV.flat_ {w w' : World} {F F' : Nat → Prop} {k : Kd} {v : Value} {x : k.T} (hk : k.flat = true) (h : RdV w F k v x) : RdV w' F' k v x := by
  obtain ⟨h0, vs, h1, h2⟩ := h
  exact ⟨h0, vs, h1, Rd.flat_ hk h2⟩

theorem getOb_set {L M : Nat} {o : Ob} (hL : L < obs.length) : getOb (obs.set L o) M = if L = M then o else getOb obs M := by
  unfold getOb
  simp only [List.getD_eq_getElem?_getD, List.getElem?_set]
  by_cases e : L = M
  · subst e; simp [hL]
  · simp [e]
theorem getOb_append {M : Nat} {o : Ob} : getOb (obs ++ [o]) M = if M = obs.length then o else getOb obs M := by
  unfold getOb
  simp only [List.getD_eq_getElem?_getD, List.getElem?_append]
  by_cases h : M < obs.length
  · rw [if_pos h, if_neg (by omega)]
  · rw [if_neg h]
    by_cases e : M = obs.length
    · subst e; simp
    · rw [if_neg e]
      have : obs.length < M := by omega
      simp [List.getElem?_eq_none (Nat.le_of_lt this), List.getElem?_eq_none (show [o].length ≤ M - obs.length by simp; omega)]
theorem getOb_live_lt {L : Nat} (h : (getOb obs L).live = true) : L < obs.length := by
  rcases Nat.lt_or_ge L obs.length with h' | h'
  · exact h'
  · simp [getOb, List.getD_eq_getElem?_getD, List.getElem?_eq_none h', Ob.live] at h

/-! ### freezing -/
theorem Rep.toRep' (hB : B.Ok J) (h : Rep P J B C βs st a w) : Rep' P J B βs st.obs w := ⟨h.ext.size, hB.f0, h.own, h.inj, h.toObs⟩
theorem Rep'.notOwn (h : Rep' P J B βs obs w) {b : Nat} (hb : Fz B βs obs w b) : b < w.heap.size ∧ ¬ Own βs obs b := by
  rcases hb with hb | hb
  · have h0 := h.f0 b hb
    refine ⟨Nat.lt_of_lt_of_le h0.1 h.base, fun ho => ?_⟩
    rcases (h.own b ho).1 with h1 | h1
    · omega
    · exact h0.2 h1
  · exact hb.2
theorem Rep'.step_refl (h : Rep' P J B βs obs w) (wr : Nat → Bool) : Step B βs obs wr w βs obs w :=
  ⟨rfl, rfl, rfl, Nat.le_refl _, fun _ _ _ => rfl, Nat.le_refl _, fun _ _ => rfl, h.obs.len, fun b hb => ⟨.inl hb, (h.own b hb).2⟩, h.inj, fun _ _ _ => rfl, h.obs.rep⟩
theorem Step.rep' {wr : Nat → Bool} {βs' : List Value} {obs' : List Ob} {w' : World} (h : Rep' P J B βs obs w) (s : Step B βs obs wr w βs' obs' w') : Rep' P J B βs' obs' w' := by
  have hn := h.base
  refine ⟨Nat.le_trans hn s.size, h.f0, fun b hb => ?_, s.inj, s.len, s.rep⟩
  obtain ⟨h1, h2⟩ := s.own b hb
  refine ⟨?_, h2⟩
  rcases h1 with h1 | h1
  · exact (h.own b h1).1
  · exact .inl (Nat.le_trans hn h1)
theorem Step.trans {wr : Nat → Bool} {βs1 βs2 : List Value} {obs1 obs2 : List Ob} {w1 w2 : World} (s : Step B βs obs wr w βs1 obs1 w1) (t : Step B βs1 obs1 wr w1 βs2 obs2 w2) : Step B βs obs wr w βs2 obs2 w2 := by
  refine ⟨t.os.trans s.os, t.tape.trans s.tape, t.output.trans s.output, Nat.le_trans s.size t.size, fun b hb hn => ?_, Nat.le_trans s.blen t.blen, fun L hL => (t.bext L (Nat.lt_of_lt_of_le hL s.blen)).trans (s.bext L hL), t.len, fun b hb => ?_, t.inj, fun L hL hw => (t.lock L (Nat.lt_of_lt_of_le hL s.blen) hw).trans (s.lock L hL hw), t.rep⟩
  · rw [t.block b (Nat.lt_of_lt_of_le hb s.size) fun ho => ?_]
    · exact s.block b hb hn
    · rcases (s.own b ho).1 with h1 | h1
      · exact hn h1
      · omega
  · obtain ⟨h1, h2⟩ := t.own b hb
    refine ⟨?_, h2⟩
    rcases h1 with h1 | h1
    · exact (s.own b h1).1
    · exact .inr (Nat.le_trans s.size h1)

/-- an object of the call's own that goes over into what is only read, or is given up: memory stands -/
theorem Rep'.drop (h : Rep' P J B βs obs w) {wr : Nat → Bool} {L : Nat} {o : Ob} (hL : L < obs.length) (hwr : wr L = true) (hl : o.live = false)
    (ho : ObRep w (Fz B βs (obs.set L o) w) βs (bv βs L) o) : Step B βs obs wr w βs (obs.set L o) w := by
  have hlen := h.obs.len
  have hown : ∀ b, Own βs (obs.set L o) b → Own βs obs b := by
    rintro b ⟨M, hM, h1, h2⟩
    rw [getOb_set hL] at h1
    by_cases e : L = M
    · rw [if_pos e, hl] at h1; cases h1
    · rw [if_neg e] at h1; exact ⟨M, hM, h1, h2⟩
  have hF : ∀ b, Fz B βs obs w b → Fz B βs (obs.set L o) w b ∧ w.heap[b]? = w.heap[b]? := fun b hb => by
    refine ⟨?_, rfl⟩
    rcases hb with hb | hb
    · exact .inl hb
    · exact .inr ⟨hb.1, hb.2.1, fun hn => hb.2.2 (hown b hn)⟩
  refine ⟨rfl, rfl, rfl, Nat.le_refl _, fun _ _ _ => rfl, Nat.le_refl _, fun _ _ => rfl, by simpa using hlen, fun b hb => ⟨.inl (hown b hb), (h.own b (hown b hb)).2⟩, fun M M' b hM hM' h1 h2 h3 h4 => ?_, fun M hM hw => ?_, fun M hM => ?_⟩
  · rw [getOb_set hL] at h1 h2
    by_cases e : L = M
    · rw [if_pos e, hl] at h1; cases h1
    · by_cases e' : L = M'
      · rw [if_pos e', hl] at h2; cases h2
      · rw [if_neg e] at h1; rw [if_neg e'] at h2
        exact h.inj M M' b hM hM' h1 h2 h3 h4
  · rw [getOb_set hL, if_neg]
    rintro rfl
    rw [hwr] at hw; cases hw
  · rw [getOb_set hL]
    by_cases e : L = M
    · subst e; rw [if_pos rfl]; exact ho
    · rw [if_neg e]
      exact (h.obs.rep M hM).mono hF (Nat.le_refl _) (fun _ _ => rfl) (fun _ _ _ => rfl)

theorem bv_append {βs : List Value} {v : Value} {L : Nat} : bv (βs ++ [v]) L = if L < βs.length then bv βs L else if L = βs.length then v else undef := by
  unfold bv
  simp only [List.getD_eq_getElem?_getD, List.getElem?_append]
  by_cases h : L < βs.length
  · rw [if_pos h, if_pos h]
  · rw [if_neg h, if_neg h]
    by_cases e : L = βs.length
    · subst e; simp
    · rw [if_neg e]
      have : βs.length < L := by omega
      simp [List.getElem?_eq_none (show [v].length ≤ L - βs.length by simp; omega)]

/-- a new label: in new memory, or in the memory of an array that is given up for it -/
theorem Rep'.fresh (h : Rep' P J B βs obs w) {wr : Nat → Bool} {obs1 : List Ob} (h1 : obs1 = obs ∨ ∃ L, L < obs.length ∧ wr L = true ∧ obs1 = obs.set L .dead)
    {w' : World} {v : Value} {o : Ob} (hos : w'.os = w.os) (htp : w'.tape = w.tape) (hout : w'.output = w.output) (hsz : w.heap.size ≤ w'.heap.size)
    (hblk : ∀ b, b < w.heap.size → ¬ Own βs obs b → w'.heap[b]? = w.heap[b]?) (hoth : ∀ b, b < w.heap.size → Own βs obs1 b → w'.heap[b]? = w.heap[b]?)
    (hv : ∀ b, o.live = true → bOf v = some b → (w.heap.size ≤ b ∨ (Own βs obs b ∧ ¬ Own βs obs1 b)) ∧ b < w'.heap.size)
    (ho : (∀ b, Fz B βs obs w b → Fz B (βs ++ [v]) (obs1 ++ [o]) w' b ∧ w'.heap[b]? = w.heap[b]?) → ObRep w' (Fz B (βs ++ [v]) (obs1 ++ [o]) w') (βs ++ [v]) v o) :
    Step B βs obs wr w (βs ++ [v]) (obs1 ++ [o]) w' := by
  have hlen := h.obs.len
  have hlen1 : obs1.length = obs.length := by
    rcases h1 with rfl | ⟨L, _, _, rfl⟩
    · rfl
    · simp
  have hlock : ∀ M, wr M = false → getOb obs1 M = getOb obs M := fun M hM => by
    rcases h1 with rfl | ⟨L, hL, hw, rfl⟩
    · rfl
    · rw [getOb_set hL, if_neg]
      rintro rfl
      rw [hw] at hM; cases hM
  have hold : ∀ M, getOb obs1 M = .dead ∨ getOb obs1 M = getOb obs M := fun M => by
    rcases h1 with rfl | ⟨L, hL, hw, rfl⟩
    · exact .inr rfl
    · rw [getOb_set hL]
      by_cases e : L = M
      · rw [if_pos e]; exact .inl rfl
      · rw [if_neg e]; exact .inr rfl
  have hown1 : ∀ b, Own βs obs1 b → Own βs obs b := by
    rintro b ⟨M, hM, h2, h3⟩
    rcases hold M with h4 | h4
    · rw [h4] at h2; cases h2
    · rw [h4] at h2; exact ⟨M, hM, h2, h3⟩
  have hlt : ∀ {M}, M < (βs ++ [v]).length → M < βs.length ∨ M = βs.length := fun hM => by
    rw [List.length_append, List.length_singleton] at hM; omega
  have hg1 : ∀ M, M < βs.length → getOb (obs1 ++ [o]) M = getOb obs1 M := fun M hM => by rw [getOb_append, if_neg]; omega
  have hg2 : getOb (obs1 ++ [o]) βs.length = o := by rw [getOb_append, if_pos]; omega
  have hb1 : ∀ M, M < βs.length → bv (βs ++ [v]) M = bv βs M := fun M hM => by rw [bv_append, if_pos hM]
  have hb2 : bv (βs ++ [v]) βs.length = v := by rw [bv_append, if_neg (by omega), if_pos rfl]
  have hown' : ∀ b, Own (βs ++ [v]) (obs1 ++ [o]) b → (Own βs obs1 b ∨ (o.live = true ∧ bOf v = some b)) := by
    rintro b ⟨M, hM, h2, h3⟩
    rcases hlt hM with hM | rfl
    · rw [hg1 M hM] at h2; rw [hb1 M hM] at h3
      exact .inl ⟨M, hM, h2, h3⟩
    · rw [hg2] at h2; rw [hb2] at h3
      exact .inr ⟨h2, h3⟩
  have hF : ∀ b, Fz B βs obs w b → Fz B (βs ++ [v]) (obs1 ++ [o]) w' b ∧ w'.heap[b]? = w.heap[b]? := fun b hb => by
    have h2 := h.notOwn hb
    refine ⟨?_, hblk b h2.1 h2.2⟩
    rcases hb with hb | hb
    · exact .inl hb
    · refine .inr ⟨hb.1, Nat.lt_of_lt_of_le hb.2.1 hsz, fun hn => ?_⟩
      rcases hown' b hn with h3 | ⟨h3, h4⟩
      · exact hb.2.2 (hown1 b h3)
      · rcases (hv b h3 h4).1 with h5 | h5
        · omega
        · exact hb.2.2 h5.1
  refine ⟨hos, htp, hout, hsz, hblk, by simp, hb1, by simp [hlen1, hlen], fun b hb => ?_, fun M M' b hM hM' e1 e2 e3 e4 => ?_, fun M hM hw => ?_, fun M hM => ?_⟩
  · rcases hown' b hb with h3 | ⟨h3, h4⟩
    · exact ⟨.inl (hown1 b h3), Nat.lt_of_lt_of_le (h.own b (hown1 b h3)).2 hsz⟩
    · refine ⟨?_, (hv b h3 h4).2⟩
      rcases (hv b h3 h4).1 with h5 | h5
      · exact .inr h5
      · exact .inl h5.1
  · have key : ∀ M, M < βs.length → (getOb (obs1 ++ [o]) M).live = true → bOf (bv (βs ++ [v]) M) = some b → o.live = true → bOf v = some b → False := fun M hM q1 q2 q3 q4 => by
      rw [hg1 M hM] at q1; rw [hb1 M hM] at q2
      have q5 : Own βs obs1 b := ⟨M, hM, q1, q2⟩
      rcases (hv b q3 q4).1 with q6 | q6
      · have := (h.own b (hown1 b q5)).2; omega
      · exact q6.2 q5
    rcases hlt hM with hM | rfl <;> rcases hlt hM' with hM' | rfl
    · rw [hg1 M hM] at e1; rw [hg1 M' hM'] at e2; rw [hb1 M hM] at e3; rw [hb1 M' hM'] at e4
      rcases hold M with q | q
      · rw [q] at e1; cases e1
      rcases hold M' with q' | q'
      · rw [q'] at e2; cases e2
      rw [q] at e1; rw [q'] at e2
      exact h.inj M M' b hM hM' e1 e2 e3 e4
    · rw [hg2] at e2; rw [hb2] at e4
      exact (key M hM e1 e3 e2 e4).elim
    · rw [hg2] at e1; rw [hb2] at e3
      exact (key M' hM' e2 e4 e1 e3).elim
    · rfl
  · rw [hg1 M hM]; exact hlock M hw
  · rcases hlt hM with hM | rfl
    · rw [hg1 M hM, hb1 M hM]
      rcases hold M with q | q
      · rw [q]; trivial
      · rw [q]
        refine (h.obs.rep M hM).mono hF (by simp) hb1 (fun b q1 q2 => ?_)
        have q3 : Own βs obs b := ⟨M, hM, q1, q2⟩
        exact hoth b (h.own b q3).2 ⟨M, hM, by rw [q]; exact q1, q2⟩
    · rw [hg2, hb2]; exact ho hF

/-- the block of a live object is nobody's own behind its dropping -/
theorem Rep'.free (h : Rep' P J B βs obs w) {L b : Nat} {o : Ob} (hL : L < obs.length) (hl : (getOb obs L).live = true) (hd : o.live = false) (hb : bOf (bv βs L) = some b) : Fz B βs (obs.set L o) w b := by
  have hLb : L < βs.length := by rw [h.obs.len]; exact hL
  have h1 := h.own b ⟨L, hLb, hl, hb⟩
  refine .inr ⟨h1.1, h1.2, ?_⟩
  rintro ⟨M, hM, h2, h3⟩
  rw [getOb_set hL] at h2
  by_cases e : L = M
  · rw [if_pos e, hd] at h2; cases h2
  · rw [if_neg e] at h2
    exact e (h.inj L M b hLb hM hl h2 hb h3)
theorem Fz.set {b L : Nat} {o : Ob} (hL : L < obs.length) (hd : o.live = false) (hb : Fz B βs obs w b) : Fz B βs (obs.set L o) w b := by
  rcases hb with hb | hb
  · exact .inl hb
  · refine .inr ⟨hb.1, hb.2.1, ?_⟩
    rintro ⟨M, hM, h1, h2⟩
    rw [getOb_set hL] at h1
    by_cases e : L = M
    · rw [if_pos e, hd] at h1; cases h1
    · rw [if_neg e] at h1; exact hb.2.2 ⟨M, hM, h1, h2⟩

theorem frz1_step (h : Rep' P J B βs obs w) {wr : Nat → Bool} {tv : TV} {obs1 : List Ob} (hf : frz1 wr tv obs = some obs1) : Step B βs obs wr w βs obs1 w := by
  cases tv with
  | arr L =>
    simp only [frz1] at hf
    split at hf
    · rename_i e l ho
      split at hf
      · rename_i hw
        cases hf
        have hL : L < obs.length := getOb_live_lt (by rw [ho]; rfl)
        have hLb : L < βs.length := by rw [h.obs.len]; exact hL
        refine h.drop hL hw rfl ?_
        have hr := h.obs.rep L hLb
        rw [ho] at hr
        exact arr_reads hr (fun b hb => Fz.set hL rfl hb) (fun b hb => h.free hL (by rw [ho]; rfl) rfl hb)
      · cases hf
    · cases hf; exact h.step_refl _
  | map L =>
    simp only [frz1] at hf
    split at hf
    · rename_i kk kv m ho
      split at hf
      · rename_i hw
        cases hf
        have hL : L < obs.length := getOb_live_lt (by rw [ho]; rfl)
        have hLb : L < βs.length := by rw [h.obs.len]; exact hL
        refine h.drop hL hw rfl ?_
        have hr := h.obs.rep L hLb
        rw [ho] at hr
        exact map_reads hr (fun b hb => Fz.set hL rfl hb) (fun b hb => h.free hL (by rw [ho]; rfl) rfl hb)
      · cases hf
    · cases hf; exact h.step_refl _
  | _ => simp only [frz1] at hf; cases hf; exact h.step_refl _

/-- what a datum may be read of, behind the freezing of its slot -/
theorem toVal_frz (h : Rep' P J B βs obs w) {wr : Nat → Bool} {k : Kd} {tv : TV} {v : Value} {x : k.T} {obs1 : List Ob} (ht : TVRep P J w (Fz B βs obs w) B.S βs tv v)
    (hx : toVal k tv obs = some x) (hf : frz1 wr tv obs = some obs1) : RdV w (Fz B βs obs1 w) k v x := by
  have hs := frz1_step h hf
  have hO1 : Obs B βs obs1 w := ⟨hs.len, hs.rep⟩
  have hF : ∀ b, Fz B βs obs w b → Fz B βs obs1 w b ∧ w.heap[b]? = w.heap[b]? := fun b hb => by
    refine ⟨?_, rfl⟩
    rcases hb with hb | hb
    · exact .inl hb
    · refine .inr ⟨hb.1, hb.2.1, fun hn => ?_⟩
      rcases (hs.own b hn).1 with h1 | h1
      · exact hb.2.2 h1
      · have := hb.2.1; omega
  cases tv with
  | cst vs => rw [show v = _ from ht]; exact constV_rep hx
  | val k' y => exact RdV.castW (RdV.mono hF ht) hx
  | nil =>
    cases k <;> simp only [toVal] at hx <;> cases hx
    · rw [show v = _ from ht]; exact nil_reads _
    · rw [show v = _ from ht]; exact nil_readsO _
  | nilk e =>
    rw [show v = _ from ht]
    exact RdV.castW (nil_reads e) hx
  | arr L =>
    obtain ⟨hL, rfl⟩ := ht
    simp only [toVal] at hx
    simp only [frz1] at hf
    split at hx
    · rename_i e l ho
      rw [ho] at hf
      simp only at hf
      split at hf
      · cases hf
        have hL' : L < obs.length := by rw [← h.obs.len]; exact hL
        have hr := hs.rep L hL
        rw [getOb_set hL', if_pos rfl] at hr
        exact RdV.cast hr hx
      · cases hf
    · rename_i e l ho
      rw [ho] at hf
      cases hf
      have hr := h.obs.rep L hL
      rw [ho] at hr
      exact RdV.cast hr hx
    · cases hx
  | map L =>
    obtain ⟨hL, rfl⟩ := ht
    simp only [toVal] at hx
    simp only [frz1] at hf
    split at hx
    · rename_i kk kv m ho
      rw [ho] at hf
      simp only at hf
      split at hf
      · cases hf
        have hL' : L < obs.length := by rw [← h.obs.len]; exact hL
        have hr := hs.rep L hL
        rw [getOb_set hL', if_pos rfl] at hr
        exact RdV.cast hr hx
      · cases hf
    · rename_i kk kv m ho
      rw [ho] at hf
      cases hf
      have hr := h.obs.rep L hL
      rw [ho] at hr
      exact RdV.cast hr hx
    · cases hx
  | ptr L off =>
    cases k with
    | optr =>
      simp only [toVal] at hx
      cases hx
      exact ptr_val ht
    | _ => simp [toVal] at hx
  | _ => simp [toVal] at hx

end Go.Proofs.YtbliiipcjbmbiaaGreatDoor.Ev
