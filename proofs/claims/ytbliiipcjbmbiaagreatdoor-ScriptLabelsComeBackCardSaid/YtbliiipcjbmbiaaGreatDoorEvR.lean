/- What it is that a state of the small evaluator tells of a run of the program (this session's own), and how it lasts while the run goes on. No condition. -/
import Derived.Test.YtbliiipcjbmbiaaGreatDoorEvC
namespace Go.Proofs.YtbliiipcjbmbiaaGreatDoor.Ev
open Go.RowKit
set_option linter.unusedVariables false

/-- what holds of the memory in which the program began, and lasts while the blocks below 'gz' do -/
structure Inv where
  I : World → Prop
  gz : Nat
  lasts : ∀ w w' : World, (∀ b, b < gz → w'.heap[b]? = w.heap[b]?) → I w → I w'

/-- where a call began: the memory, the blocks that it was given, the blocks that it may read -/
structure Base where
  w0 : World
  G : Nat → Prop
  F0 : Nat → Prop
def Base.n0 (B : Base) : Nat := B.w0.heap.size
/-- what stands as it was through all of the call -/
def Base.S (B : Base) (b : Nat) : Prop := b < B.n0 ∧ ¬ B.G b
structure Base.Ok (B : Base) (J : Inv) : Prop where
  f0 : ∀ b, B.F0 b → b < B.n0 ∧ ¬ B.G b
  inv : J.I B.w0
  gz : J.gz ≤ B.n0
  gzG : ∀ b, b < J.gz → ¬ B.G b
/-- where a loop began -/
structure LBase where
  kept : Nat → Prop
  V : Nat → Value
  Fb : Nat → Prop
  wb : World
  βb : List Value
  ob : List Ob
  ds : List Deferred := []

def bOf : Value → Option Nat
  | .slice (some ad) _ _ => some ad.block
  | .pointer (some ad) => some ad.block
  | .map (some r) => some r
  | _ => none
def Ob.live : Ob → Bool
  | .box _ => true
  | .arr _ _ => true
  | .map _ _ _ => true
  | .iter _ _ _ _ _ => true
  | _ => false
def bv (βs : List Value) (L : Nat) : Value := βs.getD L undef
def Own (βs : List Value) (obs : List Ob) (b : Nat) : Prop := ∃ L, L < βs.length ∧ (getOb obs L).live = true ∧ bOf (bv βs L) = some b
def Fz (B : Base) (βs : List Value) (obs : List Ob) (w : World) (b : Nat) : Prop := B.F0 b ∨ ((B.n0 ≤ b ∨ B.G b) ∧ b < w.heap.size ∧ ¬ Own βs obs b)
structure Ext (B : Base) (w : World) : Prop where
  os : w.os = B.w0.os
  tape : w.tape = B.w0.tape
  output : w.output = B.w0.output
  size : B.n0 ≤ w.heap.size
  block : ∀ b, b < B.n0 → ¬ B.G b → w.heap[b]? = B.w0.heap[b]?

def RVRep (w : World) (F : Nat → Prop) (βs : List Value) : RV → Value → Prop
  | .val k x, v => RdV w F k v x
  | .nilk e, v => v = .slice none 0 0
  | .arr L, v => L < βs.length ∧ v = bv βs L
  | .map L, v => L < βs.length ∧ v = bv βs L
  | .ptr L off, v => L < βs.length ∧ ∃ b, bv βs L = .pointer (some ⟨b, 0, none⟩) ∧ v = .pointer (some ⟨b, off, none⟩)
  | .fn g caps, v => (∀ L ∈ caps, L < βs.length ∧ ∃ b, bv βs L = .pointer (some ⟨b, 0, none⟩)) ∧ v = .func (.func g) #[] (caps.map (bv βs)).toArray

def leafOK : RV → Prop
  | .val k _ => k.isAgg = false
  | _ => True

def CloArgs (w : World) (F : Nat → Prop) : (a : Kd) → List Value → a.T → Prop
  | .pair p q, vs, x => ∃ v1 v2, vs = [v1, v2] ∧ RdV w F p v1 x.1 ∧ RdV w F q v2 x.2
  | k, vs, x => ∃ v, vs = [v] ∧ RdV w F k v x
/-- a function value that is this function: in whatever memory that is, where it may read, as it was -/
def FnvRep (P : Program) (J : Inv) (w : World) (F : Nat → Prop) (a r : Kd) (f : a.T → Option r.T) (v : Value) : Prop :=
  r.flat = true ∧ ∃ (g : Nat) (caps : Array Value), v = .func (.func g) #[] caps ∧ (∃ fn, P.funcs[g]? = some fn ∧ fn.body.isSome = true ∧ (fn.name == "runtime.NumGoroutine") = false) ∧
    ∀ w' : World, J.I w' → J.gz ≤ w'.heap.size → w.heap.size ≤ w'.heap.size → (∀ b, F b → w'.heap[b]? = w.heap[b]?) → ∀ (F' : Nat → Prop) (x : a.T) (vs : List Value) (y : r.T),
      (∀ b, F' b → b < w'.heap.size) → CloArgs w' F' a vs x → f x = some y →
      Calls P g (vs.toArray ++ caps) w' fun e w'' => ∃ v, e = .returned v ∧ RdV w'' (fun _ => False) r v y ∧ Below w'.heap.size w' w''

def TVRep (P : Program) (J : Inv) (w : World) (F S : Nat → Prop) (βs : List Value) : TV → Value → Prop
  | .dead, _ => True
  | .skipped, v => v = undef
  | .nil, v => v = .slice none 0 0
  | .nilk e, v => v = .slice none 0 0
  | .val k x, v => RdV w F k v x
  | .arr L, v => L < βs.length ∧ v = bv βs L
  | .map L, v => L < βs.length ∧ v = bv βs L
  | .ptr L off, v => L < βs.length ∧ ∃ b, bv βs L = .pointer (some ⟨b, 0, none⟩) ∧ v = .pointer (some ⟨b, off, none⟩)
  | .eptr e L i off, v => L < βs.length ∧ ∃ b o n c, bv βs L = .slice (some ⟨b, o, none⟩) n c ∧ 0 ≤ i ∧ i < n ∧ v = .pointer (some ⟨b, o + i.toNat * e.sz + off, none⟩)
  | .view e L a b, v => L < βs.length ∧ 0 ≤ a ∧ a ≤ b ∧ ((bv βs L = .slice none 0 0 ∧ b = 0 ∧ v = .slice none 0 0) ∨ ∃ k o n c, bv βs L = .slice (some ⟨k, o, none⟩) n c ∧ b ≤ (n : Int) ∧ n ≤ c ∧ v = .slice (if c = a.toNat then some ⟨k, o, none⟩ else some ⟨k, o + a.toNat * e.sz, none⟩) (b.toNat - a.toNat) (c - a.toNat))
  | .rop k x, v => ∃ ad, v = .pointer (some ad) ∧ (F ad.block ∨ S ad.block) ∧ ∃ cs : List Value, cs.length = k.sz ∧ (∀ j, j < k.sz → w.cell? (ad.add j) = cs[j]?) ∧ Rd w F k cs x
  | .fn g caps, v => (∀ L ∈ caps, L < βs.length ∧ ∃ b, bv βs L = .pointer (some ⟨b, 0, none⟩)) ∧ v = .func (.func g) #[] (caps.map (bv βs)).toArray
  | .fnv a r f, v => FnvRep P J w S a r f v
  | .cst vs, v => v = .agg vs.toArray
  | .tup l, v => ∃ vs : Array Value, v = .tuple vs ∧ vs.size = l.length ∧ ∀ (i : Nat) (h : i < l.length), RVRep w F βs l[i] (vs.getD i undef)
  | .sv c l, v => ∃ vs : List Value, v = .agg vs.toArray ∧ vs.length = c.sz ∧ (∀ u ∈ vs, u.oneCell' = true) ∧ l.length = vs.length ∧ ∀ (i : Nat) (h1 : i < l.length) (h2 : i < vs.length), leafOK l[i] ∧ RVRep w F βs l[i] vs[i]

/-- behind the last cell of an array that is not of bytes stands no mark of a string -/
def Kd.ex : Kd → Nat
  | .int .u8 => 0
  | _ => 1
def NF (fr : Nat × Nat) (n : Nat) : Prop := ∀ o, o < n → (decide (fr.1 ≤ o) && decide (o < fr.2)) = false
theorem NF.low {fr : Nat × Nat} {n m : Nat} (h : NF fr (n + m)) : NF fr n := fun o ho => h o (Nat.lt_of_lt_of_le ho (Nat.le_add_right _ _))
def MapIs (w : World) (F : Nat → Prop) (kk kv : Kd) (r : Nat) (m : List (kk.T × kv.T)) : Prop :=
  ∃ es clock, w.heap[r]? = some (.map es clock) ∧ (es.size = m.length ∧ Go.MapKept.Stamped es clock) ∧
    ∀ (i : Nat) (h : i < m.length), ∃ en ck cv, es[i]? = some en ∧ valCells kk ck en.key ∧ valCells kv cv en.val ∧ Rd w F kk ck m[i].1 ∧ Rd w F kv cv m[i].2
/-- an iterator over a map that is only read: which entries are left -/
def IterIs (w : World) (F : Nat → Prop) (kk kv : Kd) (b : Nat) (m : List (kk.T × kv.T)) (left : List Nat) (cur : Option Nat) : Prop :=
  (w.heap[b]? = some (.mapIter none 0 #[] 0) ∧ left = [] ∧ cur = none) ∨
  ∃ r es clock seen, w.heap[b]? = some (.mapIter (some r) clock seen clock) ∧ F r ∧ w.heap[r]? = some (.map es clock) ∧ (es.size = m.length ∧ Go.MapKept.Stamped es clock) ∧
    (∀ (i : Nat) (h : i < m.length), ∃ en ck cv, es[i]? = some en ∧ valCells kk ck en.key ∧ valCells kv cv en.val ∧ Rd w F kk ck m[i].1 ∧ Rd w F kv cv m[i].2) ∧
    (∀ (i : Nat) (en : MapEntry), es[i]? = some en → (i ∈ left ↔ seen.contains en.born = false)) ∧ (∀ i ∈ left, i < m.length) ∧
    ∀ c, cur = some c → ∃ (en : MapEntry) (s0 : Array Nat), es[c]? = some en ∧ seen = s0.push en.born
def ObRep (w : World) (F : Nat → Prop) (βs : List Value) (v : Value) : Ob → Prop
  | .dead => True
  | .box cs => ∃ b c t fr, v = .pointer (some ⟨b, 0, none⟩) ∧ w.heap[b]? = some (.cells c t fr) ∧ NF fr c.size ∧ c.size = cs.length ∧
      ∀ (i : Nat) (h : i < cs.length), leafOK cs[i] ∧ RVRep w F βs cs[i] (c.getD i undef)
  | .arr e l => (v = .slice none 0 0 ∧ l = []) ∨ ∃ b off cap c t fr, v = .slice (some ⟨b, off, none⟩) l.length cap ∧ w.heap[b]? = some (.cells c t fr) ∧ NF fr (c.size + e.ex) ∧
      off + cap * e.sz ≤ c.size ∧ l.length ≤ cap ∧
      ∀ (i : Nat) (h : i < l.length), ∃ cs : List Value, cs.length = e.sz ∧ (∀ j, j < e.sz → c[off + (i * e.sz + j)]? = cs[j]?) ∧ Rd w F e cs l[i]
  | .frz e l => RdV w F (.slice e) v l
  | .map kk kv m => ∃ r, v = .map (some r) ∧ MapIs w F kk kv r m
  | .fmap kk kv m => RdV w F (.map kk kv) v m
  | .iter kk kv m left cur => ∃ b, v = .pointer (some ⟨b, 0, none⟩) ∧ IterIs w F kk kv b m left cur

structure Rep (P : Program) (J : Inv) (B : Base) (C : LBase) (βs : List Value) (st : St) (a : Act) (w : World) : Prop where
  ext : Ext B w
  own : ∀ b, Own βs st.obs b → (B.n0 ≤ b ∨ B.G b) ∧ b < w.heap.size
  inj : ∀ L L' b, L < βs.length → L' < βs.length → (getOb st.obs L).live = true → (getOb st.obs L').live = true → bOf (bv βs L) = some b → bOf (bv βs L') = some b → L = L'
  len : βs.length = st.obs.length
  obs : ∀ L, L < βs.length → ObRep w (Fz B βs st.obs w) βs (bv βs L) (getOb st.obs L)
  tmps : ∀ s, TVRep P J w (Fz B βs st.obs w) B.S βs (st.get s) (a.tmps.getD s undef)
  size : a.tmps.size = st.n
  defers : a.defers = C.ds
  keep : ∀ s, C.kept s → a.tmps.getD s undef = C.V s
  mono : ∀ b, C.Fb b → Fz B βs st.obs w b ∧ w.heap[b]? = C.wb.heap[b]?
  msize : C.wb.heap.size ≤ w.heap.size
  blen : C.βb.length ≤ βs.length
  bext : ∀ L, L < C.βb.length → bv βs L = bv C.βb L
  lock : ∀ L, L < C.βb.length → st.wr L = false → getOb st.obs L = getOb C.ob L

/-! ### how the parts last -/
variable {P : Program} {J : Inv}

theorem RVRep.mono {w w' : World} {F F' : Nat → Prop} {βs βs' : List Value} (hw : ∀ b, F b → F' b ∧ w'.heap[b]? = w.heap[b]?)
    (hl : βs.length ≤ βs'.length) (hb : ∀ L, L < βs.length → bv βs' L = bv βs L) {r : RV} {v : Value} (h : RVRep w F βs r v) : RVRep w' F' βs' r v := by
  cases r with
  | val k x => exact RdV.mono hw h
  | nilk e => exact h
  | arr L => exact ⟨Nat.lt_of_lt_of_le h.1 hl, h.2.trans (hb L h.1).symm⟩
  | map L => exact ⟨Nat.lt_of_lt_of_le h.1 hl, h.2.trans (hb L h.1).symm⟩
  | ptr L off =>
    obtain ⟨h1, b, h2, h3⟩ := h
    exact ⟨Nat.lt_of_lt_of_le h1 hl, b, by rw [hb L h1]; exact h2, h3⟩
  | fn g caps =>
    obtain ⟨h1, h2⟩ := h
    refine ⟨fun L hL => ?_, ?_⟩
    · obtain ⟨q1, b, q2⟩ := h1 L hL
      exact ⟨Nat.lt_of_lt_of_le q1 hl, b, by rw [hb L q1]; exact q2⟩
    · rw [h2, List.map_congr_left fun L hL => (hb L (h1 L hL).1).symm]

theorem add_block (ad : Addr) (n : Nat) : (ad.add n).block = ad.block := by unfold Addr.add; split <;> rfl

theorem FnvRep.mono {w w' : World} {F F' : Nat → Prop} (hs : w.heap.size ≤ w'.heap.size) (hw : ∀ b, F b → F' b ∧ w'.heap[b]? = w.heap[b]?)
    {a r : Kd} {f : a.T → Option r.T} {v : Value} (h : FnvRep P J w F a r f v) : FnvRep P J w' F' a r f v := by
  obtain ⟨h1, g, caps, h2, h2', h3⟩ := h
  refine ⟨h1, g, caps, h2, h2', fun w2 hI hg hs2 hF => h3 w2 hI hg (Nat.le_trans hs hs2) fun b hb => ?_⟩
  rw [hF b (hw b hb).1]
  exact (hw b hb).2

theorem TVRep.mono {w w' : World} {F F' S : Nat → Prop} {βs βs' : List Value} (hS : ∀ b, S b → w'.heap[b]? = w.heap[b]?) (hs : w.heap.size ≤ w'.heap.size) (hw : ∀ b, F b → F' b ∧ w'.heap[b]? = w.heap[b]?)
    (hl : βs.length ≤ βs'.length) (hb : ∀ L, L < βs.length → bv βs' L = bv βs L) {tv : TV} {v : Value} (h : TVRep P J w F S βs tv v) : TVRep P J w' F' S βs' tv v := by
  cases tv with
  | dead => trivial
  | cst vs => exact h
  | skipped => exact h
  | nil => exact h
  | nilk e => exact h
  | val k x => exact RdV.mono hw h
  | arr L => exact ⟨Nat.lt_of_lt_of_le h.1 hl, h.2.trans (hb L h.1).symm⟩
  | map L => exact ⟨Nat.lt_of_lt_of_le h.1 hl, h.2.trans (hb L h.1).symm⟩
  | ptr L off =>
    obtain ⟨h1, b, h2, h3⟩ := h
    exact ⟨Nat.lt_of_lt_of_le h1 hl, b, (hb L h1).trans h2, h3⟩
  | eptr e L i off =>
    obtain ⟨h1, b, o, n, c, h2, h3⟩ := h
    exact ⟨Nat.lt_of_lt_of_le h1 hl, b, o, n, c, (hb L h1).trans h2, h3⟩
  | view e L a b =>
    obtain ⟨h1, h2, h3, h4⟩ := h
    refine ⟨Nat.lt_of_lt_of_le h1 hl, h2, h3, ?_⟩
    rw [hb L h1]
    exact h4
  | rop k x =>
    obtain ⟨ad, h1, h2, cs, h3, h4, h5⟩ := h
    refine ⟨ad, h1, h2.imp (fun q => (hw _ q).1) id, cs, h3, fun j hj => ?_, Rd.mono hw h5⟩
    rw [← h4 j hj]
    exact World.cell?_of_block (w := w) (by rw [add_block]; exact h2.elim (fun q => (hw _ q).2) (hS _))
  | fn g caps =>
    obtain ⟨h1, h2⟩ := h
    refine ⟨fun L hL => ⟨Nat.lt_of_lt_of_le (h1 L hL).1 hl, ?_⟩, ?_⟩
    · obtain ⟨b, hb'⟩ := (h1 L hL).2
      exact ⟨b, (hb L (h1 L hL).1).trans hb'⟩
    · rw [h2]
      congr 2
      exact List.map_congr_left fun L hL => (hb L (h1 L hL).1).symm
  | fnv a r f => exact FnvRep.mono hs (fun b hb => ⟨hb, hS b hb⟩) h
  | tup l =>
    obtain ⟨vs, h1, h2, h3⟩ := h
    exact ⟨vs, h1, h2, fun i hi => (h3 i hi).mono hw hl hb⟩
  | sv c l =>
    obtain ⟨vs, h1, h2, h3, h4, h5⟩ := h
    exact ⟨vs, h1, h2, h3, h4, fun i q1 q2 => ⟨(h5 i q1 q2).1, (h5 i q1 q2).2.mono hw hl hb⟩⟩

theorem MapIs.mono {w w' : World} {F F' : Nat → Prop} {kk kv : Kd} {r : Nat} {m : List (kk.T × kv.T)} (hw : ∀ b, F b → F' b ∧ w'.heap[b]? = w.heap[b]?)
    (hr : w'.heap[r]? = w.heap[r]?) (h : MapIs w F kk kv r m) : MapIs w' F' kk kv r m := by
  obtain ⟨es, clock, h1, h2, h3⟩ := h
  refine ⟨es, clock, hr.trans h1, h2, fun i hi => ?_⟩
  obtain ⟨en, ck, cv, e1, e2, e3, e4, e5⟩ := h3 i hi
  exact ⟨en, ck, cv, e1, e2, e3, Rd.mono hw e4, Rd.mono hw e5⟩

theorem IterIs.mono {w w' : World} {F F' : Nat → Prop} (hw : ∀ b, F b → F' b ∧ w'.heap[b]? = w.heap[b]?) {kk kv : Kd} {b : Nat} {m : List (kk.T × kv.T)} {left : List Nat} {cur : Option Nat} (hb0 : w'.heap[b]? = w.heap[b]?) (h : IterIs w F kk kv b m left cur) : IterIs w' F' kk kv b m left cur := by
  rcases h with ⟨q1, q2, q3⟩ | ⟨r, es, clock, seen, q1, q2, q3, q4, q5, q6, q7, q8⟩
  · exact .inl ⟨hb0.trans q1, q2, q3⟩
  · refine .inr ⟨r, es, clock, seen, hb0.trans q1, (hw r q2).1, (hw r q2).2.trans q3, q4, fun i hi => ?_, q6, q7, q8⟩
    obtain ⟨en, ck, cv, e1, e2, e3, e4, e5⟩ := q5 i hi
    exact ⟨en, ck, cv, e1, e2, e3, Rd.mono hw e4, Rd.mono hw e5⟩
theorem ObRep.mono {w w' : World} {F F' : Nat → Prop} {βs βs' : List Value} (hw : ∀ b, F b → F' b ∧ w'.heap[b]? = w.heap[b]?)
    (hl : βs.length ≤ βs'.length) (hb : ∀ L, L < βs.length → bv βs' L = bv βs L) {v : Value} {o : Ob}
    (ho : ∀ b, o.live = true → bOf v = some b → w'.heap[b]? = w.heap[b]?) (h : ObRep w F βs v o) : ObRep w' F' βs' v o := by
  cases o with
  | dead => trivial
  | box cs =>
    obtain ⟨b, c, t, fr, h1, h2, h3, h4, h5⟩ := h
    exact ⟨b, c, t, fr, h1, (ho b rfl (by rw [h1]; rfl)).trans h2, h3, h4, fun i hi => ⟨(h5 i hi).1, (h5 i hi).2.mono hw hl hb⟩⟩
  | arr e l =>
    rcases h with h | ⟨b, off, cap, c, t, fr, h1, h2, h3, h4, h5, h6⟩
    · exact .inl h
    · refine .inr ⟨b, off, cap, c, t, fr, h1, (ho b rfl (by rw [h1]; rfl)).trans h2, h3, h4, h5, fun i hi => ?_⟩
      obtain ⟨cs, e1, e2, e3⟩ := h6 i hi
      exact ⟨cs, e1, e2, Rd.mono hw e3⟩
  | frz e l => exact RdV.mono hw h
  | map kk kv m =>
    obtain ⟨r, h1, h2⟩ := h
    exact ⟨r, h1, h2.mono hw (ho r rfl (by rw [h1]; rfl))⟩
  | fmap kk kv m => exact RdV.mono hw h
  | iter kk kv m left cur =>
    obtain ⟨b, h1, h2⟩ := h
    exact ⟨b, h1, h2.mono hw (ho b rfl (by rw [h1]; rfl))⟩

/-! ### a step: only what is the call's own may change -/
structure Step (B : Base) (βs : List Value) (obs : List Ob) (wr : Nat → Bool) (w : World) (βs' : List Value) (obs' : List Ob) (w' : World) : Prop where
  os : w'.os = w.os
  tape : w'.tape = w.tape
  output : w'.output = w.output
  size : w.heap.size ≤ w'.heap.size
  block : ∀ b, b < w.heap.size → ¬ Own βs obs b → w'.heap[b]? = w.heap[b]?
  blen : βs.length ≤ βs'.length
  bext : ∀ L, L < βs.length → bv βs' L = bv βs L
  len : βs'.length = obs'.length
  own : ∀ b, Own βs' obs' b → (Own βs obs b ∨ w.heap.size ≤ b) ∧ b < w'.heap.size
  inj : ∀ L L' b, L < βs'.length → L' < βs'.length → (getOb obs' L).live = true → (getOb obs' L').live = true → bOf (bv βs' L) = some b → bOf (bv βs' L') = some b → L = L'
  lock : ∀ L, L < βs.length → wr L = false → getOb obs' L = getOb obs L
  rep : ∀ L, L < βs'.length → ObRep w' (Fz B βs' obs' w') βs' (bv βs' L) (getOb obs' L)

variable {B : Base} {C : LBase} {βs βs' : List Value} {st : St} {a : Act} {w w' : World} {obs' : List Ob}

theorem Rep.notOwn (hB : B.Ok J) (h : Rep P J B C βs st a w) {b : Nat} (hb : Fz B βs st.obs w b) : b < w.heap.size ∧ ¬ Own βs st.obs b := by
  rcases hb with hb | hb
  · have h0 := hB.f0 b hb
    refine ⟨Nat.lt_of_lt_of_le h0.1 h.ext.size, fun ho => ?_⟩
    rcases (h.own b ho).1 with h1 | h1
    · omega
    · exact h0.2 h1
  · exact hb.2

/-- what may be read goes on to be read -/
theorem Fz.go (hB : B.Ok J) (h : Rep P J B C βs st a w) (hsz : w.heap.size ≤ w'.heap.size) (hblk : ∀ b, b < w.heap.size → ¬ Own βs st.obs b → w'.heap[b]? = w.heap[b]?)
    (hown : ∀ b, Own βs' obs' b → (Own βs st.obs b ∨ w.heap.size ≤ b)) (b : Nat) (hb : Fz B βs st.obs w b) : Fz B βs' obs' w' b ∧ w'.heap[b]? = w.heap[b]? := by
  have h1 := h.notOwn hB hb
  refine ⟨?_, hblk b h1.1 h1.2⟩
  rcases hb with hb | hb
  · exact .inl hb
  · refine .inr ⟨hb.1, Nat.lt_of_lt_of_le hb.2.1 hsz, fun ho => ?_⟩
    rcases hown b ho with h2 | h2
    · exact h1.2 h2
    · omega

theorem Rep.step (hB : B.Ok J) (h : Rep P J B C βs st a w) (s : Step B βs st.obs st.wr w βs' obs' w') : Rep P J B C βs' (st.with obs') a w' := by
  have hF := Fz.go (βs' := βs') (obs' := obs') (w' := w') hB h s.size s.block (fun b hb => (s.own b hb).1)
  refine ⟨⟨s.os.trans h.ext.os, s.tape.trans h.ext.tape, s.output.trans h.ext.output, Nat.le_trans h.ext.size s.size, fun b hb hG => ?_⟩, fun b hb => ?_, s.inj, s.len, s.rep, fun i => ?_, h.size, h.defers, h.keep, fun b hb => ?_, Nat.le_trans h.msize s.size, Nat.le_trans h.blen s.blen, fun L hL => ?_, fun L hL hw => ?_⟩
  · rw [← h.ext.block b hb hG]
    refine s.block b (Nat.lt_of_lt_of_le hb h.ext.size) fun ho => ?_
    rcases (h.own b ho).1 with h1 | h1
    · omega
    · exact hG h1
  · obtain ⟨h1, h2⟩ := s.own b hb
    refine ⟨?_, h2⟩
    rcases h1 with h1 | h1
    · exact (h.own b h1).1
    · exact .inl (Nat.le_trans h.ext.size h1)
  · exact (h.tmps i).mono (fun b hb => s.block b (Nat.lt_of_lt_of_le hb.1 h.ext.size) (fun ho => (h.own b ho).1.elim (fun q => by have := hb.1; omega) hb.2)) s.size hF s.blen s.bext
  · have h1 := h.mono b hb
    exact ⟨(hF b h1.1).1, (hF b h1.1).2.trans h1.2⟩
  · exact (s.bext L (Nat.lt_of_lt_of_le hL h.blen)).trans (h.bext L hL)
  · exact (s.lock L (Nat.lt_of_lt_of_le hL h.blen) hw).trans (h.lock L hL hw)

theorem tget_cons (s n : Nat) (tv : TV) (r : List (Nat × TV)) : tget ((s, tv) :: r) n = if s = n then tv else tget r n := by
  show (bif Nat.beq s n then tv else tget r n) = _
  by_cases e : s = n
  · subst e; simp
  · have : Nat.beq s n = false := by
      cases hb : Nat.beq s n
      · rfl
      · exact absurd (Nat.eq_of_beq_eq_true hb) e
    rw [this, if_neg e]; rfl

theorem Rep.put (h : Rep P J B C βs st a w) {d : Option Nat} {tv : TV} {v : Value} (hk : ∀ s, d = some s → ¬ C.kept s)
    (ht : TVRep P J w (Fz B βs st.obs w) B.S βs tv v) : Rep P J B C βs (st.put d tv) (a.put d v) w := by
  cases d with
  | none => exact h
  | some d =>
    have hg : ∀ s, TVRep P J w (Fz B βs st.obs w) B.S βs (tget (bif Nat.blt d st.n then (d, tv) :: st.tmps else st.tmps) s) ((a.tmps.setIfInBounds d v).getD s undef) := by
      intro s
      have h0 := h.tmps s
      by_cases hd : d < st.n
      · have : Nat.blt d st.n = true := by simpa [Nat.blt_eq] using hd
        rw [this]
        show TVRep P J w _ B.S βs (tget ((d, tv) :: st.tmps) s) _
        rw [tget_cons]
        by_cases e : d = s
        · subst e
          rw [if_pos rfl]
          have hs : d < a.tmps.size := by rw [h.size]; exact hd
          simpa [hs] using ht
        · rw [if_neg e]
          have : (a.tmps.setIfInBounds d v).getD s undef = a.tmps.getD s undef := by simp [Array.getElem?_setIfInBounds_ne e]
          rw [this]; exact h0
      · have : Nat.blt d st.n = false := by simpa [← Bool.not_eq_true, Nat.blt_eq] using hd
        rw [this]
        have hs : a.tmps.setIfInBounds d v = a.tmps := by rw [Array.setIfInBounds_eq_of_size_le]; rw [h.size]; omega
        rw [hs]; exact h0
    refine ⟨h.ext, h.own, h.inj, h.len, h.obs, hg, by simpa [Act.put, St.put] using h.size, h.defers, fun s hs => ?_, h.mono, h.msize, h.blen, h.bext, h.lock⟩
    have hne : d ≠ s := fun e => hk d rfl (e ▸ hs)
    rw [← h.keep s hs]
    simp [Act.put, Array.getElem?_setIfInBounds_ne hne]

end Go.Proofs.YtbliiipcjbmbiaaGreatDoor.Ev
