/- Kinds of plain data, and what it is that a row of cells reads as such data in memory none of which will be written: for a small evaluator of the program's own code over plain data (this session's own). No condition. -/
import Derived.Test.YtbliiipcjbmbiaaGreatDoorEvD
namespace Go.Proofs.YtbliiipcjbmbiaaGreatDoor.Ev
open Go.RowKit
set_option linter.unusedVariables false

inductive Kd where
  | int (k : IntKind)
  | bool
  | str
  | slice (e : Kd)
  | map (k v : Kd)
  | unit
  | pair (a b : Kd)
  | agg (c : Kd)
  | iter (g : Nat) (k v : Kd)
  | oslice (n : Nat)
  | optr
  | ofn

@[reducible] def Kd.T : Kd → Type
  | .int _ => Int
  | .bool => Bool
  | .str => ByteArray
  | .slice e => List e.T
  | .map k v => List (k.T × v.T)
  | .unit => Unit
  | .pair a b => a.T × b.T
  | .agg c => c.T
  | .iter _ k v => Option (List (k.T × v.T))
  | .oslice _ => Nat
  | .optr => Bool
  | .ofn => Bool

def Kd.dflt : (k : Kd) → k.T
  | .int _ => (0 : Int)
  | .bool => false
  | .str => ByteArray.empty
  | .slice _ => []
  | .map _ _ => []
  | .unit => ()
  | .pair a b => (a.dflt, b.dflt)
  | .agg c => c.dflt
  | .iter _ _ _ => none
  | .oslice _ => (0 : Nat)
  | .optr => true
  | .ofn => true

def Kd.sz : Kd → Nat
  | .unit => 0
  | .pair a b => a.sz + b.sz
  | .agg c => c.sz
  | _ => 1

def Kd.isAgg : Kd → Bool
  | .agg _ => true
  | _ => false

/-- a kind that is a value's -/
def Kd.isVal : Kd → Bool
  | .unit => false
  | .pair _ _ => false
  | _ => true

/-- a kind without memory -/
def Kd.flat : Kd → Bool
  | .slice _ => false
  | .map _ _ => false
  | .pair a b => a.flat && b.flat
  | .agg c => c.flat
  | .iter _ _ _ => false
  | _ => true

def ikEq : IntKind → IntKind → Bool
  | .i8, .i8 => true
  | .i16, .i16 => true
  | .i32, .i32 => true
  | .i64, .i64 => true
  | .u8, .u8 => true
  | .u16, .u16 => true
  | .u32, .u32 => true
  | .u64, .u64 => true
  | _, _ => false
theorem ikEq_eq : ∀ {a b : IntKind}, ikEq a b = true → a = b := by
  intro a b h; cases a <;> cases b <;> first | rfl | (simp [ikEq] at h)

def Kd.eq? : (a b : Kd) → Option (PLift (a = b))
  | .int j, .int k => match h : ikEq j k with
    | true => some ⟨by rw [ikEq_eq h]⟩
    | false => none
  | .bool, .bool => some ⟨rfl⟩
  | .str, .str => some ⟨rfl⟩
  | .slice a, .slice b => match Kd.eq? a b with
    | some ⟨h⟩ => some ⟨by rw [h]⟩
    | none => none
  | .map a b, .map c d => match Kd.eq? a c, Kd.eq? b d with
    | some ⟨h⟩, some ⟨h'⟩ => some ⟨by rw [h, h']⟩
    | _, _ => none
  | .unit, .unit => some ⟨rfl⟩
  | .pair a b, .pair c d => match Kd.eq? a c, Kd.eq? b d with
    | some ⟨h⟩, some ⟨h'⟩ => some ⟨by rw [h, h']⟩
    | _, _ => none
  | .agg a, .agg b => match Kd.eq? a b with
    | some ⟨h⟩ => some ⟨by rw [h]⟩
    | none => none
  | .iter g a b, .iter g' c d => match hg : Nat.beq g g', Kd.eq? a c, Kd.eq? b d with
    | true, some ⟨h⟩, some ⟨h'⟩ => some ⟨by rw [Nat.eq_of_beq_eq_true hg, h, h']⟩
    | _, _, _ => none
  | .oslice a, .oslice b => match h : Nat.beq a b with
    | true => some ⟨by rw [Nat.eq_of_beq_eq_true h]⟩
    | false => none
  | .optr, .optr => some ⟨rfl⟩
  | .ofn, .ofn => some ⟨rfl⟩
  | _, _ => none

/-- the same datum, at an equal kind -/
def Kd.cast (a b : Kd) (x : a.T) : Option b.T :=
  match Kd.eq? a b with
  | some ⟨h⟩ => some (h ▸ x)
  | none => none
theorem Kd.cast_some {a b : Kd} {x : a.T} {y : b.T} (h : Kd.cast a b x = some y) : ∃ e : a = b, e ▸ x = y := by
  unfold Kd.cast at h
  split at h
  · rename_i e _; exact ⟨e, Option.some.inj h⟩
  · cases h

/-- equality of data without memory -/
def kbeq : (k : Kd) → k.T → k.T → Bool
  | .int _, a, b => ieq a b
  | .bool, a, b => beq2 a b
  | .str, a, b => seq a b
  | .pair p q, a, b => kbeq p a.1 b.1 && kbeq q a.2 b.2
  | .agg c, a, b => kbeq c a b
  | .unit, _, _ => true
  | _, _, _ => false

/-! ### reading -/

/-- the row of cells from 'ad' on, in one block that Fz allows: a list of elements -/
def RdRow {α : Type} (R : List Value → α → Prop) (sz : Nat) (w : World) (Fz : Nat → Prop) (A : Option Addr) (xs : List α) : Prop :=
  xs = [] ∨ ∃ ad, A = some ad ∧ Fz ad.block ∧ ∀ (i : Nat) (h : i < xs.length), ∃ cs : List Value, cs.length = sz ∧ (∀ j, j < sz → w.cell? (ad.add (i * sz + j)) = cs[j]?) ∧ R cs xs[i]

def valCells (k : Kd) (vs : List Value) (v : Value) : Prop := if k.isAgg then v = .agg vs.toArray else vs = [v]

def Rd (w : World) (Fz : Nat → Prop) : (k : Kd) → List Value → k.T → Prop
  | .int k, vs, x => vs = [.int k x]
  | .bool, vs, x => vs = [.bool x]
  | .str, vs, x => vs = [.string x]
  | .slice e, vs, x => ∃ A c, vs = [.slice A x.length c] ∧ x.length ≤ c ∧ RdRow (Rd w Fz e) e.sz w Fz A x
  | .map kk kv, vs, x => (vs = [.map none] ∧ x = []) ∨ ∃ r es clock, vs = [.map (some r)] ∧ Fz r ∧ w.heap[r]? = some (.map es clock) ∧ (es.size = x.length ∧ Go.MapKept.Stamped es clock) ∧
      ∀ (i : Nat) (h : i < x.length), ∃ en ck cv, es[i]? = some en ∧ valCells kk ck en.key ∧ valCells kv cv en.val ∧ Rd w Fz kk ck x[i].1 ∧ Rd w Fz kv cv x[i].2
  | .unit, vs, _ => vs = []
  | .pair a b, vs, x => ∃ va vb, vs = va ++ vb ∧ Rd w Fz a va x.1 ∧ Rd w Fz b vb x.2
  | .agg c, vs, x => Rd w Fz c vs x
  | .iter g kk kv, vs, x => (vs = [.map none] ∧ x = none) ∨ ∃ bx v m, vs = [.func (.func g) #[] #[.pointer (some ⟨bx, 0, none⟩)]] ∧ x = some m ∧ Fz bx ∧ w.cell? ⟨bx, 0, none⟩ = some v ∧
      ((v = .map none ∧ m = []) ∨ ∃ r es clock, v = .map (some r) ∧ Fz r ∧ w.heap[r]? = some (.map es clock) ∧ (es.size = m.length ∧ Go.MapKept.Stamped es clock) ∧
        ∀ (i : Nat) (h : i < m.length), ∃ en ck cv, es[i]? = some en ∧ valCells kk ck en.key ∧ valCells kv cv en.val ∧ Rd w Fz kk ck m[i].1 ∧ Rd w Fz kv cv m[i].2)
  | .oslice n, vs, x => ∃ (A : Option Addr) (c : Nat), vs = [.slice A x c] ∧ x ≤ c
  | .optr, vs, x => ∃ p : Option Addr, vs = [.pointer p] ∧ x = p.isNone
  | .ofn, vs, x => vs = [.nilFunc] ∧ x = true

/-- a value that is this datum -/
def RdV (w : World) (Fz : Nat → Prop) (k : Kd) (v : Value) (x : k.T) : Prop := k.isVal = true ∧ ∃ vs, valCells k vs v ∧ Rd w Fz k vs x

theorem RdRow.mono {α : Type} {R R' : List Value → α → Prop} {sz : Nat} {w w' : World} {Fz Fz' : Nat → Prop} {A : Option Addr} {xs : List α}
    (h : RdRow R sz w Fz A xs) (hw : ∀ b, Fz b → Fz' b ∧ w'.heap[b]? = w.heap[b]?) (hR : ∀ cs x, R cs x → R' cs x) : RdRow R' sz w' Fz' A xs := by
  rcases h with h | ⟨ad, hA, hF, hc⟩
  · exact .inl h
  · refine .inr ⟨ad, hA, (hw _ hF).1, fun i hi => ?_⟩
    obtain ⟨cs, hl, hcs, hr⟩ := hc i hi
    refine ⟨cs, hl, fun j hj => ?_, hR _ _ hr⟩
    rw [← hcs j hj]
    have hb : ∀ n, (ad.add n).block = ad.block := fun n => by unfold Addr.add; split <;> rfl
    exact World.cell?_of_block (w := w) (by rw [hb]; exact (hw _ hF).2)

theorem Rd.mono {w w' : World} {Fz Fz' : Nat → Prop} (hw : ∀ b, Fz b → Fz' b ∧ w'.heap[b]? = w.heap[b]?) :
    ∀ {k : Kd} {vs : List Value} {x : k.T}, Rd w Fz k vs x → Rd w' Fz' k vs x
  | .int _, _, _, h => h
  | .bool, _, _, h => h
  | .str, _, _, h => h
  | .slice e, _, _, ⟨A, c, h1, h2, h3⟩ => ⟨A, c, h1, h2, h3.mono hw (fun _ _ hr => Rd.mono hw hr)⟩
  | .map kk kv, _, _, h => by
    rcases h with h | ⟨r, es, clock, h1, h2, h3, h4, h5⟩
    · exact .inl h
    · refine .inr ⟨r, es, clock, h1, (hw _ h2).1, (hw _ h2).2.trans h3, h4, fun i hi => ?_⟩
      obtain ⟨en, ck, cv, e1, e2, e3, e4, e5⟩ := h5 i hi
      exact ⟨en, ck, cv, e1, e2, e3, Rd.mono hw e4, Rd.mono hw e5⟩
  | .unit, _, _, h => h
  | .pair _ _, _, _, ⟨va, vb, h1, h2, h3⟩ => ⟨va, vb, h1, Rd.mono hw h2, Rd.mono hw h3⟩
  | .agg c, vs, x, h => Rd.mono hw (k := c) (vs := vs) (x := x) h
  | .iter g kk kv, _, _, h => by
    rcases h with h | ⟨bx, v, m, h1, h2, h3, h4, h5⟩
    · exact .inl h
    · refine .inr ⟨bx, v, m, h1, h2, (hw _ h3).1, (World.cell?_of_block (w := w) (hw _ h3).2).trans h4, ?_⟩
      rcases h5 with h5 | ⟨r, es, clock, h1, h2, h3, h4, h5⟩
      · exact .inl h5
      · refine .inr ⟨r, es, clock, h1, (hw _ h2).1, (hw _ h2).2.trans h3, h4, fun i hi => ?_⟩
        obtain ⟨en, ck, cv, e1, e2, e3, e4, e5⟩ := h5 i hi
        exact ⟨en, ck, cv, e1, e2, e3, Rd.mono hw e4, Rd.mono hw e5⟩
  | .oslice n, _, _, h => h
  | .optr, _, _, h => h
  | .ofn, _, _, h => h

theorem Rd.length {w : World} {Fz : Nat → Prop} : ∀ {k : Kd} {vs : List Value} {x : k.T}, Rd w Fz k vs x → vs.length = k.sz
  | .int _, _, _, h => by rw [show _ = _ from h]; rfl
  | .bool, _, _, h => by rw [show _ = _ from h]; rfl
  | .str, _, _, h => by rw [show _ = _ from h]; rfl
  | .slice e, _, _, ⟨A, c, h1, _⟩ => by rw [h1]; rfl
  | .map kk kv, _, _, h => by
    rcases h with h | ⟨r, es, clock, h1, _⟩
    · rw [h.1]; rfl
    · rw [h1]; rfl
  | .unit, _, _, h => by rw [show _ = _ from h]; rfl
  | .pair a b, _, _, ⟨va, vb, h1, h2, h3⟩ => by rw [h1, List.length_append, Rd.length h2, Rd.length h3]; rfl
  | .agg c, vs, x, h => Rd.length (k := c) h
  | .iter g kk kv, _, _, h => by
    rcases h with h | ⟨bx, v, m, h1, _⟩
    · rw [h.1]; rfl
    · rw [h1]; rfl
  | .oslice n, _, _, ⟨A, c, h1, _⟩ => by rw [h1]; rfl
  | .optr, _, _, ⟨p, h1, _⟩ => by rw [h1]; rfl
  | .ofn, _, _, ⟨h, _⟩ => by rw [h]; rfl

theorem RdV.mono {w w' : World} {Fz Fz' : Nat → Prop} {k : Kd} {v : Value} {x : k.T} (hw : ∀ b, Fz b → Fz' b ∧ w'.heap[b]? = w.heap[b]?)
    (h : RdV w Fz k v x) : RdV w' Fz' k v x := by
  obtain ⟨h0, vs, h1, h2⟩ := h
  exact ⟨h0, vs, h1, Rd.mono hw h2⟩

theorem Rd.cast {w : World} {Fz : Nat → Prop} {a b : Kd} {vs : List Value} {x : a.T} {y : b.T} (h : Rd w Fz a vs x) (hc : Kd.cast a b x = some y) : Rd w Fz b vs y := by
  obtain ⟨rfl, rfl⟩ := Kd.cast_some hc; exact h
theorem RdV.cast {w : World} {Fz : Nat → Prop} {a b : Kd} {v : Value} {x : a.T} {y : b.T} (h : RdV w Fz a v x) (hc : Kd.cast a b x = some y) : RdV w Fz b v y := by
  obtain ⟨rfl, rfl⟩ := Kd.cast_some hc; exact h

/-- a datum without memory is read in any world -/
theorem Rd.flat_ {w w' : World} {Fz Fz' : Nat → Prop} : ∀ {k : Kd} {vs : List Value} {x : k.T}, k.flat = true → Rd w Fz k vs x → Rd w' Fz' k vs x
  | .int _, _, _, _, h => h
  | .bool, _, _, _, h => h
  | .str, _, _, _, h => h
  | .slice e, _, _, hf, _ => by cases hf
  | .map kk kv, _, _, hf, _ => by cases hf
  | .unit, _, _, _, h => h
  | .pair a b, _, _, hf, ⟨va, vb, h1, h2, h3⟩ => by
    simp only [Kd.flat, Bool.and_eq_true] at hf
    exact ⟨va, vb, h1, Rd.flat_ hf.1 h2, Rd.flat_ hf.2 h3⟩
  | .agg c, vs, x, hf, h => Rd.flat_ (k := c) hf h
  | .iter _ _ _, _, _, hf, _ => by cases hf
  | .oslice n, _, _, _, h => h
  | .optr, _, _, _, h => h
  | .ofn, _, _, _, h => h

/-! ### zero values -/
def Kd.zeroCells : Kd → List Value
  | .int k => [.int k 0]
  | .bool => [.bool false]
  | .str => [.string ByteArray.empty]
  | .slice _ => [.slice none 0 0]
  | .map _ _ => [.map none]
  | .unit => []
  | .pair a b => a.zeroCells ++ b.zeroCells
  | .agg c => c.zeroCells
  | .iter _ _ _ => [.map none]
  | .oslice _ => [.slice none 0 0]
  | .optr => [.pointer none]
  | .ofn => [.nilFunc]
theorem Rd.zero {w : World} {Fz : Nat → Prop} : ∀ (k : Kd), Rd w Fz k k.zeroCells k.dflt
  | .int _ => rfl
  | .bool => rfl
  | .str => rfl
  | .slice e => ⟨none, 0, rfl, Nat.le_refl _, .inl rfl⟩
  | .map kk kv => .inl ⟨rfl, rfl⟩
  | .unit => rfl
  | .pair a b => ⟨_, _, rfl, Rd.zero a, Rd.zero b⟩
  | .agg c => Rd.zero c
  | .iter _ _ _ => .inl ⟨rfl, rfl⟩
  | .oslice n => ⟨none, 0, rfl, Nat.le_refl _⟩
  | .optr => ⟨none, rfl, rfl⟩
  | .ofn => ⟨rfl, rfl⟩
theorem Kd.zeroCells_length (k : Kd) : k.zeroCells.length = k.sz := by
  induction k with
  | pair a b iha ihb => simp [Kd.zeroCells, Kd.sz, iha, ihb]
  | agg c ih => simpa [Kd.zeroCells, Kd.sz] using ih
  | _ => rfl

/-! ### kinds alike but for the elements of slices -/
def Kd.sim : Kd → Kd → Bool
  | .int a, .int b => ikEq a b
  | .bool, .bool => true
  | .str, .str => true
  | .slice a, .slice b => Kd.sim a b
  | .slice _, .oslice _ => true
  | .oslice _, .slice _ => true
  | .oslice _, .oslice _ => true
  | .optr, .optr => true
  | .ofn, .ofn => true
  | .unit, .unit => true
  | .pair a b, .pair c d => Kd.sim a c && Kd.sim b d
  | .agg a, .agg b => Kd.sim a b
  | .map a b, .map c d => match Kd.eq? (.map a b) (.map c d) with
    | some _ => true
    | none => false
  | .iter g a b, .iter h c d => match Kd.eq? (.iter g a b) (.iter h c d) with
    | some _ => true
    | none => false
  | _, _ => false
theorem Kd.sim_facts : ∀ {a b : Kd}, Kd.sim a b = true → a.sz = b.sz ∧ a.isAgg = b.isAgg ∧ a.isVal = b.isVal ∧ a.zeroCells = b.zeroCells
  | .int a, .int b, h => by rw [ikEq_eq h]; exact ⟨rfl, rfl, rfl, rfl⟩
  | .bool, .bool, _ => ⟨rfl, rfl, rfl, rfl⟩
  | .str, .str, _ => ⟨rfl, rfl, rfl, rfl⟩
  | .slice a, .slice b, _ => ⟨rfl, rfl, rfl, rfl⟩
  | .slice _, .oslice _, _ => ⟨rfl, rfl, rfl, rfl⟩
  | .oslice _, .slice _, _ => ⟨rfl, rfl, rfl, rfl⟩
  | .oslice _, .oslice _, _ => ⟨rfl, rfl, rfl, rfl⟩
  | .optr, .optr, _ => ⟨rfl, rfl, rfl, rfl⟩
  | .ofn, .ofn, _ => ⟨rfl, rfl, rfl, rfl⟩
  | .unit, .unit, _ => ⟨rfl, rfl, rfl, rfl⟩
  | .pair a b, .pair c d, h => by
    have h : (Kd.sim a c && Kd.sim b d) = true := h
    rw [Bool.and_eq_true] at h
    obtain ⟨h1, _, _, h2⟩ := Kd.sim_facts h.1
    obtain ⟨h3, _, _, h4⟩ := Kd.sim_facts h.2
    exact ⟨by simp only [Kd.sz]; omega, rfl, rfl, by simp only [Kd.zeroCells]; rw [h2, h4]⟩
  | .agg a, .agg b, h => by
    obtain ⟨h1, _, _, h2⟩ := Kd.sim_facts (a := a) (b := b) h
    exact ⟨h1, rfl, rfl, h2⟩
  | .map _ _, .map _ _, _ => ⟨rfl, rfl, rfl, rfl⟩
  | .iter _ _ _, .iter _ _ _, _ => ⟨rfl, rfl, rfl, rfl⟩
/-- less is told: elements that are not read any more -/
def Kd.conv : (a b : Kd) → Option (a.T → b.T)
  | .slice a, .oslice _ => some fun l : List a.T => (lenN l : Nat)
  | .slice a, .slice b => match Kd.eq? a b with
    | some ⟨h⟩ => some fun l : List a.T => (h ▸ l : List b.T)
    | none => match Nat.beq a.sz b.sz, Kd.conv a b with
      | true, some f => some fun l : List a.T => (mapL f l : List b.T)
      | _, _ => none
  | .pair a b, .pair c d => match Kd.conv a c, Kd.conv b d with
    | some f, some g => some fun x : a.T × b.T => ((f x.1, g x.2) : c.T × d.T)
    | _, _ => none
  | .agg a, .agg b => match Kd.conv a b with
    | some f => some f
    | none => none
  | a, b => match Kd.eq? a b with
    | some ⟨h⟩ => some fun x => h ▸ x
    | none => none
theorem Rd.conv {w : World} {Fz : Nat → Prop} : ∀ {a b : Kd} {f : a.T → b.T} {vs : List Value} {x : a.T}, Kd.conv a b = some f → Rd w Fz a vs x → Rd w Fz b vs (f x) := by
  have same : ∀ {a b : Kd} {f : a.T → b.T} {vs : List Value} {x : a.T}, (match Kd.eq? a b with
    | some ⟨h⟩ => some fun x => h ▸ x
    | none => none) = some f → Rd w Fz a vs x → Rd w Fz b vs (f x) := by
    intro a b f vs x h hr
    split at h
    · rename_i e _
      subst e
      cases h; exact hr
    · cases h
  intro a
  induction a with
  | slice a ih =>
    intro b f vs x h hr
    cases b with
    | oslice n =>
      simp only [Kd.conv] at h
      cases h
      obtain ⟨A, c, h1, h2, _⟩ := hr
      exact ⟨A, c, by rw [h1]; rfl, h2⟩
    | slice b =>
      simp only [Kd.conv] at h
      split at h
      · rename_i e _
        subst e
        cases h; exact hr
      split at h
      · rename_i g hsz hg
        cases h
        simp only [mapL]
        have hsz : a.sz = b.sz := Nat.eq_of_beq_eq_true hsz
        obtain ⟨A, c, h1, h2, h3⟩ := hr
        refine ⟨A, c, by rw [h1]; simp, by simpa using h2, ?_⟩
        rcases h3 with h3 | ⟨ad, h3, h4, h5⟩
        · exact .inl (by rw [h3]; rfl)
        · refine .inr ⟨ad, h3, h4, fun i hi => ?_⟩
          have hi' : i < List.length x := by simpa using hi
          obtain ⟨cs, e1, e2, e3⟩ := h5 i hi'
          refine ⟨cs, e1.trans hsz, fun j hj => ?_, ?_⟩
          · rw [← hsz] at hj ⊢; exact e2 j hj
          · have := ih hg e3
            simpa using this
      · cases h
    | _ => exact same h hr
  | pair a b iha ihb =>
    intro c f vs x h hr
    cases c with
    | pair c d =>
      simp only [Kd.conv] at h
      split at h
      · rename_i g1 g2 h1 h2
        cases h
        obtain ⟨va, vb, rfl, r1, r2⟩ := hr
        exact ⟨va, vb, rfl, iha h1 r1, ihb h2 r2⟩
      · cases h
    | _ => exact same h hr
  | agg a ih =>
    intro c f vs x h hr
    cases c with
    | agg c =>
      simp only [Kd.conv] at h
      split at h
      · rename_i g hg
        cases h
        exact ih (b := c) hg hr
      · cases h
    | _ => exact same h hr
  | _ =>
    intro c f vs x h hr
    exact same (by simpa only [Kd.conv] using h) hr
theorem Kd.conv_isVal {a b : Kd} {f : a.T → b.T} (h : Kd.conv a b = some f) : a.isVal = b.isVal ∧ a.isAgg = b.isAgg := by
  have same : ∀ {a b : Kd} {f : a.T → b.T}, (match Kd.eq? a b with
    | some ⟨h⟩ => some fun x => h ▸ x
    | none => none) = some f → a.isVal = b.isVal ∧ a.isAgg = b.isAgg := by
    intro a b f h
    split at h
    · rename_i e _
      subst e; exact ⟨rfl, rfl⟩
    · cases h
  cases a <;> cases b <;> first | exact ⟨rfl, rfl⟩ | exact same (by simpa only [Kd.conv] using h)
/-- the same datum, or less of it -/
def Kd.castW (a b : Kd) (x : a.T) : Option b.T :=
  match Kd.eq? a b with
  | some ⟨h⟩ => some (h ▸ x)
  | none => match Kd.conv a b with
    | some f => some (f x)
    | none => none
theorem Rd.castW {w : World} {Fz : Nat → Prop} {a b : Kd} {vs : List Value} {x : a.T} {y : b.T} (h : Rd w Fz a vs x) (hc : Kd.castW a b x = some y) : Rd w Fz b vs y := by
  unfold Kd.castW at hc
  split at hc
  · rename_i e _
    subst e
    cases hc; exact h
  · split at hc
    · rename_i f hf
      cases hc
      exact Rd.conv hf h
    · cases hc
theorem RdV.castW {w : World} {Fz : Nat → Prop} {a b : Kd} {v : Value} {x : a.T} {y : b.T} (h : RdV w Fz a v x) (hc : Kd.castW a b x = some y) : RdV w Fz b v y := by
  have e : a.isVal = b.isVal ∧ a.isAgg = b.isAgg := by
    unfold Kd.castW at hc
    split at hc
    · rename_i e _
      subst e; exact ⟨rfl, rfl⟩
    · split at hc
      · rename_i f hf; exact Kd.conv_isVal hf
      · cases hc
  obtain ⟨h0, vs, h1, h2⟩ := h
  refine ⟨by rw [← e.1]; exact h0, vs, ?_, Rd.castW h2 hc⟩
  unfold valCells at h1 ⊢
  rw [← e.2]; exact h1
/-- a part of a kind, told by its place and by a kind that it is like -/
structure Kd.Pr (k : Kd) where
  p : Kd
  f : k.T → p.T
structure Kd.Up (k : Kd) where
  p : Kd
  f : k.T → p.T → k.T
def Kd.projS : (k : Kd) → (off : Nat) → (p : Kd) → Option (Kd.Pr k)
  | .pair a b, off, p => match Nat.beq off 0 && Kd.sim (.pair a b) p with
    | true => some ⟨.pair a b, fun x => x⟩
    | false => match Nat.blt off a.sz with
      | true => match Kd.projS a off p with
        | some g => some ⟨g.p, fun x => g.f x.1⟩
        | none => none
      | false => match Kd.projS b (off - a.sz) p with
        | some g => some ⟨g.p, fun x => g.f x.2⟩
        | none => none
  | .agg c, off, p => match Nat.beq off 0 && Kd.sim (.agg c) p with
    | true => some ⟨.agg c, fun x => x⟩
    | false => match Kd.projS c off p with
      | some g => some ⟨g.p, fun x => g.f x⟩
      | none => none
  | k, off, p => match Nat.beq off 0 && Kd.sim k p with
    | true => some ⟨k, fun x => x⟩
    | false => none
def Kd.updS : (k : Kd) → (off : Nat) → (p : Kd) → Option (Kd.Up k)
  | .pair a b, off, p => match Nat.beq off 0 && Kd.sim (.pair a b) p with
    | true => some ⟨.pair a b, fun _ y => y⟩
    | false => match Nat.blt off a.sz with
      | true => match Kd.updS a off p with
        | some g => some ⟨g.p, fun x y => (g.f x.1 y, x.2)⟩
        | none => none
      | false => match Kd.updS b (off - a.sz) p with
        | some g => some ⟨g.p, fun x y => (x.1, g.f x.2 y)⟩
        | none => none
  | .agg c, off, p => match Nat.beq off 0 && Kd.sim (.agg c) p with
    | true => some ⟨.agg c, fun _ y => y⟩
    | false => match Kd.updS c off p with
      | some g => some ⟨g.p, fun x y => g.f x y⟩
      | none => none
  | k, off, p => match Nat.beq off 0 && Kd.sim k p with
    | true => some ⟨k, fun _ y => y⟩
    | false => none

/-- the whole, if the part is that -/
def Kd.whole (k : Kd) (off : Nat) (p : Kd) : Option (k.T → p.T) :=
  if off = 0 then (match Kd.eq? k p with
    | some ⟨h⟩ => some (fun x => h ▸ x)
    | none => none) else none
def Kd.wholeU (k : Kd) (off : Nat) (p : Kd) : Option (k.T → p.T → k.T) :=
  if off = 0 then (match Kd.eq? k p with
    | some ⟨h⟩ => some (fun _ y => h ▸ y)
    | none => none) else none
/-- the part of the kind 'p' that lies 'off' cells behind the beginning -/
def Kd.proj : (k : Kd) → (off : Nat) → (p : Kd) → Option (k.T → p.T)
  | .pair a b, off, p =>
    match Kd.whole (.pair a b) off p with
    | some f => some f
    | none => if off < a.sz then (match Kd.proj a off p with | some f => some (fun x => f x.1) | none => none)
      else match Kd.proj b (off - a.sz) p with
        | some f => some (fun x => f x.2)
        | none => none
  | .agg c, off, p =>
    match Kd.whole (.agg c) off p with
    | some f => some f
    | none => Kd.proj c off p
  | k, off, p => Kd.whole k off p

def Kd.upd : (k : Kd) → (off : Nat) → (p : Kd) → Option (k.T → p.T → k.T)
  | .pair a b, off, p =>
    match Kd.wholeU (.pair a b) off p with
    | some f => some f
    | none => if off < a.sz then (match Kd.upd a off p with | some f => some (fun x y => (f x.1 y, x.2)) | none => none)
      else match Kd.upd b (off - a.sz) p with
        | some f => some (fun x y => (x.1, f x.2 y))
        | none => none
  | .agg c, off, p =>
    match Kd.wholeU (.agg c) off p with
    | some f => some f
    | none => Kd.upd c off p
  | k, off, p => Kd.wholeU k off p

end Go.Proofs.YtbliiipcjbmbiaaGreatDoor.Ev
