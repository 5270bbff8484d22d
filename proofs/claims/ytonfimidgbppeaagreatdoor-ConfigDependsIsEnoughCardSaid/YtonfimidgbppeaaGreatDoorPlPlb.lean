/- The plain laws (this session's own). No condition but those in the statements. -/
import Derived.Test.YtonfimidgbppeaaGreatDoorFPlb
import Derived.Test.YtonfimidgbppeaaGreatDoorEv5
import Derived.Test.YtonfimidgbppeaaGreatDoorEvD
import Derived.Test.YtonfimidgbppeaaGreatDoorEvK
import Derived.Sort.Walk0
import Derived.Lib.SplitLaws
import Derived.Lib.IndexMore
import Derived.Lib.Join
import Derived.Test.YtonfimidgbppeaaGreatDoorEvIt
import Derived.Test.YtonfimidgbppeaaGreatDoorEvCo
import Derived.Test.YtonfimidgbppeaaGreatDoorEvSs
namespace Go.Proofs.YtonfimidgbppeaaGreatDoor.Ev
open Go Go.RowKit
/-- THE ONE PURE STATEMENT. -/
def ConfigDependsIsEnoughStated : Prop := ∀ (x0 : (.agg (.pair (.slice (.agg (.pair (.str) (.slice (.str))))) (.pair (.slice (.agg (.pair (.str) (.pair (.slice (.agg (.pair (.str) (.str)))) (.slice (.agg (.pair (.str) (.str)))))))) (.pair (.slice (.agg (.pair (.str) (.slice (.agg (.pair (.str) (.str))))))) (.pair (.slice (.agg (.pair (.str) (.pair (.str) (.pair (.slice (.agg (.pair (.str) (.str)))) (.slice (.agg (.pair (.str) (.str))))))))) (.slice (.agg (.pair (.str) (.pair (.slice (.agg (.pair (.str) (.str)))) (.slice (.str)))))))))) : Kd).T) (x1 : (.agg (.pair (.str) (.pair (.str) (.slice (.agg (.pair (.str) (.agg (.pair (.int .i64) (.pair (.str) (.pair (.int .i64) (.pair (.slice (.str)) (.slice (.agg (.pair (.str) (.agg (.pair (.int .i64) (.pair (.str) (.pair (.int .i64) (.pair (.slice (.str)) (.oslice 0))))))))))))))))))) : Kd).T) (x2 : (.slice (.agg (.pair (.str) (.str))) : Kd).T) (x3 : (.slice (.agg (.pair (.str) (.str))) : Kd).T) (x4 : (.agg (.pair (.str) (.slice (.agg (.pair (.str) (.str))))) : Kd).T), (fun x => (WfS 40 (fun x => (fun s => s.size ≤ 140737488351232) x.1 ∧ (WfS 16 (fun s => s.size ≤ 140737488351232)) x.2)) x.1 ∧ (fun x => (WfS 64 (fun x => (fun s => s.size ≤ 140737488351232) x.1 ∧ (fun x => (WfS 32 (fun x => (fun s => s.size ≤ 140737488351232) x.1 ∧ (fun s => s.size ≤ 140737488351232) x.2)) x.1 ∧ (WfS 32 (fun x => (fun s => s.size ≤ 140737488351232) x.1 ∧ (fun s => s.size ≤ 140737488351232) x.2)) x.2) x.2)) x.1 ∧ (fun x => (WfS 40 (fun x => (fun s => s.size ≤ 140737488351232) x.1 ∧ (WfS 32 (fun x => (fun s => s.size ≤ 140737488351232) x.1 ∧ (fun s => s.size ≤ 140737488351232) x.2)) x.2)) x.1 ∧ (fun x => (WfS 80 (fun x => (fun s => s.size ≤ 140737488351232) x.1 ∧ (fun x => (fun s => s.size ≤ 140737488351232) x.1 ∧ (fun x => (WfS 32 (fun x => (fun s => s.size ≤ 140737488351232) x.1 ∧ (fun s => s.size ≤ 140737488351232) x.2)) x.1 ∧ (WfS 32 (fun x => (fun s => s.size ≤ 140737488351232) x.1 ∧ (fun s => s.size ≤ 140737488351232) x.2)) x.2) x.2) x.2)) x.1 ∧ (WfS 64 (fun x => (fun s => s.size ≤ 140737488351232) x.1 ∧ (fun x => (WfS 32 (fun x => (fun s => s.size ≤ 140737488351232) x.1 ∧ (fun s => s.size ≤ 140737488351232) x.2)) x.1 ∧ (WfS 16 (fun s => s.size ≤ 140737488351232)) x.2) x.2)) x.2) x.2) x.2) x.2) x0 → (fun x => (fun s => s.size ≤ 140737488351232) x.1 ∧ (fun x => (fun s => s.size ≤ 140737488351232) x.1 ∧ (WfS 96 (fun x => (fun s => s.size ≤ 140737488351232) x.1 ∧ (fun x => (fun n => (Lit.int .i64 n).wf = true) x.1 ∧ (fun x => (fun s => s.size ≤ 140737488351232) x.1 ∧ (fun x => (fun n => (Lit.int .i64 n).wf = true) x.1 ∧ (fun x => (WfS 16 (fun s => s.size ≤ 140737488351232)) x.1 ∧ (WfS 96 (fun x => (fun s => s.size ≤ 140737488351232) x.1 ∧ (fun x => (fun n => (Lit.int .i64 n).wf = true) x.1 ∧ (fun x => (fun s => s.size ≤ 140737488351232) x.1 ∧ (fun x => (fun n => (Lit.int .i64 n).wf = true) x.1 ∧ (fun x => (WfS 16 (fun s => s.size ≤ 140737488351232)) x.1 ∧ (fun _ => True) x.2) x.2) x.2) x.2) x.2)) x.2) x.2) x.2) x.2) x.2)) x.2) x.2) x1 → (WfS 32 (fun x => (fun s => s.size ≤ 140737488351232) x.1 ∧ (fun s => s.size ≤ 140737488351232) x.2)) x2 → (WfS 32 (fun x => (fun s => s.size ≤ 140737488351232) x.1 ∧ (fun s => s.size ≤ 140737488351232) x.2)) x3 → (fun x => (fun s => s.size ≤ 140737488351232) x.1 ∧ (WfS 32 (fun x => (fun s => s.size ≤ 140737488351232) x.1 ∧ (fun s => s.size ≤ 140737488351232) x.2)) x.2) x4 → ∃ k, S5 k (x0, x1, x2, x3, x4, ()) = some true
end Go.Proofs.YtonfimidgbppeaaGreatDoor.Ev

namespace Go.Proofs.YtonfimidgbppeaaGreatDoor.Ev
open Go.RowKit
set_option linter.unusedVariables false

/-- from some number of rounds on; l: the least of all numbers of rounds that matter -/
def Ult {ι R : Type} (l : ι → Nat) (f : ι → Option R) (r : R) : Prop := ∃ K, ∀ i, K ≤ l i → f i = some r
variable {ι R α : Type} {l : ι → Nat}
theorem Ult.ret {r : R} : Ult l (fun _ => some r) r := ⟨0, fun _ _ => rfl⟩
theorem Ult.congr {f g : ι → Option R} {r : R} (h : Ult l f r) (e : ∀ i, g i = f i) : Ult l g r := by
  obtain ⟨K, h⟩ := h
  exact ⟨K, fun i hi => (e i).trans (h i hi)⟩
theorem Ult.bind {f : ι → Option α} {g : ι → α → Option R} {a : α} {r : R} (h : Ult l f a) (k : Ult l (fun i => g i a) r) : Ult l (fun i => bnd (f i) (g i)) r := by
  obtain ⟨K, h⟩ := h
  obtain ⟨L, k⟩ := k
  refine ⟨max K L, fun i hi => ?_⟩
  show Option.bind (f i) (g i) = some r
  rw [h i (by omega)]
  exact k i (by omega)
theorem Ult.bindc {m : Option α} {g : ι → α → Option R} {a : α} {r : R} (h : m = some a) (k : Ult l (fun i => g i a) r) : Ult l (fun i => bnd m (g i)) r := Ult.bind ⟨0, fun _ _ => h⟩ k
theorem Ult.yes {c : Bool} {f g : ι → Option R} {r : R} (hc : c = true) (h : Ult l f r) : Ult l (fun i => cnd c (f i) (g i)) r := by subst hc; exact h
theorem Ult.no {c : Bool} {f g : ι → Option R} {r : R} (hc : c = false) (h : Ult l g r) : Ult l (fun i => cnd c (f i) (g i)) r := by subst hc; exact h
theorem Ult.ite {c : Bool} {f g : ι → Option R} {r : R} (h : c = true → Ult l f r) (k : c = false → Ult l g r) : Ult l (fun i => cnd c (f i) (g i)) r := by
  cases c
  · exact Ult.no rfl (k rfl)
  · exact Ult.yes rfl (h rfl)
/-- a function's own number of rounds -/
abbrev Ultk (f : Nat → Option R) (r : R) : Prop := Ult (fun k : Nat => k) f r
theorem Ult.call {f : Nat → Option R} {r : R} {k : ι → Nat} (hk : ∀ i, l i ≤ k i) (h : Ultk f r) : Ult l (fun i => f (k i)) r := by
  obtain ⟨K, h⟩ := h
  exact ⟨K, fun i hi => h (k i) (Nat.le_trans hi (hk i))⟩
theorem Ultk.call {f : Nat → Option R} {r : R} (h : Ultk f r) : Ultk (fun k => f k) r := h
/-- the rounds of a loop, told by a number of their own -/
def lp (l : ι → Nat) (p : ι × Nat) : Nat := min (l p.1) p.2
theorem lp_le (l : ι → Nat) (k : ι → Nat) (hk : ∀ i, l i ≤ k i) : ∀ p : ι × Nat, lp l p ≤ k p.1 := fun p => Nat.le_trans (Nat.min_le_left _ _) (hk _)
variable {X : Type}
theorem Ult.loop {st : ι → (X → Option R) → X → Option R} {x : X} {r : R} {k : ι → Nat} (hk : ∀ i, l i ≤ k i) (h : Ult (lp l) (fun p => loopN p.2 (st p.1) x) r) : Ult l (fun i => loopN (k i) (st i) x) r := by
  obtain ⟨K, h⟩ := h
  refine ⟨K, fun i hi => h (i, k i) ?_⟩
  have := hk i
  show K ≤ min (l i) (k i)
  omega
theorem Ult.round {st : ι → (X → Option R) → X → Option R} {x : X} {r : R} (h : Ult (lp l) (fun p => st p.1 (loopN p.2 (st p.1)) x) r) : Ult (lp l) (fun p => loopN p.2 (st p.1) x) r := by
  obtain ⟨K, h⟩ := h
  refine ⟨K + 1, fun p hp => ?_⟩
  obtain ⟨i, n⟩ := p
  have h1 : K + 1 ≤ min (l i) n := hp
  cases n with
  | zero => omega
  | succ n =>
    have h2 := h (i, n) (show K ≤ min (l i) n by omega)
    exact h2
/-- rounds by a measure -/
theorem Ult.rounds {st : ι → (X → Option R) → X → Option R} {r : R} (I : X → Prop) (μ : X → Nat) (h : ∀ x, I x → (∀ y, I y → μ y < μ x → Ult (lp l) (fun p => loopN p.2 (st p.1) y) r) → Ult (lp l) (fun p => st p.1 (loopN p.2 (st p.1)) x) r) :
    ∀ x, I x → Ult (lp l) (fun p => loopN p.2 (st p.1) x) r := by
  intro x
  generalize hn : μ x = n
  induction n using Nat.strongRecOn generalizing x with
  | _ n ih =>
    intro hI
    refine Ult.round (h x hI fun y hy hlt => ih (μ y) (by omega) y rfl hy)

/-- a loop by an invariant and a measure -/
theorem Ult.loopI {st : ι → (X → Option R) → X → Option R} {x : X} {r : R} {k : ι → Nat} (hk : ∀ i, l i ≤ k i) (I : X → Prop) (μ : X → Nat) (h0 : I x)
    (h : ∀ x, I x → (∀ y, I y → μ y < μ x → Ult (lp l) (fun p => loopN p.2 (st p.1) y) r) → Ult (lp l) (fun p => st p.1 (loopN p.2 (st p.1)) x) r) : Ult l (fun i => loopN (k i) (st i) x) r :=
  Ult.loop hk (Ult.rounds I μ h x h0)

/-! ### total correctness: it ends, and with what is wanted -/
def Fin {ι R : Type} (l : ι → Nat) (f : ι → Option R) (Q : R → Prop) : Prop := ∃ r, Q r ∧ Ult l f r
abbrev Fink {R : Type} (f : Nat → Option R) (Q : R → Prop) : Prop := Fin (fun k : Nat => k) f Q
variable {Q : R → Prop}
theorem Fin.ret {r : R} (h : Q r) : Fin l (fun _ => some r) Q := ⟨r, h, Ult.ret⟩
theorem Fin.bind {f : ι → Option α} {g : ι → α → Option R} {Qa : α → Prop} (h : Fin l f Qa) (k : ∀ a, Qa a → Fin l (fun i => g i a) Q) : Fin l (fun i => bnd (f i) (g i)) Q := by
  obtain ⟨a, ha, h⟩ := h
  obtain ⟨r, hr, k⟩ := k a ha
  exact ⟨r, hr, Ult.bind h k⟩
theorem Fin.bindu {f : ι → Option α} {g : ι → α → Option R} {a : α} (h : Ult l f a) (k : Fin l (fun i => g i a) Q) : Fin l (fun i => bnd (f i) (g i)) Q := by
  obtain ⟨r, hr, k⟩ := k
  exact ⟨r, hr, Ult.bind h k⟩
theorem Fin.bindc {m : Option α} {g : ι → α → Option R} {a : α} (h : m = some a) (k : Fin l (fun i => g i a) Q) : Fin l (fun i => bnd m (g i)) Q := Fin.bindu ⟨0, fun _ _ => h⟩ k
theorem Fin.ite {c : Bool} {f g : ι → Option R} (h : c = true → Fin l f Q) (k : c = false → Fin l g Q) : Fin l (fun i => cnd c (f i) (g i)) Q := by
  cases c
  · exact k rfl
  · exact h rfl
theorem Fin.mono {Q' : R → Prop} {f : ι → Option R} (h : Fin l f Q) (k : ∀ r, Q r → Q' r) : Fin l f Q' := by
  obtain ⟨r, hr, h⟩ := h
  exact ⟨r, k r hr, h⟩
theorem Fin.of {f : ι → Option R} {r : R} (h : Ult l f r) (hq : Q r) : Fin l f Q := ⟨r, hq, h⟩
theorem Fin.ult {f : ι → Option R} {r : R} (h : Fin l f (fun x => x = r)) : Ult l f r := by
  obtain ⟨_, rfl, h⟩ := h
  exact h
theorem Fin.call {f : Nat → Option R} {k : ι → Nat} (hk : ∀ i, l i ≤ k i) (h : Fink f Q) : Fin l (fun i => f (k i)) Q := by
  obtain ⟨r, hr, h⟩ := h
  exact ⟨r, hr, Ult.call hk h⟩
/-- a loop by an invariant and a measure -/
theorem Fin.loopI {st : ι → (X → Option R) → X → Option R} {x : X} {k : ι → Nat} (hk : ∀ i, l i ≤ k i) (I : X → Prop) (μ : X → Nat) (h0 : I x)
    (h : ∀ x, I x → (∀ y, I y → μ y < μ x → Fin (lp l) (fun p => loopN p.2 (st p.1) y) Q) → Fin (lp l) (fun p => st p.1 (loopN p.2 (st p.1)) x) Q) : Fin l (fun i => loopN (k i) (st i) x) Q := by
  have key : ∀ (n : Nat) (x : X), μ x = n → I x → Fin (lp l) (fun p => loopN p.2 (st p.1) x) Q := by
    intro n
    induction n using Nat.strongRecOn with
    | _ n ih =>
      intro x hn hI
      obtain ⟨r, hr, hu⟩ := h x hI fun y hy hlt => ih (μ y) (by omega) y rfl hy
      exact ⟨r, hr, Ult.round hu⟩
  obtain ⟨r, hr, hu⟩ := key _ x rfl h0
  exact ⟨r, hr, Ult.loop hk hu⟩
theorem Ult.lift {f : ι → Option R} {r : R} (h : Ult l f r) : Ult (lp l) (fun q => f q.1) r := by
  obtain ⟨K, h⟩ := h
  exact ⟨K, fun q hq => h q.1 (Nat.le_trans hq (Nat.min_le_left _ _))⟩
theorem Fin.lift {f : ι → Option R} (h : Fin l f Q) : Fin (lp l) (fun q => f q.1) Q := by
  obtain ⟨r, hr, h⟩ := h
  exact ⟨r, hr, h.lift⟩
theorem Ultk.unique {f : Nat → Option R} {a b : R} (h : Ultk f a) (k : Ultk f b) : a = b := by
  obtain ⟨K, h⟩ := h
  obtain ⟨L, k⟩ := k
  have h1 := h (max K L) (Nat.le_max_left _ _)
  rw [k (max K L) (Nat.le_max_right _ _)] at h1
  exact (Option.some.inj h1).symm

/-! ### the operations -/
theorem wrap64 {n : Int} (h0 : -9223372036854775808 ≤ n) (h1 : n ≤ 9223372036854775807) : IntKind.i64.wrap n = n := by
  rw [IntKind.wrap_i64]; omega
theorem iadd64 {a b : Int} (h0 : -9223372036854775808 ≤ a + b) (h1 : a + b ≤ 9223372036854775807) : iadd .i64 a b = a + b := wrap64 h0 h1
theorem isub64 {a b : Int} (h0 : -9223372036854775808 ≤ a - b) (h1 : a - b ≤ 9223372036854775807) : isub .i64 a b = a - b := wrap64 h0 h1
theorem at?_nat {l : List α} {i : Nat} (h : i < l.length) : at? l (i : Int) = some l[i] := by
  unfold at?
  rw [if_pos (Int.natCast_nonneg _), Int.toNat_natCast, List.getElem?_eq_getElem h]
theorem bt?_nat {s : ByteArray} {i : Nat} (h : i < s.size) : bt? s (i : Int) = some (bt s (i : Int)) := by
  unfold bt?
  rw [if_pos ⟨Int.natCast_nonneg _, by omega⟩]
theorem len_def {l : List α} : len l = (l.length : Int) := rfl

end Go.Proofs.YtonfimidgbppeaaGreatDoor.Ev

namespace Go.Proofs.YtonfimidgbppeaaGreatDoor.Ev
open Go Go.RowKit
set_option linter.unusedVariables false
set_option linter.unusedSimpArgs false
variable {ι R X A α β : Type} {l : ι → Nat}

/-- a loop by an index and what is gathered; 'res': what comes of it from there on -/
theorem Ult.forA {st : ι → (X → Option R) → X → Option R} {k : ι → Nat} (hk : ∀ i, l i ≤ k i) (n : Nat) (mk : A → Nat → X) (I : A → Nat → Prop) (res : A → Nat → R) (a0 : A) (h0 : I a0 0)
    (h : ∀ a j, j ≤ n → I a j → (∀ a', j < n → I a' (j + 1) → Ult (lp l) (fun p => loopN p.2 (st p.1) (mk a' (j + 1))) (res a' (j + 1))) → Ult (lp l) (fun p => st p.1 (loopN p.2 (st p.1)) (mk a j)) (res a j)) :
    Ult l (fun i => loopN (k i) (st i) (mk a0 0)) (res a0 0) := by
  have key : ∀ (d j : Nat) (a : A), n - j = d → j ≤ n → I a j → Ult (lp l) (fun p => loopN p.2 (st p.1) (mk a j)) (res a j) := by
    intro d
    induction d with
    | zero => intro j a hd hj hI; exact Ult.round (h a j hj hI fun a' hlt _ => by omega)
    | succ d ih => intro j a hd hj hI; exact Ult.round (h a j hj hI fun a' hlt hI' => ih (j + 1) a' (by omega) (by omega) hI')
  exact Ult.loop hk (key n 0 a0 (by omega) (Nat.zero_le _) h0)
theorem Ult.forI {st : ι → (Int → Option R) → Int → Option R} {k : ι → Nat} (hk : ∀ i, l i ≤ k i) (n : Nat) (res : Nat → R)
    (h : ∀ j, j ≤ n → (j < n → Ult (lp l) (fun p => loopN p.2 (st p.1) ((j + 1 : Nat) : Int)) (res (j + 1))) → Ult (lp l) (fun p => st p.1 (loopN p.2 (st p.1)) (j : Int)) (res j)) :
    Ult l (fun i => loopN (k i) (st i) 0) (res 0) :=
  Ult.forA (A := Unit) hk n (fun _ j => (j : Int)) (fun _ _ => True) (fun _ j => res j) () trivial fun _ j hj _ hn => h j hj fun hlt => hn () hlt trivial
theorem Ult.jn {f : ι → (X → Option R) → Option R} {g : ι → X → Option R} {r : R} (h : Ult l (fun i => f i (g i)) r) : Ult l (fun i => jn (f i) (g i)) r := h
theorem Ult.eq {f : ι → Option R} {r r' : R} (h : Ult l f r) (e : r = r') : Ult l f r' := e ▸ h
theorem Ult.iteS {c : Bool} {f g : ι → Option R} {r r' : R} (h : c = true → Ult l f r) (k : c = false → Ult l g r') : Ult l (fun i => cnd c (f i) (g i)) (if c then r else r') := by
  cases c
  · exact Ult.no rfl (k rfl)
  · exact Ult.yes rfl (h rfl)
theorem Ult.ifS {c : Bool} {p : Prop} [Decidable p] (e : c = decide p) {f g : ι → Option R} {r r' : R} (h : p → Ult l f r) (k : ¬ p → Ult l g r') : Ult l (fun i => cnd c (f i) (g i)) (if p then r else r') := by
  subst e
  by_cases hp : p
  · rw [if_pos hp]; exact Ult.yes (decide_eq_true hp) (h hp)
  · rw [if_neg hp]; exact Ult.no (decide_eq_false hp) (k hp)

/-! ### operations -/
theorem seq_eq (a b : ByteArray) : seq a b = decide (a = b) := by
  unfold seq
  by_cases h : a = b
  · subst h; simp
  · rw [decide_eq_false h, beq_eq_false_iff_ne]
    intro e
    refine h ?_
    rw [ByteArray.toList_eq, ByteArray.toList_eq] at e
    obtain ⟨⟨x⟩⟩ := a
    obtain ⟨⟨y⟩⟩ := b
    simpa using e
theorem sne_eq (a b : ByteArray) : sne a b = decide (a ≠ b) := by
  have := seq_eq a b
  unfold seq at this
  unfold sne
  rw [this]
  by_cases h : a = b <;> simp [h]
theorem ieq_eq (a b : Int) : ieq a b = decide (a = b) := by
  unfold ieq
  by_cases h : a = b <;> simp [h]
theorem ine_eq (a b : Int) : ine a b = decide (a ≠ b) := by
  unfold ine
  by_cases h : a = b <;> simp [h]
theorem igt_eq (a b : Int) : igt a b = decide (b < a) := rfl
theorem ige_eq (a b : Int) : ige a b = decide (b ≤ a) := rfl
theorem ilt_eq (a b : Int) : ilt a b = decide (a < b) := rfl
theorem ile_eq (a b : Int) : ile a b = decide (a ≤ b) := rfl
theorem bnot_eq (a : Bool) : bnot a = !a := rfl
theorem iltL (j : Nat) (l : List α) : ilt (j : Int) (len l) = decide (j < l.length) := by
  unfold ilt len
  by_cases h : j < l.length
  · rw [decide_eq_true h, decide_eq_true (by omega)]
  · rw [decide_eq_false h, decide_eq_false (by omega)]
theorem igt0 (j : Nat) : igt (j : Int) 0 = decide (0 < j) := by
  unfold igt
  by_cases h : 0 < j
  · rw [decide_eq_true h, decide_eq_true (by omega)]
  · rw [decide_eq_false h, decide_eq_false (by omega)]
theorem isucc {j n : Nat} (h : j < n) (hn : n ≤ 9223372036854775807) : iadd .i64 (j : Int) 1 = ((j + 1 : Nat) : Int) := by rw [iadd64 (by omega) (by omega)]; rfl
theorem ipred {j n : Nat} (h0 : 0 < j) (h : j ≤ n) (hn : n ≤ 9223372036854775807) : isub .i64 (j : Int) 1 = ((j - 1 : Nat) : Int) := by rw [isub64 (by omega) (by omega)]; omega
theorem app?_ok {b : Nat} {l r : List α} (h : (l.length + r.length) * (max b 1) ≤ 140737488355328) : app? b l r = some (l ++ r) := by unfold app?; rw [if_pos h]
theorem cat?_ok {a b : ByteArray} (h : a.size + b.size ≤ 9223372036854775807) : cat? a b = some (a ++ b) := by unfold cat?; rw [if_pos h]
theorem cut?_take {l : List α} {j : Nat} (h : j ≤ l.length) : cut? l 0 (j : Int) = some (l.take j) := by
  unfold cut?
  rw [if_pos ⟨Int.le_refl _, by omega, by omega⟩]
  simp
theorem kbeq_pair (a b : ByteArray × ByteArray) : kbeq (.agg (.pair .str .str)) a b = decide (a = b) := by
  show (seq a.1 b.1 && seq a.2 b.2) = _
  rw [seq_eq, seq_eq]
  by_cases h1 : a.1 = b.1 <;> by_cases h2 : a.2 = b.2 <;> simp [h1, h2, Prod.ext_iff]
theorem drop_cons {l : List α} {j : Nat} (h : j < l.length) : l.drop j = l[j] :: l.drop (j + 1) := List.drop_eq_getElem_cons h

/-! ### strings in order -/
def lt (a b : ByteArray) : Prop := a.data.toList < b.data.toList
theorem slt_eq (a b : ByteArray) : slt a b = decide (a.data.toList < b.data.toList) := by
  unfold slt
  rw [ByteArray.toList_eq, ByteArray.toList_eq]
  exact bytesLess_eq _ _
theorem bytes_ext {a b : ByteArray} (h : a.data.toList = b.data.toList) : a = b := by
  obtain ⟨⟨x⟩⟩ := a
  obtain ⟨⟨y⟩⟩ := b
  simpa using h
theorem sle_eq (a b : ByteArray) : sle a b = decide (¬ b.data.toList < a.data.toList) := by
  have h : sle a b = (Op.bytesLess a.toList b.toList || a.toList == b.toList) := rfl
  rw [h, ByteArray.toList_eq, ByteArray.toList_eq, bytesLess_eq]
  by_cases h1 : a.data.toList < b.data.toList
  · simp [h1, List.lt_asymm h1]
  · by_cases h2 : a.data.toList = b.data.toList
    · rw [h2]; simp [List.lt_irrefl]
    · have h3 : b.data.toList < a.data.toList := by
        rcases List.le_total a.data.toList b.data.toList with q | q
        · rcases List.le_iff_lt_or_eq.1 q with q | q
          · exact absurd q h1
          · exact absurd q h2
        · rcases List.le_iff_lt_or_eq.1 q with q | q
          · exact q
          · exact absurd q.symm h2
      have h4 : ¬ a.data = b.data := fun e => h2 (by rw [e])
      simp [h1, h4, h3]
end Go.Proofs.YtonfimidgbppeaaGreatDoor.Ev

namespace Go.Proofs.YtonfimidgbppeaaGreatDoor.Ev
open Go Go.RowKit
set_option linter.unusedVariables false
set_option linter.unusedSimpArgs false
theorem bt_get {s : ByteArray} {j : Nat} (h : j < s.size) : bt s (j : Int) = ((s.data.toList[j]'(by simpa using h)).toNat : Int) := by
  unfold bt
  rw [dif_pos (by simpa using h)]
  simp [ByteArray.getElem_eq_getElem_data]
theorem bt?_get {s : ByteArray} {j : Nat} (h : j < s.size) : bt? s (j : Int) = some (bt s (j : Int)) := by unfold bt?; rw [if_pos ⟨Int.natCast_nonneg _, by omega⟩]
theorem toList_len (s : ByteArray) : s.data.toList.length = s.size := by simp
theorem iltS (j : Nat) (s : ByteArray) : ilt (j : Int) (ssz s) = decide (j < s.size) := by
  unfold ilt ssz
  by_cases h : j < s.size
  · rw [decide_eq_true h, decide_eq_true (by omega)]
  · rw [decide_eq_false h, decide_eq_false (by omega)]
/-- a byte of a word -/
def wc (c : Int) : Bool := decide (97 ≤ c ∧ c ≤ 122) || decide (48 ≤ c ∧ c ≤ 57) || decide (c = 45) || decide (c = 95)
def allW (l : List UInt8) : Bool := l.all fun b => wc (b.toNat : Int)
def isWord (s : ByteArray) : Bool := decide (1 ≤ s.size ∧ s.size ≤ 40) && (decide (97 ≤ bt s 0 ∧ bt s 0 ≤ 122) && allW s.data.toList)
theorem isWord_size {s : ByteArray} (h : isWord s = true) : 1 ≤ s.size ∧ s.size ≤ 40 := by
  simp only [isWord, Bool.and_eq_true, decide_eq_true_eq] at h
  exact h.1
theorem isWord_all {s : ByteArray} (h : isWord s = true) : allW s.data.toList = true := by
  simp only [isWord, Bool.and_eq_true, decide_eq_true_eq] at h
  exact h.2.2
def wset : List UInt8 := [97, 98, 99, 100, 101, 102, 103, 104, 105, 106, 107, 108, 109, 110, 111, 112, 113, 114, 115, 116, 117, 118, 119, 120, 121, 122, 48, 49, 50, 51, 52, 53, 54, 55, 56, 57, 95, 45]
theorem wset_mem (b : UInt8) : wset.contains b = wc (b.toNat : Int) := by
  have key : ∀ n : _root_.Fin 256, wset.contains (UInt8.ofNat n.1) = wc ((UInt8.ofNat n.1).toNat : Int) := by decide +kernel
  have := key ⟨b.toNat, b.toNat_lt⟩
  simpa using this
theorem dropWhile_nil {α : Type} {p : α → Bool} : ∀ {l : List α}, l.dropWhile p = [] ↔ ∀ x ∈ l, p x = true
  | [] => by simp
  | a :: l => by
    cases h : p a with
    | true => simp [List.dropWhile, h, dropWhile_nil (l := l)]
    | false => simp [List.dropWhile, h]
theorem trimS_nil (l cs : List UInt8) : (Lib.trimS l cs = []) ↔ ∀ b ∈ l, cs.contains b = true := by
  unfold Lib.trimS Lib.trimLeftS Lib.trimRightS
  constructor
  · intro h
    rw [dropWhile_nil] at h
    have h2 : l.reverse.dropWhile (cs.contains ·) = [] := by
      cases hd : l.reverse.dropWhile (cs.contains ·) with
      | nil => rfl
      | cons a r =>
        have h3 := h a (by rw [hd]; simp)
        have h4 : ((l.reverse.dropWhile (cs.contains ·)).head?).all (fun x => !(cs.contains x)) = true := by
          have := List.head?_dropWhile_not (cs.contains ·) l.reverse
          rw [hd] at this ⊢
          simpa using this
        rw [hd] at h4
        simp only [List.head?_cons, Option.all_some, Bool.not_eq_true'] at h4
        rw [h4] at h3; cases h3
    rw [dropWhile_nil] at h2
    intro b hb
    exact h2 b (by simpa using hb)
  · intro h
    have h2 : l.reverse.dropWhile (cs.contains ·) = [] := by
      rw [dropWhile_nil]
      intro b hb
      exact h b (by simpa using hb)
    rw [h2]; rfl
theorem all_contains (l : List UInt8) : (∀ b ∈ l, wset.contains b = true) ↔ allW l = true := by
  unfold allW
  rw [List.all_eq_true]
  exact ⟨fun h b hb => by rw [← wset_mem]; exact h b hb, fun h b hb => by rw [wset_mem]; exact h b hb⟩
/-- config.IsWord -/
theorem S113_spec (s : ByteArray) (hs : s.size ≤ 9223372036854775807) : Ultk (fun k => S113 k (s, ())) (isWord s) := by
  unfold S113 isWord
  refine Ult.jn ?_
  dsimp only
  by_cases h1 : s.size < 1
  · refine Ult.yes (by simp only [ilt_eq, ssz, decide_eq_true_eq]; omega) (Ult.yes rfl (Ult.ret.eq ?_))
    rw [decide_eq_false (by omega)]; rfl
  refine Ult.no (by simp only [ilt_eq, ssz, decide_eq_false_iff_not]; omega) ?_
  by_cases h2 : 40 < s.size
  · refine Ult.yes (by simp only [igt_eq, ssz, decide_eq_true_eq]; omega) (Ult.yes rfl (Ult.ret.eq ?_))
    rw [decide_eq_false (by omega)]; rfl
  refine Ult.no (by simp only [igt_eq, ssz, decide_eq_false_iff_not]; omega) ?_
  have h0 : bt? s 0 = some (bt s 0) := bt?_get (j := 0) (by omega)
  rw [decide_eq_true (show 1 ≤ s.size ∧ s.size ≤ 40 by omega), Bool.true_and]
  refine Ult.bindc h0 ?_
  by_cases h3 : bt s 0 < 97
  · refine Ult.yes (decide_eq_true h3) (Ult.yes rfl (Ult.ret.eq ?_))
    rw [decide_eq_false (by omega)]; rfl
  refine Ult.no (decide_eq_false h3) (Ult.bindc h0 ?_)
  by_cases h4 : 122 < bt s 0
  · refine Ult.yes (decide_eq_true h4) (Ult.ret.eq ?_)
    rw [decide_eq_false (by omega)]; rfl
  refine Ult.no (decide_eq_false h4) ?_
  rw [decide_eq_true (show 97 ≤ bt s 0 ∧ bt s 0 ≤ 122 by omega), Bool.true_and]
  have hc : (⟨#[97, 98, 99, 100, 101, 102, 103, 104, 105, 106, 107, 108, 109, 110, 111, 112, 113, 114, 115, 116, 117, 118, 119, 120, 121, 122, 48, 49, 50, 51, 52, 53, 54, 55, 56, 57, 95, 45]⟩ : ByteArray).data.toList = wset := rfl
  have ht : ∀ k, S157 k (s, (⟨#[97, 98, 99, 100, 101, 102, 103, 104, 105, 106, 107, 108, 109, 110, 111, 112, 113, 114, 115, 116, 117, 118, 119, 120, 121, 122, 48, 49, 50, 51, 52, 53, 54, 55, 56, 57, 95, 45]⟩ : ByteArray), ()) = some ⟨(Lib.trimS s.data.toList wset).toArray⟩ := fun k => by
    show trimF s (⟨#[97, 98, 99, 100, 101, 102, 103, 104, 105, 106, 107, 108, 109, 110, 111, 112, 113, 114, 115, 116, 117, 118, 119, 120, 121, 122, 48, 49, 50, 51, 52, 53, 54, 55, 56, 57, 95, 45]⟩ : ByteArray) = _
    unfold trimF
    rw [if_pos ⟨hs, by decide, by decide⟩, hc]
  refine Ult.bind ⟨0, fun k _ => ht k⟩ (Ult.ret.eq ?_)
  rw [seq_eq]
  by_cases h5 : allW s.data.toList = true
  · rw [h5]
    refine decide_eq_true ?_
    rw [(trimS_nil _ _).2 ((all_contains _).2 h5)]
  · rw [Bool.not_eq_true] at h5
    rw [h5]
    refine decide_eq_false fun e => ?_
    have : Lib.trimS s.data.toList wset = [] := by
      have := congrArg (fun b : ByteArray => b.data.toList) e
      simpa using this
    rw [trimS_nil, all_contains, h5] at this
    cases this
theorem wc_tree {R : Type} (c : Int) (J : Bool → Option R) : cnd (ilt c 97) (cnd (ilt c 48) (cnd (ine c 45) (J (ine c 95)) (J false)) (cnd (igt c 57) (cnd (ine c 45) (J (ine c 95)) (J false)) (J false))) (cnd (igt c 122) (cnd (ilt c 48) (cnd (ine c 45) (J (ine c 95)) (J false)) (cnd (igt c 57) (cnd (ine c 45) (J (ine c 95)) (J false)) (J false))) (J false)) = J (!wc c) := by
  rcases (by omega : c = 95 ∨ c = 45 ∨ (c < 48 ∧ c ≠ 45) ∨ (48 ≤ c ∧ c ≤ 57) ∨ (58 ≤ c ∧ c < 97 ∧ c ≠ 95) ∨ (97 ≤ c ∧ c ≤ 122) ∨ 122 < c) with h | h | h | h | h | h | h <;>
    simp (disch := omega) only [ilt_eq, igt_eq, ine_eq, wc, cnd, decide_eq_true, decide_eq_false, cond_true, cond_false, Bool.or_true, Bool.or_false, Bool.not_true, Bool.not_false, Bool.true_or, Bool.false_or]
end Go.Proofs.YtonfimidgbppeaaGreatDoor.Ev

namespace Go.Proofs.YtonfimidgbppeaaGreatDoor.Ev
open Go Go.RowKit
set_option linter.unusedVariables false
set_option linter.unusedSimpArgs false
variable {ι : Type} {l : ι → Nat} {α : Type}
abbrev Setting : Type := ByteArray × List ByteArray
abbrev Pair : Type := ByteArray × ByteArray

/-! ### searches -/
/-- the place of the first that is wanted, or -1 -/
def idxF (p : α → Bool) : Nat → List α → Int
  | _, [] => -1
  | j, a :: r => if p a = true then (j : Int) else idxF p (j + 1) r
theorem idxF_cases (p : α → Bool) : ∀ (j : Nat) (L : List α), (idxF p j L = -1 ∧ L.find? p = none) ∨ ∃ (i : Nat) (h : i < L.length), idxF p j L = ((j + i : Nat) : Int) ∧ L.find? p = some L[i] ∧ p L[i] = true
  | j, [] => .inl ⟨rfl, rfl⟩
  | j, a :: r => by
    cases h : p a with
    | true => exact .inr ⟨0, by simp, by simp [idxF, h], by simp [h], by simpa using h⟩
    | false =>
      rcases idxF_cases p (j + 1) r with ⟨h1, h2⟩ | ⟨i, hi, h1, h2, h3⟩
      · exact .inl ⟨by simp [idxF, h, h1], by simp [h, h2]⟩
      · exact .inr ⟨i + 1, by simpa using hi, by simp only [idxF, h, Bool.false_eq_true, if_false, h1]; congr 1; omega, by simp [h, h2], by simpa using h3⟩
theorem idxF_neg {p : α → Bool} {L : List α} : idxF p 0 L < 0 ↔ L.find? p = none := by
  rcases idxF_cases p 0 L with ⟨h1, h2⟩ | ⟨i, hi, h1, h2, h3⟩
  · simp [h1, h2]
  · rw [h1, h2]
    constructor
    · intro h; omega
    · intro h; cases h
theorem idxF_at {p : α → Bool} {L : List α} {a : α} (h : L.find? p = some a) : at? L (idxF p 0 L) = some a ∧ 0 ≤ idxF p 0 L := by
  rcases idxF_cases p 0 L with ⟨h1, h2⟩ | ⟨i, hi, h1, h2, h3⟩
  · rw [h2] at h; cases h
  · rw [h1, Nat.zero_add, at?_nat hi, ← h2, h]
    exact ⟨rfl, Int.natCast_nonneg _⟩
theorem len_big {b : Nat} {L : List α} (h : L.length * b ≤ 140737488351232) (hb : 0 < b) : L.length ≤ 140737488351232 := by
  have : L.length * 1 ≤ L.length * b := Nat.mul_le_mul_left _ hb
  omega
theorem S106_spec (L : List ByteArray) (x : ByteArray) (hL : L.length ≤ 9223372036854775807) : Ultk (fun k => S106 k (L, x, ())) (idxF (fun a => decide (x = a)) 0 L) := by
  unfold S106
  refine (Ult.forI (fun _ => Nat.le_refl _) L.length (fun j => idxF (fun a => decide (x = a)) j (L.drop j)) fun j hj next => ?_).eq (by rw [List.drop_zero])
  dsimp only
  rw [iltL]
  by_cases hlt' : ¬ j < L.length
  · refine Ult.no (decide_eq_false hlt') (Ult.ret.eq ?_)
    rw [List.drop_eq_nil_of_le (by omega)]; rfl
  have hlt : j < L.length := Decidable.not_not.1 hlt'
  refine Ult.yes (decide_eq_true hlt) (Ult.bindc (at?_nat hlt) ?_)
  rw [drop_cons hlt, idxF, isucc hlt hL]
  exact Ult.ifS (by rw [seq_eq]; simp) (fun h => Ult.ret) (fun h => next hlt)
theorem any_mem (L : List ByteArray) (x : ByteArray) : (L.find? (fun a => decide (x = a)) = none) ↔ x ∉ L := by
  rw [List.find?_eq_none]
  constructor
  · intro h hx; exact h x hx (by simp)
  · intro h a ha e
    have e := of_decide_eq_true e
    exact h (e ▸ ha)
def memB (L : List ByteArray) (x : ByteArray) : Bool := L.any fun a => decide (x = a)
theorem memB_iff {L : List ByteArray} {x : ByteArray} : memB L x = true ↔ x ∈ L := by
  unfold memB
  rw [List.any_eq_true]
  exact ⟨fun ⟨a, ha, e⟩ => of_decide_eq_true e ▸ ha, fun h => ⟨x, h, decide_eq_true rfl⟩⟩
theorem S61_spec (L : List ByteArray) (x : ByteArray) (hL : L.length ≤ 9223372036854775807) : Ultk (fun k => S61 k (L, x, ())) (memB L x) := by
  unfold S61
  refine Ult.bind (S106_spec L x hL) (Ult.ret.eq ?_)
  rw [ige_eq]
  by_cases h : x ∈ L
  · rw [memB_iff.2 h]
    refine decide_eq_true ?_
    rcases Int.lt_or_le (idxF (fun a => decide (x = a)) 0 L) 0 with q | q
    · exact absurd h ((any_mem _ _).1 (idxF_neg.1 q))
    · exact q
  · have h' : memB L x = false := by
      cases hb : memB L x with
      | false => rfl
      | true => exact absurd (memB_iff.1 hb) h
    rw [h']
    have := idxF_neg.2 ((any_mem L x).2 h)
    exact decide_eq_false (by omega)
/-- slices.IndexFunc at settings -/
theorem S103_spec {kk : ι → Nat} (hk : ∀ i, l i ≤ kk i) (L : List Setting) (f : ι → Setting → Option Bool) (p : Setting → Bool) (hf : ∀ a, Ult l (fun i => f i a) (p a)) (hL : L.length ≤ 9223372036854775807) :
    Ult l (fun i => S103 (kk i) (L, f i, ())) (idxF p 0 L) := by
  unfold S103
  refine (Ult.forI hk L.length (fun j => idxF p j (L.drop j)) fun j hj next => ?_).eq (by rw [List.drop_zero])
  dsimp only
  rw [iltL]
  by_cases hlt' : ¬ j < L.length
  · refine Ult.no (decide_eq_false hlt') (Ult.ret.eq ?_)
    rw [List.drop_eq_nil_of_le (by omega)]; rfl
  have hlt : j < L.length := Decidable.not_not.1 hlt'
  refine Ult.yes (decide_eq_true hlt) (Ult.bindc (at?_nat hlt) (Ult.bind (hf _).lift ?_))
  rw [drop_cons hlt, idxF, isucc hlt hL]
  exact Ult.ifS (by simp) (fun h => Ult.ret) (fun h => next hlt)
/-- the first setting of a name -/
def look (L : List (ByteArray × α)) (n : ByteArray) : Option (ByteArray × α) := L.find? fun s => decide (s.1 = n)
theorem look_name {L : List (ByteArray × α)} {n : ByteArray} {s : ByteArray × α} (h : look L n = some s) : s ∈ L ∧ s.1 = n := by
  unfold look at h
  exact ⟨List.mem_of_find?_eq_some h, of_decide_eq_true (List.find?_some (p := fun s : ByteArray × α => decide (s.1 = n)) h)⟩
def idxN (L : List (ByteArray × α)) (n : ByteArray) : Int := idxF (fun s => decide (s.1 = n)) 0 L
theorem S59_spec (L : List Setting) (n : ByteArray) (hL : L.length ≤ 9223372036854775807) : Ultk (fun k => S59 k (L, n, ())) (idxN L n) := by
  unfold S59
  have h := S103_spec (l := fun k => k) (fun _ => Nat.le_refl _) L (fun k a => S104 k (a, n, ())) (fun s => decide (s.1 = n)) (fun a => Ult.ret.eq (seq_eq _ _)) hL
  exact Ult.bind h Ult.ret
def lookS (L : List Setting) (n : ByteArray) : Setting × Bool := match look L n with
  | some s => (s, true)
  | none => ((⟨#[]⟩, []), false)
def lookV (L : List Pair) (n : ByteArray) : ByteArray × Bool := match look L n with
  | some s => (s.2, true)
  | none => (⟨#[]⟩, false)
theorem S105_spec (L : List Pair) (n : ByteArray) (hL : L.length ≤ 9223372036854775807) : Ultk (fun k => S105 k (L, n, ())) (lookV L n) := by
  unfold S105
  refine (Ult.forI (fun _ => Nat.le_refl _) L.length (fun j => lookV (L.drop j) n) fun j hj next => ?_).eq (by rw [List.drop_zero])
  dsimp only
  rw [iltL]
  by_cases hlt' : ¬ j < L.length
  · refine Ult.no (decide_eq_false hlt') (Ult.ret.eq ?_)
    rw [List.drop_eq_nil_of_le (by omega)]; rfl
  have hlt : j < L.length := Decidable.not_not.1 hlt'
  refine Ult.yes (decide_eq_true hlt) (Ult.bindc (at?_nat hlt) ?_)
  have e : lookV (L.drop j) n = if L[j].1 = n then (L[j].2, true) else lookV (L.drop (j + 1)) n := by
    rw [drop_cons hlt]
    unfold lookV look
    by_cases h : L[j].1 = n
    · rw [if_pos h, List.find?_cons_of_pos (by simpa using h)]
    · rw [if_neg h, List.find?_cons_of_neg (by simpa using h)]
  rw [e, isucc hlt hL]
  exact Ult.ifS (seq_eq _ _) (fun h => Ult.ret) (fun h => next hlt)

/-! ### settings -/
/-- not above the one before -/
def notAbove (prev : Option ByteArray) (n : ByteArray) : Bool := match prev with
  | none => false
  | some m => sle n m
def chkVals : List ByteArray → List ByteArray → Int
  | _, [] => 0
  | seen, v :: r => if isWord v = false then 5 else if memB seen v = true then 7 else chkVals (seen ++ [v]) r
def chkSets : Option ByteArray → List Setting → Int
  | _, [] => 0
  | prev, s :: r => if isWord s.1 = false then 5 else if s.2 = [] then 9 else if 20 < s.2.length then 2 else if chkVals [] s.2 ≠ 0 then chkVals [] s.2 else if notAbove prev s.1 = true then 8 else chkSets (some s.1) r
def chkSettings (L : List Setting) : Int := if 30 < L.length then 2 else chkSets none L
def prevOf (L : List (ByteArray × α)) (j : Nat) : Option ByteArray := if h : 0 < j ∧ j - 1 < L.length then some (L[j - 1]'h.2).1 else none
theorem prevOf_zero (L : List (ByteArray × α)) : prevOf L 0 = none := rfl
theorem prevOf_succ {L : List (ByteArray × α)} {j : Nat} (h : j < L.length) : prevOf L (j + 1) = some L[j].1 := by unfold prevOf; rw [dif_pos ⟨Nat.succ_pos _, by simpa using h⟩]; simp
/-- sizes of settings as they come -/
def SetSz (L : List Setting) : Prop := L.length * 40 ≤ 140737488351232 ∧ ∀ s ∈ L, s.1.size ≤ 140737488351232 ∧ s.2.length * 16 ≤ 140737488351232 ∧ ∀ v ∈ s.2, v.size ≤ 140737488351232
theorem SetSz.len {L : List Setting} (h : SetSz L) : L.length ≤ 140737488351232 := len_big h.1 (by omega)
def PairSz (L : List Pair) : Prop := L.length * 32 ≤ 140737488351232 ∧ ∀ s ∈ L, s.1.size ≤ 140737488351232 ∧ s.2.size ≤ 140737488351232
theorem PairSz.len {L : List Pair} (h : PairSz L) : L.length ≤ 140737488351232 := len_big h.1 (by omega)

end Go.Proofs.YtonfimidgbppeaaGreatDoor.Ev

namespace Go.Proofs.YtonfimidgbppeaaGreatDoor.Ev
open Go Go.RowKit
set_option linter.unusedVariables false
set_option linter.unusedSimpArgs false
theorem dec_true (b : Bool) : b = decide (b = true) := by cases b <;> rfl
theorem chkVals_step {L : List ByteArray} {j : Nat} (h : j < L.length) : chkVals (L.take j) (L.drop j) = if isWord L[j] = false then 5 else if memB (L.take j) L[j] = true then 7 else chkVals (L.take (j + 1)) (L.drop (j + 1)) := by
  rw [drop_cons h, chkVals, List.take_succ_eq_append_getElem h]
theorem chkSets_step {L : List Setting} {j : Nat} (h : j < L.length) : chkSets (prevOf L j) (L.drop j) = if isWord L[j].1 = false then 5 else if L[j].2 = [] then 9 else if 20 < L[j].2.length then 2 else if chkVals [] L[j].2 ≠ 0 then chkVals [] L[j].2 else if notAbove (prevOf L j) L[j].1 = true then 8 else chkSets (prevOf L (j + 1)) (L.drop (j + 1)) := by
  rw [drop_cons h, chkSets, prevOf_succ h]
/-- config.CheckSettings -/
theorem S63_spec (L : List Setting) (hL : SetSz L) : Ultk (fun k => S63 k (L, ())) (chkSettings L) := by
  unfold S63 chkSettings
  refine Ult.ifS (by rw [igt_eq]; unfold len; simp only [decide_eq_decide]; omega) (fun _ => Ult.ret) fun h30 => ?_
  have hlen := hL.len
  refine (Ult.forI (fun _ => Nat.le_refl _) L.length (fun j => chkSets (prevOf L j) (L.drop j)) fun j hj next => ?_).eq (by rw [List.drop_zero, prevOf_zero])
  dsimp only
  rw [iltL]
  by_cases hlt' : ¬ j < L.length
  · refine Ult.no (decide_eq_false hlt') (Ult.ret.eq ?_)
    rw [List.drop_eq_nil_of_le (by omega)]
    cases prevOf L j <;> rfl
  have hlt : j < L.length := Decidable.not_not.1 hlt'
  refine Ult.yes (decide_eq_true hlt) (Ult.bindc (at?_nat hlt) ?_)
  rw [chkSets_step hlt, isucc hlt (by omega)]
  obtain ⟨hs1, hs2, hs3⟩ := hL.2 _ (List.getElem_mem hlt)
  have hs2' := len_big hs2 (by omega)
  have next' := next hlt
  clear next
  generalize chkSets (prevOf L (j + 1)) (L.drop (j + 1)) = rest at next' ⊢
  have hw := S113_spec L[j].1 (by omega)
  refine Ult.bind (Ult.call (f := fun k => S113 k (L[j].1, ())) (lp_le _ _ fun _ => Nat.le_refl _) hw) ?_
  refine Ult.ifS (by rw [bnot_eq]; cases isWord L[j].1 <;> rfl) (fun _ => Ult.ret) fun _ => ?_
  refine Ult.ifS (by rw [ieq_eq]; unfold len; simp only [decide_eq_decide]; rw [← List.length_eq_zero_iff]; omega) (fun _ => Ult.ret) fun _ => ?_
  refine Ult.ifS (by rw [igt_eq]; unfold len; simp only [decide_eq_decide]; omega) (fun _ => Ult.ret) fun _ => ?_
  refine (Ult.forI (lp_le _ _ fun _ => Nat.le_refl _) L[j].2.length (fun i => if chkVals (L[j].2.take i) (L[j].2.drop i) ≠ 0 then chkVals (L[j].2.take i) (L[j].2.drop i) else if notAbove (prevOf L j) L[j].1 = true then 8 else rest) fun i hi nexti => ?_).eq (by rw [List.drop_zero, List.take_zero])
  try dsimp only
  rw [iltL]
  by_cases hit' : ¬ i < L[j].2.length
  · refine Ult.no (decide_eq_false hit') ?_
    rw [List.drop_eq_nil_of_le (by omega), chkVals, if_neg (by simp)]
    have nx := next'.lift
    rw [igt0]
    by_cases h0 : 0 < j
    · refine Ult.yes (decide_eq_true h0) ?_
      rw [ipred (n := L.length) h0 (by omega) (by omega)]
      refine Ult.bindc (at?_nat (show j - 1 < L.length by omega)) ?_
      have hp : prevOf L j = some L[j - 1].1 := by unfold prevOf; rw [dif_pos ⟨h0, by omega⟩]
      rw [hp]
      exact Ult.ifS (dec_true _) (fun _ => Ult.ret) fun _ => nx
    · refine Ult.no (decide_eq_false h0) ?_
      have : j = 0 := by omega
      subst this
      rw [prevOf_zero, if_neg (by simp [notAbove])]
      exact nx
  have hit : i < L[j].2.length := Decidable.not_not.1 hit'
  refine Ult.yes (decide_eq_true hit) (Ult.bindc (at?_nat hit) ?_)
  rw [isucc hit (by omega)]
  have hwv := S113_spec L[j].2[i] (by have := hs3 _ (List.getElem_mem hit); omega)
  refine Ult.bind (Ult.call (f := fun k => S113 k (L[j].2[i], ())) (lp_le _ _ (lp_le _ _ fun _ => Nat.le_refl _)) hwv) ?_
  have nexti' := nexti hit
  clear nexti
  rw [chkVals_step hit]
  by_cases h1 : isWord L[j].2[i] = false
  · rw [h1]
    exact Ult.yes rfl (Ult.ret.eq (by simp))
  rw [if_neg h1]
  rw [Bool.not_eq_false] at h1
  rw [h1]
  refine Ult.no rfl (Ult.bindc (cut?_take (by omega)) ?_)
  have hm := S61_spec (L[j].2.take i) L[j].2[i] (by rw [List.length_take]; omega)
  refine Ult.bind (Ult.call (f := fun k => S61 k (L[j].2.take i, L[j].2[i], ())) (lp_le _ _ (lp_le _ _ fun _ => Nat.le_refl _)) hm) ?_
  cases h2 : memB (L[j].2.take i) L[j].2[i]
  · exact Ult.no rfl (nexti'.eq (by simp))
  · exact Ult.yes rfl (Ult.ret.eq (by simp))
end Go.Proofs.YtonfimidgbppeaaGreatDoor.Ev

namespace Go.Proofs.YtonfimidgbppeaaGreatDoor.Ev
open Go Go.RowKit
set_option linter.unusedVariables false
set_option linter.unusedSimpArgs false
def chkSet (L : List Setting) (plain : Bool) : Option ByteArray → List Pair → Int
  | _, [] => 0
  | prev, p :: r => match look L p.1 with
    | none => 5
    | some s => if memB s.2 p.2 = false then 1 else if plain = true ∧ s.2.head? = some p.2 then 3 else if notAbove prev p.1 = true then 8 else chkSet L plain (some p.1) r
theorem chkSet_none {L : List Setting} {b : Bool} {C : List Pair} {j : Nat} (h : j < C.length) (hl : look L C[j].1 = none) : chkSet L b (prevOf C j) (C.drop j) = 5 := by
  rw [drop_cons h, chkSet, hl]
theorem chkSet_some {L : List Setting} {b : Bool} {C : List Pair} {j : Nat} (h : j < C.length) {s : Setting} (hl : look L C[j].1 = some s) : chkSet L b (prevOf C j) (C.drop j) =
    if memB s.2 C[j].2 = false then 1 else if b = true ∧ s.2.head? = some C[j].2 then 3 else if notAbove (prevOf C j) C[j].1 = true then 8 else chkSet L b (prevOf C (j + 1)) (C.drop (j + 1)) := by
  rw [drop_cons h, chkSet, hl, prevOf_succ h]
theorem not_false_eq (b : Bool) : bnot b = decide (b = false) := by cases b <;> rfl
theorem head_of_mem {l : List ByteArray} {x : ByteArray} (h : memB l x = true) : ∃ v r, l = v :: r := by
  cases l with
  | nil => cases memB_iff.1 h
  | cons v r => exact ⟨v, r, rfl⟩
/-- the order of names, and what comes then -/
theorem order_step {ι : Type} {l : ι → Nat} {C : List Pair} {j : Nat} (hlt : j < C.length) (hC : C.length ≤ 9223372036854775807) {rest : Int} {f : ι → Option Int} (nx : Ult l f rest) :
    Ult l (fun i => cnd (igt (j : Int) 0) (bnd (at? C (isub .i64 (j : Int) 1)) fun a => cnd (sle C[j].1 a.1) (some 8) (f i)) (f i)) (if notAbove (prevOf C j) C[j].1 = true then 8 else rest) := by
  rw [igt0]
  by_cases h0 : 0 < j
  · refine Ult.yes (decide_eq_true h0) ?_
    rw [ipred (n := C.length) h0 (by omega) (by omega)]
    refine Ult.bindc (at?_nat (show j - 1 < C.length by omega)) ?_
    have hp : prevOf C j = some C[j - 1].1 := by unfold prevOf; rw [dif_pos ⟨h0, by omega⟩]
    rw [hp]
    exact Ult.ifS (dec_true _) (fun _ => Ult.ret) fun _ => nx
  · refine Ult.no (decide_eq_false h0) ?_
    have : j = 0 := by omega
    subst this
    rw [prevOf_zero, if_neg (by simp [notAbove])]
    exact nx
theorem S64_spec (L : List Setting) (C : List Pair) (b : Bool) (hL : SetSz L) (hC : C.length ≤ 140737488355328) : Ultk (fun k => S64 k (L, C, b, ())) (chkSet L b none C) := by
  unfold S64
  have hlen := hL.len
  refine (Ult.forI (fun _ => Nat.le_refl _) C.length (fun j => chkSet L b (prevOf C j) (C.drop j)) fun j hj next => ?_).eq (by rw [List.drop_zero, prevOf_zero])
  dsimp only
  rw [iltL]
  by_cases hlt' : ¬ j < C.length
  · refine Ult.no (decide_eq_false hlt') (Ult.ret.eq ?_)
    rw [List.drop_eq_nil_of_le (by omega)]
    cases prevOf C j <;> rfl
  have hlt : j < C.length := Decidable.not_not.1 hlt'
  refine Ult.yes (decide_eq_true hlt) (Ult.bindc (at?_nat hlt) ?_)
  rw [isucc hlt (by omega)]
  have next' := next hlt
  clear next
  refine Ult.bind (Ult.call (f := fun k => S59 k (L, C[j].1, ())) (lp_le _ _ fun _ => Nat.le_refl _) (S59_spec L C[j].1 (by omega))) ?_
  cases hl : look L C[j].1 with
  | none =>
    rw [chkSet_none hlt hl]
    exact Ult.yes (by rw [ilt_eq]; exact decide_eq_true (idxF_neg.2 hl)) Ult.ret
  | some s =>
    rw [chkSet_some hlt hl]
    obtain ⟨i1, i2⟩ := idxF_at (p := fun s : Setting => decide (s.1 = C[j].1)) hl
    have i1 : at? L (idxN L C[j].1) = some s := i1
    have i2 : 0 ≤ idxN L C[j].1 := i2
    refine Ult.no (by rw [ilt_eq]; exact decide_eq_false (by omega)) (Ult.bindc i1 ?_)
    obtain ⟨m1, m2⟩ := look_name hl
    obtain ⟨hs1, hs2, hs3⟩ := hL.2 s m1
    have hs2' := len_big hs2 (by omega)
    refine Ult.bind (Ult.call (f := fun k => S61 k (s.2, C[j].2, ())) (lp_le _ _ fun _ => Nat.le_refl _) (S61_spec s.2 C[j].2 (by omega))) ?_
    refine Ult.ifS (not_false_eq _) (fun _ => Ult.ret) fun hm => ?_
    rw [Bool.not_eq_false] at hm
    obtain ⟨v0, r0, e0⟩ := head_of_mem hm
    refine Ult.jn ?_
    refine Ult.ite (fun hb => ?_) (fun hb => ?_)
    · refine Ult.bindc i1 (Ult.bindc (show at? s.2 0 = some v0 by rw [e0]; rfl) (Ult.ifS ?_ (fun _ => Ult.ret) fun _ => order_step hlt (by omega) next'))
      rw [seq_eq, e0]
      have hb : b = true := hb
      simp only [decide_eq_decide, hb, true_and, List.head?_cons, Option.some.injEq]
      exact eq_comm
    · exact Ult.ifS (by have hb : b = false := hb; rw [hb]; simp) (fun _ => Ult.ret) fun _ => order_step hlt (by omega) next'
/-- config.CheckConfig -/
def chkConfig (L : List Setting) (C : List Pair) : Int := if chkSettings L ≠ 0 then chkSettings L else chkSet L true none C
theorem S28_spec (L : List Setting) (C : List Pair) (hL : SetSz L) (hC : C.length ≤ 140737488355328) : Ultk (fun k => S28 k (L, C, ())) (chkConfig L C) := by
  unfold S28 chkConfig
  refine Ult.bind (S63_spec L hL) (Ult.ifS (ine_eq _ _) (fun _ => Ult.ret) fun _ => Ult.bind (S64_spec L C true hL hC) Ult.ret)
theorem chkSets_ne {L : List Setting} : ∀ {prev : Option ByteArray}, chkSets prev L = 0 → ∀ s ∈ L, s.2 ≠ [] ∧ isWord s.1 = true ∧ chkVals [] s.2 = 0 := by
  induction L with
  | nil => intro prev _ s hs; cases hs
  | cons t L ih =>
    intro prev h s hs
    rw [chkSets] at h
    split at h
    · cases h
    · rename_i h1
      split at h
      · cases h
      · rename_i h2
        split at h
        · cases h
        · split at h
          · rename_i h4; exact absurd h h4
          · rename_i h4
            split at h
            · cases h
            · rcases List.mem_cons.1 hs with rfl | hs
              · exact ⟨h2, by simpa using h1, by simpa using h4⟩
              · exact ih h s hs
theorem chkSettings_ne {L : List Setting} (h : chkSettings L = 0) : L.length ≤ 30 ∧ ∀ s ∈ L, s.2 ≠ [] ∧ isWord s.1 = true ∧ chkVals [] s.2 = 0 := by
  unfold chkSettings at h
  split at h
  · cases h
  · exact ⟨by omega, chkSets_ne h⟩
theorem chkConfig_ok {L : List Setting} {C : List Pair} (h : chkConfig L C = 0) : chkSettings L = 0 ∧ chkSet L true none C = 0 := by
  unfold chkConfig at h
  split at h
  · rename_i q; exact absurd h q
  · rename_i q; exact ⟨Decidable.not_not.1 q, h⟩
/-- the value of a setting that there is -/
def valOf (L : List Setting) (C : List Pair) (n : ByteArray) : Option ByteArray := match look C n with
  | some p => some p.2
  | none => (look L n).bind fun s => s.2.head?
theorem S60_spec (L : List Setting) (C : List Pair) (n v : ByteArray) (hL : L.length ≤ 9223372036854775807) (hC : C.length ≤ 9223372036854775807) (hv : valOf L C n = some v) : Ultk (fun k => S60 k (L, C, n, ())) v := by
  unfold S60
  refine Ult.bind (S105_spec C n hC) ?_
  unfold valOf at hv
  unfold lookV
  cases hc : look C n with
  | some p =>
    rw [hc] at hv
    cases hv
    exact Ult.yes rfl Ult.ret
  | none =>
    rw [hc] at hv
    refine Ult.no rfl (Ult.bind (S59_spec L n hL) ?_)
    cases hl : look L n with
    | none => rw [hl] at hv; cases hv
    | some s =>
      rw [hl] at hv
      obtain ⟨i1, i2⟩ := idxF_at (p := fun s : Setting => decide (s.1 = n)) hl
      refine Ult.bindc i1 ?_
      have hv : s.2.head? = some v := hv
      cases hs : s.2 with
      | nil => rw [hs] at hv; cases hv
      | cons a r =>
        rw [hs] at hv
        cases hv
        exact Ult.bindc (show at? (v :: r) 0 = some v from rfl) Ult.ret
theorem valOf_some {L : List Setting} {C : List Pair} {n : ByteArray} (hL : chkSettings L = 0) {s : Setting} (hl : look L n = some s) : ∃ v, valOf L C n = some v := by
  unfold valOf
  cases look C n with
  | some p => exact ⟨_, rfl⟩
  | none =>
    rw [hl]
    have := ((chkSettings_ne hL).2 s (look_name hl).1).1
    cases hs : s.2 with
    | nil => exact absurd hs this
    | cons a r => exact ⟨a, by simp [hs]⟩
/-- config.ValueOf -/
def valueOf (L : List Setting) (C : List Pair) (n : ByteArray) : ByteArray × Int := if chkConfig L C ≠ 0 then (⟨#[]⟩, chkConfig L C) else if look L n = none then (⟨#[]⟩, 5) else ((valOf L C n).getD ⟨#[]⟩, 0)
theorem S26_spec (L : List Setting) (C : List Pair) (n : ByteArray) (hL : SetSz L) (hC : C.length ≤ 140737488355328) : Ultk (fun k => S26 k (L, C, n, ())) (valueOf L C n) := by
  unfold S26 valueOf
  have hlen := hL.len
  refine Ult.bind (S28_spec L C hL hC) (Ult.ifS (ine_eq _ _) (fun _ => Ult.ret) fun h0 => ?_)
  refine Ult.bind (S59_spec L n (by omega)) (Ult.ifS ?_ (fun _ => Ult.ret) fun hl => ?_)
  · rw [ilt_eq]
    simp only [decide_eq_decide]
    exact idxF_neg
  · cases hs : look L n with
    | none => exact absurd hs hl
    | some s =>
      obtain ⟨v, hv⟩ := valOf_some (C := C) (chkConfig_ok (Decidable.not_not.1 h0)).1 hs
      rw [hv]
      exact Ult.bind (S60_spec L C n v (by omega) (by omega) hv) Ult.ret
end Go.Proofs.YtonfimidgbppeaaGreatDoor.Ev

namespace Go.Proofs.YtonfimidgbppeaaGreatDoor.Ev
open Go Go.RowKit
set_option linter.unusedVariables false
set_option linter.unusedSimpArgs false
theorem S38_spec (L : List ByteArray) (h : L.length * 16 ≤ 140737488355328) : Ultk (fun k => S38 k (L, ())) L := ⟨0, fun k _ => if_pos h⟩
theorem S7_spec (L : List Pair) (h : L.length * 32 ≤ 140737488355328) : Ultk (fun k => S7 k (L, ())) L := ⟨0, fun k _ => if_pos h⟩
theorem S25_self (L : List ByteArray) (hL : L.length ≤ 9223372036854775807) : Ultk (fun k => S25 k (L, L, ())) true := by
  unfold S25
  refine Ult.no (by rw [ine_eq]; simp) ?_
  refine Ult.forI (fun _ => Nat.le_refl _) L.length (fun _ => true) fun j hj next => ?_
  dsimp only
  rw [iltL]
  by_cases hlt' : ¬ j < L.length
  · exact Ult.no (decide_eq_false hlt') Ult.ret
  have hlt : j < L.length := Decidable.not_not.1 hlt'
  refine Ult.yes (decide_eq_true hlt) (Ult.bindc (at?_nat hlt) (Ult.bindc (at?_nat hlt) (Ult.no (by rw [sne_eq]; simp) ?_)))
  rw [isucc hlt hL]
  exact next hlt
theorem chkVals_ok {L : List ByteArray} : ∀ {seen : List ByteArray}, chkVals seen L = 0 → (∀ v ∈ L, isWord v = true ∧ v ∉ seen) ∧ L.Nodup := by
  induction L with
  | nil => intro seen _; exact ⟨fun v h => (by cases h), List.nodup_nil⟩
  | cons a L ih =>
    intro seen h
    rw [chkVals] at h
    split at h
    · cases h
    · rename_i h1
      split at h
      · cases h
      · rename_i h2
        obtain ⟨i1, i2⟩ := ih h
        refine ⟨fun v hv => ?_, List.nodup_cons.2 ⟨fun hm => (i1 a hm).2 (by simp), i2⟩⟩
        rcases List.mem_cons.1 hv with rfl | hv
        · exact ⟨by simpa using h1, fun hm => h2 (memB_iff.2 hm)⟩
        · exact ⟨(i1 v hv).1, fun hm => (i1 v hv).2 (by simp [hm])⟩
theorem notAbove_false {prev : Option ByteArray} {n : ByteArray} (h : ¬ notAbove prev n = true) : ∀ m, prev = some m → lt m n := by
  intro m hm
  subst hm
  have h : ¬ sle n m = true := h
  rw [sle_eq] at h
  unfold lt
  simpa using h
theorem lt_trans' {a b c : ByteArray} (h : lt a b) (h' : lt b c) : lt a c := List.lt_trans h h'
theorem lt_irr (a : ByteArray) : ¬ lt a a := List.lt_irrefl _
theorem chkSet_ok {L : List Setting} {b : Bool} : ∀ {C : List Pair} {prev : Option ByteArray}, chkSet L b prev C = 0 →
    (∀ p ∈ C, ∃ s, look L p.1 = some s ∧ p.2 ∈ s.2 ∧ (b = true → s.2.head? ≠ some p.2) ∧ ∀ m, prev = some m → lt m p.1) ∧ C.Pairwise (fun p q => lt p.1 q.1)
  | [], prev, _ => ⟨fun p h => (by cases h), List.Pairwise.nil⟩
  | p :: C, prev, h => by
    rw [chkSet] at h
    split at h
    · cases h
    · rename_i s hs
      split at h
      · cases h
      · rename_i h1
        split at h
        · cases h
        · rename_i h2
          split at h
          · cases h
          · rename_i h3
            obtain ⟨i1, i2⟩ := chkSet_ok h
            have hp := notAbove_false h3
            refine ⟨fun q hq => ?_, List.pairwise_cons.2 ⟨fun q hq => ?_, i2⟩⟩
            · rcases List.mem_cons.1 hq with rfl | hq
              · exact ⟨s, hs, memB_iff.1 (by simpa using h1), fun hb e => h2 ⟨hb, e⟩, hp⟩
              · obtain ⟨t, t1, t2, t3, t4⟩ := i1 q hq
                exact ⟨t, t1, t2, t3, fun m hm => lt_trans' (hp m hm) (t4 _ rfl)⟩
            · obtain ⟨t, t1, t2, t3, t4⟩ := i1 q hq
              exact t4 _ rfl
theorem pigeon {α : Type} : ∀ {A B : List α}, A.Nodup → (∀ a ∈ A, a ∈ B) → A.length ≤ B.length
  | [], _, _, _ => Nat.zero_le _
  | a :: A, B, hn, hs => by
    obtain ⟨s, t, rfl⟩ := List.append_of_mem (hs a (by simp))
    obtain ⟨h1, h2⟩ := List.nodup_cons.1 hn
    have := pigeon (B := s ++ t) h2 fun x hx => by
      have := hs x (by simp [hx])
      rcases List.mem_append.1 this with q | q
      · exact List.mem_append_left _ q
      · rcases List.mem_cons.1 q with rfl | q
        · exact absurd hx h1
        · exact List.mem_append_right _ q
    simp only [List.length_append, List.length_cons] at this ⊢
    omega
theorem cfg_len {L : List Setting} {b : Bool} {prev : Option ByteArray} {C : List Pair} (h : chkSet L b prev C = 0) : C.length ≤ L.length := by
  obtain ⟨h1, h2⟩ := chkSet_ok h
  have := pigeon (A := C.map (·.1)) (B := L.map (·.1)) (by
      unfold List.Nodup
      rw [List.pairwise_map]
      exact h2.imp fun {p q} (h : lt p.1 q.1) (e : p.1 = q.1) => lt_irr q.1 (e ▸ h)) fun a ha => by
    obtain ⟨p, hp, rfl⟩ := List.mem_map.1 ha
    obtain ⟨s, hs, _⟩ := h1 p hp
    obtain ⟨m1, m2⟩ := look_name hs
    exact List.mem_map.2 ⟨s, m1, m2⟩
  simpa using this
theorem cfg_words {L : List Setting} {b : Bool} {prev : Option ByteArray} {C : List Pair} (hL : chkSettings L = 0) (h : chkSet L b prev C = 0) : ∀ p ∈ C, isWord p.1 = true ∧ isWord p.2 = true := by
  intro p hp
  obtain ⟨s, hs, h2, _⟩ := (chkSet_ok h).1 p hp
  obtain ⟨m1, m2⟩ := look_name hs
  obtain ⟨_, w1, w2⟩ := (chkSettings_ne hL).2 s m1
  exact ⟨m2 ▸ w1, ((chkVals_ok w2).1 _ h2).1⟩
end Go.Proofs.YtonfimidgbppeaaGreatDoor.Ev

namespace Go.Proofs.YtonfimidgbppeaaGreatDoor.Ev
open Go Go.RowKit
set_option linter.unusedVariables false
set_option linter.unusedSimpArgs false
def partOf (p : Pair) : ByteArray := p.1 ++ (⟨#[61]⟩ : ByteArray) ++ p.2
def joinB (l : List ByteArray) : ByteArray := ⟨(Lib.join (l.map (·.data.toList)) [44]).toArray⟩
def cfgText (L : List Setting) (C : List Pair) : ByteArray × Int := if chkConfig L C ≠ 0 then (⟨#[]⟩, chkConfig L C) else if C = [] then (⟨#[45]⟩, 0) else (joinB (C.map partOf), 0)
theorem joinTail_len (sep : List UInt8) (m : Nat) : ∀ (l : List (List UInt8)), (∀ x ∈ l, x.length ≤ m) → (Lib.joinTail sep l).length ≤ l.length * (m + sep.length)
  | [], _ => by simp [Lib.joinTail]
  | x :: l, h => by
    have ih := joinTail_len sep m l fun y hy => h y (by simp [hy])
    have hx := h x (by simp)
    unfold Lib.joinTail at ih ⊢
    simp only [List.map_cons, List.flatten_cons, List.length_append, List.length_cons]
    rw [Nat.add_mul]
    omega
theorem join_len (sep : List UInt8) (m : Nat) (l : List (List UInt8)) (h : ∀ x ∈ l, x.length ≤ m) : (Lib.join l sep).length ≤ l.length * (m + sep.length) := by
  cases l with
  | nil => simp [Lib.join_nil]
  | cons x l =>
    rw [Lib.join_cons, List.length_append, List.length_cons, Nat.add_mul]
    have h1 := joinTail_len sep m l fun y hy => h y (by simp [hy])
    have h2 := h x (by simp)
    omega
theorem partOf_size (p : Pair) : (partOf p).size = p.1.size + 1 + p.2.size := by
  unfold partOf
  rw [ByteArray.size_append, ByteArray.size_append]; rfl
theorem part_small {L : List Setting} {C : List Pair} (h : chkConfig L C = 0) : C.length ≤ 30 ∧ ∀ p ∈ C, p.1.size ≤ 40 ∧ p.2.size ≤ 40 := by
  obtain ⟨h1, h2⟩ := chkConfig_ok h
  have := cfg_len h2
  have := (chkSettings_ne h1).1
  exact ⟨by omega, fun p hp => ⟨(isWord_size (cfg_words h1 h2 p hp).1).2, (isWord_size (cfg_words h1 h2 p hp).2).2⟩⟩
theorem joinF_ok {l : List ByteArray} (h1 : l.length ≤ 30) (h2 : ∀ x ∈ l, x.size ≤ 81) : joinF l ⟨#[44]⟩ = some (joinB l) := by
  unfold joinF
  have hs : (⟨#[44]⟩ : ByteArray).data.toList = [44] := rfl
  rw [hs]
  have := join_len [44] 81 (l.map (·.data.toList)) fun x hx => by
    obtain ⟨y, hy, rfl⟩ := List.mem_map.1 hx
    have := h2 y hy
    simpa using this
  rw [List.length_map] at this
  have h3 : l.length * (81 + 1) ≤ 30 * 82 := Nat.mul_le_mul_right _ h1
  rw [if_pos ⟨by omega, Nat.le_trans this (Nat.le_trans h3 (by decide))⟩]
  rfl
theorem S45_spec (L : List Setting) (C : List Pair) (hL : SetSz L) (hC : C.length ≤ 140737488355328) : Ultk (fun k => S45 k (L, C, ())) (cfgText L C) := by
  unfold S45 cfgText
  refine Ult.bind (S28_spec L C hL hC) (Ult.ifS (ine_eq _ _) (fun _ => Ult.ret) fun h0 => ?_)
  obtain ⟨h30, hp⟩ := part_small (Decidable.not_not.1 h0)
  refine Ult.ifS (by rw [ieq_eq]; unfold len; simp only [decide_eq_decide]; rw [← List.length_eq_zero_iff]; omega) (fun _ => Ult.ret) fun hne => ?_
  refine Ult.forA (A := List ByteArray) (fun _ => Nat.le_refl _) C.length (fun a j => (a, (j : Int))) (fun a j => a = (C.take j).map partOf) (fun _ _ => (joinB (C.map partOf), 0)) [] (by simp) fun a j hj ha next => ?_
  subst ha
  dsimp only
  rw [iltL]
  by_cases hlt' : ¬ j < C.length
  · refine Ult.no (decide_eq_false hlt') ?_
    rw [List.take_of_length_le (by omega)]
    have hjn : ∀ k, S82 k (C.map partOf, (⟨#[44]⟩ : ByteArray), ()) = some (joinB (C.map partOf)) := fun k => joinF_ok (by rw [List.length_map]; exact h30) fun x hx => by
      obtain ⟨p, hpm, rfl⟩ := List.mem_map.1 hx
      have := hp p hpm
      rw [partOf_size]; omega
    exact Ult.bind ⟨0, fun i _ => hjn _⟩ Ult.ret
  have hlt : j < C.length := Decidable.not_not.1 hlt'
  have hpj := hp _ (List.getElem_mem hlt)
  refine Ult.yes (decide_eq_true hlt) (Ult.bindc (at?_nat hlt) ?_)
  refine Ult.bindc (cat?_ok (show C[j].1.size + (⟨#[61]⟩ : ByteArray).size ≤ _ by rw [show (⟨#[61]⟩ : ByteArray).size = 1 from rfl]; omega)) ?_
  refine Ult.bindc (cat?_ok (show (C[j].1 ++ (⟨#[61]⟩ : ByteArray)).size + C[j].2.size ≤ _ by rw [ByteArray.size_append, show (⟨#[61]⟩ : ByteArray).size = 1 from rfl]; omega)) ?_
  refine Ult.bindc (app?_ok (by simp only [List.length_map, List.length_take, List.length_cons, List.length_nil]; have := Nat.min_le_left j C.length; show (min j C.length + (0 + 1)) * 16 ≤ _; omega)) ?_
  rw [isucc hlt (by omega)]
  exact next _ hlt (by rw [List.take_succ_eq_append_getElem hlt, List.map_append]; rfl)
theorem S17_spec : Ultk (fun k => S17 k ()) true := by
  unfold S17
  have h : cfgText [((⟨#[109]⟩ : ByteArray), [(⟨#[97]⟩ : ByteArray), (⟨#[98]⟩ : ByteArray)])] [((⟨#[109]⟩ : ByteArray), (⟨#[98]⟩ : ByteArray))] = (⟨#[109, 61, 98]⟩, 0) := by decide +kernel
  have hs := S45_spec [((⟨#[109]⟩ : ByteArray), [(⟨#[97]⟩ : ByteArray), (⟨#[98]⟩ : ByteArray)])] [((⟨#[109]⟩ : ByteArray), (⟨#[98]⟩ : ByteArray))] ⟨by decide, fun s hs => by
    obtain rfl : s = ((⟨#[109]⟩ : ByteArray), [(⟨#[97]⟩ : ByteArray), (⟨#[98]⟩ : ByteArray)]) := by simpa using hs
    refine ⟨by decide, by decide, fun v hv => ?_⟩
    rcases List.mem_cons.1 hv with rfl | hv
    · decide
    · obtain rfl : v = (⟨#[98]⟩ : ByteArray) := by simpa using hv
      decide⟩ (by decide)
  rw [h] at hs
  refine Ult.bind hs (Ult.yes rfl (Ult.ret.eq ?_))
  rw [seq_eq]
  exact decide_eq_true rfl
end Go.Proofs.YtonfimidgbppeaaGreatDoor.Ev

namespace Go.Proofs.YtonfimidgbppeaaGreatDoor.Ev
open Go Go.RowKit
set_option linter.unusedVariables false
set_option linter.unusedSimpArgs false
abbrev Platform : Type := ByteArray × List Pair
abbrev Tool : Type := ByteArray × ByteArray × List Pair × List Pair
abbrev Condition : Type := ByteArray × List Pair × List Pair
abbrev Transition : Type := ByteArray × List Pair × List ByteArray
abbrev CWorld : Type := List Setting × List Condition × List Platform × List Tool × List Transition
def PlatSz (L : List Platform) : Prop := L.length * 40 ≤ 140737488351232 ∧ ∀ p ∈ L, p.1.size ≤ 140737488351232 ∧ PairSz p.2
def ToolSz (L : List Tool) : Prop := L.length * 80 ≤ 140737488351232 ∧ ∀ p ∈ L, p.1.size ≤ 140737488351232 ∧ p.2.1.size ≤ 140737488351232 ∧ PairSz p.2.2.1 ∧ PairSz p.2.2.2
def CondSz (L : List Condition) : Prop := L.length * 64 ≤ 140737488351232 ∧ ∀ p ∈ L, p.1.size ≤ 140737488351232 ∧ PairSz p.2.1 ∧ PairSz p.2.2
def StrsSz (L : List ByteArray) : Prop := L.length * 16 ≤ 140737488351232 ∧ ∀ s ∈ L, s.size ≤ 140737488351232
def TranSz (L : List Transition) : Prop := L.length * 64 ≤ 140737488351232 ∧ ∀ p ∈ L, p.1.size ≤ 140737488351232 ∧ PairSz p.2.1 ∧ StrsSz p.2.2
def WorldSz (x : CWorld) : Prop := SetSz x.1 ∧ CondSz x.2.1 ∧ PlatSz x.2.2.1 ∧ ToolSz x.2.2.2.1 ∧ TranSz x.2.2.2.2
variable {ι R α : Type} {l : ι → Nat}

/-! ### loops that only look -/
theorem idx_loop {kk : ι → Nat} (hk : ∀ i, l i ≤ kk i) (L : List α) (f : ι → α → Option Bool) (p : α → Bool) (hf : ∀ a ∈ L, Ult l (fun i => f i a) (p a)) (hL : L.length ≤ 9223372036854775807) :
    Ult l (fun i => loopN (kk i) (fun (next : Int → Option Int) (j : Int) => cnd (ilt j (len L)) (bnd (at? L j) fun a => bnd (f i a) fun b => cnd b (some j) (next (iadd .i64 j 1))) (some (-1))) 0) (idxF p 0 L) := by
  refine (Ult.forI hk L.length (fun j => idxF p j (L.drop j)) fun j hj next => ?_).eq (by rw [List.drop_zero])
  rw [iltL]
  by_cases hlt' : ¬ j < L.length
  · refine Ult.no (decide_eq_false hlt') (Ult.ret.eq ?_)
    rw [List.drop_eq_nil_of_le (by omega)]; rfl
  have hlt : j < L.length := Decidable.not_not.1 hlt'
  refine Ult.yes (decide_eq_true hlt) (Ult.bindc (at?_nat hlt) (Ult.bind (hf _ (List.getElem_mem hlt)).lift ?_))
  rw [drop_cons hlt, idxF, isucc hlt hL]
  exact Ult.ifS (by simp) (fun h => Ult.ret) (fun h => next hlt)
theorem any_loop {kk : ι → Nat} (hk : ∀ i, l i ≤ kk i) (L : List α) (g : α → Bool) {r1 r2 : R} {y n : ι → Option R} (hy : Ult l y r1) (hn : Ult l n r2) (hL : L.length ≤ 9223372036854775807) :
    Ult l (fun i => loopN (kk i) (fun (next : Int → Option R) (j : Int) => cnd (ilt j (len L)) (bnd (at? L j) fun a => cnd (g a) (y i) (next (iadd .i64 j 1))) (n i)) 0) (if L.any g = true then r1 else r2) := by
  refine (Ult.forI hk L.length (fun j => if (L.drop j).any g = true then r1 else r2) fun j hj next => ?_).eq (by rw [List.drop_zero])
  rw [iltL]
  by_cases hlt' : ¬ j < L.length
  · refine Ult.no (decide_eq_false hlt') (hn.lift.eq ?_)
    rw [List.drop_eq_nil_of_le (by omega)]; rfl
  have hlt : j < L.length := Decidable.not_not.1 hlt'
  refine Ult.yes (decide_eq_true hlt) (Ult.bindc (at?_nat hlt) ?_)
  rw [drop_cons hlt, List.any_cons, isucc hlt hL]
  cases hg : g L[j]
  · exact Ult.no rfl (next hlt)
  · exact Ult.yes rfl (hy.lift.eq (by simp))
theorem all_loop {kk : ι → Nat} (hk : ∀ i, l i ≤ kk i) (L : List α) (f : ι → α → Option Bool) (p : α → Bool) {r1 r2 : R} {y n : ι → Option R} (hy : Ult l y r1) (hn : Ult l n r2) (hf : ∀ a ∈ L, Ult l (fun i => f i a) (p a)) (hL : L.length ≤ 9223372036854775807) :
    Ult l (fun i => loopN (kk i) (fun (next : Int → Option R) (j : Int) => cnd (ilt j (len L)) (bnd (at? L j) fun a => bnd (f i a) fun b => cnd (bnot b) (n i) (next (iadd .i64 j 1))) (y i)) 0) (if L.all p = true then r1 else r2) := by
  refine (Ult.forI hk L.length (fun j => if (L.drop j).all p = true then r1 else r2) fun j hj next => ?_).eq (by rw [List.drop_zero])
  rw [iltL]
  by_cases hlt' : ¬ j < L.length
  · refine Ult.no (decide_eq_false hlt') (hy.lift.eq ?_)
    rw [List.drop_eq_nil_of_le (by omega)]; rfl
  have hlt : j < L.length := Decidable.not_not.1 hlt'
  refine Ult.yes (decide_eq_true hlt) (Ult.bindc (at?_nat hlt) (Ult.bind (hf _ (List.getElem_mem hlt)).lift ?_))
  rw [drop_cons hlt, List.all_cons, isucc hlt hL]
  cases hg : p L[j]
  · exact Ult.yes rfl (hn.lift.eq (by simp))
  · exact Ult.no rfl (next hlt)
theorem idxF_any {p : α → Bool} {L : List α} : ige (idxF p 0 L) 0 = L.any p := by
  rw [ige_eq]
  rcases idxF_cases p 0 L with ⟨h1, h2⟩ | ⟨i, hi, h1, h2, h3⟩
  · rw [h1]
    rw [List.find?_eq_none] at h2
    have : L.any p = false := by
      rw [List.any_eq_false]
      intro a ha; exact h2 a ha
    rw [this]; rfl
  · rw [h1, decide_eq_true (Int.natCast_nonneg _)]
    exact (List.any_eq_true.2 ⟨L[i], List.getElem_mem hi, h3⟩).symm

/-! ### pairs -/
def chkPairs : Option ByteArray → List Pair → Int
  | _, [] => 0
  | prev, p :: r => if isWord p.1 = false then 5 else if isWord p.2 = false then 1 else if notAbove prev p.1 = true then 8 else chkPairs (some p.1) r
def chkPairsL (L : List Pair) : Int := if 30 < L.length then 2 else chkPairs none L
theorem S98_spec (L : List Pair) (hL : PairSz L) : Ultk (fun k => S98 k (L, ())) (chkPairsL L) := by
  unfold S98 chkPairsL
  have hlen := hL.len
  refine Ult.ifS (by rw [igt_eq]; unfold len; simp only [decide_eq_decide]; omega) (fun _ => Ult.ret) fun h30 => ?_
  refine (Ult.forI (fun _ => Nat.le_refl _) L.length (fun j => chkPairs (prevOf L j) (L.drop j)) fun j hj next => ?_).eq (by rw [List.drop_zero, prevOf_zero])
  dsimp only
  rw [iltL]
  by_cases hlt' : ¬ j < L.length
  · refine Ult.no (decide_eq_false hlt') (Ult.ret.eq ?_)
    rw [List.drop_eq_nil_of_le (by omega)]
    cases prevOf L j <;> rfl
  have hlt : j < L.length := Decidable.not_not.1 hlt'
  refine Ult.yes (decide_eq_true hlt) (Ult.bindc (at?_nat hlt) ?_)
  obtain ⟨s1, s2⟩ := hL.2 _ (List.getElem_mem hlt)
  rw [drop_cons hlt, chkPairs, ← prevOf_succ hlt, isucc hlt (by omega)]
  refine Ult.bind (Ult.call (f := fun k => S113 k (L[j].1, ())) (lp_le _ _ fun _ => Nat.le_refl _) (S113_spec L[j].1 (by omega))) (Ult.ifS (not_false_eq _) (fun _ => Ult.ret) fun _ => ?_)
  refine Ult.bind (Ult.call (f := fun k => S113 k (L[j].2, ())) (lp_le _ _ fun _ => Nat.le_refl _) (S113_spec L[j].2 (by omega))) (Ult.ifS (not_false_eq _) (fun _ => Ult.ret) fun _ => ?_)
  exact order_step hlt (by omega) (next hlt)
def chkPlats : List Platform → List Platform → Int
  | _, [] => 0
  | seen, p :: r => if isWord p.1 = false then 5 else if chkPairsL p.2 ≠ 0 then chkPairsL p.2 else if (seen.any fun q => decide (q.1 = p.1)) = true then 7 else chkPlats (seen ++ [p]) r
def chkPlatforms (L : List Platform) : Int := if 50 < L.length then 2 else chkPlats [] L
theorem S159_spec {kk : ι → Nat} (hk : ∀ i, l i ≤ kk i) (L : List Platform) (f : ι → Platform → Option Bool) (p : Platform → Bool) (hf : ∀ a ∈ L, Ult l (fun i => f i a) (p a)) (hL : L.length ≤ 9223372036854775807) : Ult l (fun i => S159 (kk i) (L, f i, ())) (idxF p 0 L) := by
  unfold S159
  exact idx_loop hk L f p hf hL
theorem S119_spec {kk : ι → Nat} (hk : ∀ i, l i ≤ kk i) (L : List Platform) (f : ι → Platform → Option Bool) (p : Platform → Bool) (hf : ∀ a ∈ L, Ult l (fun i => f i a) (p a)) (hL : L.length ≤ 9223372036854775807) : Ult l (fun i => S119 (kk i) (L, f i, ())) (L.any p) := by
  unfold S119
  exact Ult.bind (S159_spec hk L f p hf hL) (Ult.ret.eq idxF_any)
theorem S70_spec (L : List Platform) (hL : PlatSz L) : Ultk (fun k => S70 k (L, ())) (chkPlatforms L) := by
  unfold S70 chkPlatforms
  have hlen := len_big hL.1 (by omega)
  refine Ult.ifS (by rw [igt_eq]; unfold len; simp only [decide_eq_decide]; omega) (fun _ => Ult.ret) fun h30 => ?_
  refine (Ult.forI (fun _ => Nat.le_refl _) L.length (fun j => chkPlats (L.take j) (L.drop j)) fun j hj next => ?_).eq (by rw [List.drop_zero, List.take_zero])
  dsimp only
  rw [iltL]
  by_cases hlt' : ¬ j < L.length
  · refine Ult.no (decide_eq_false hlt') (Ult.ret.eq ?_)
    rw [List.drop_eq_nil_of_le (by omega)]; rfl
  have hlt : j < L.length := Decidable.not_not.1 hlt'
  refine Ult.yes (decide_eq_true hlt) (Ult.bindc (at?_nat hlt) ?_)
  obtain ⟨s1, s2⟩ := hL.2 _ (List.getElem_mem hlt)
  rw [drop_cons hlt, chkPlats, ← List.take_succ_eq_append_getElem hlt, isucc hlt (by omega)]
  have hsp := S98_spec L[j].2 s2
  refine Ult.bind (Ult.call (f := fun k => S113 k (L[j].1, ())) (lp_le _ _ fun _ => Nat.le_refl _) (S113_spec L[j].1 (by omega))) (Ult.ifS (not_false_eq _) (fun _ => Ult.ret) fun _ => ?_)
  refine Ult.bind (Ult.call (f := fun k => S98 k (L[j].2, ())) (lp_le _ _ fun _ => Nat.le_refl _) hsp) (Ult.ifS (ine_eq _ _) (fun _ => Ult.ret) fun _ => ?_)
  refine Ult.bindc (cut?_take (by omega)) ?_
  have ha := S119_spec (l := lp fun k => k) (kk := fun p => p.1) (lp_le _ _ fun _ => Nat.le_refl _) (L.take j) (fun p a => S120 p.1 (a, (L[j].1, L[j].2), ())) (fun q => decide (q.1 = L[j].1)) (fun a _ => Ult.ret.eq (seq_eq _ _)) (by rw [List.length_take]; omega)
  exact Ult.bind ha (Ult.ifS (dec_true _) (fun _ => Ult.ret) fun _ => next hlt)
def chkTls : List Tool → List Tool → Int
  | _, [] => 0
  | seen, p :: r => if isWord p.1 = false then 5 else if isWord p.2.1 = false then 5 else if chkPairsL p.2.2.1 ≠ 0 then chkPairsL p.2.2.1 else if chkPairsL p.2.2.2 ≠ 0 then chkPairsL p.2.2.2 else if (seen.any fun q => decide (q.1 = p.1)) = true then 7 else chkTls (seen ++ [p]) r
def chkTools (L : List Tool) : Int := if 100 < L.length then 2 else chkTls [] L
def chkKinds : Option ByteArray → List ByteArray → Int
  | _, [] => 0
  | prev, p :: r => if isWord p = false then 5 else if notAbove prev p = true then 8 else chkKinds (some p) r
def prevK (L : List ByteArray) (j : Nat) : Option ByteArray := if h : 0 < j ∧ j - 1 < L.length then some (L[j - 1]'h.2) else none
theorem prevK_succ {L : List ByteArray} {j : Nat} (h : j < L.length) : prevK L (j + 1) = some L[j] := by unfold prevK; rw [dif_pos ⟨Nat.succ_pos _, by simpa using h⟩]; simp
theorem order_stepK {C : List ByteArray} {j : Nat} (hlt : j < C.length) (hC : C.length ≤ 9223372036854775807) {e rest : R} {y f : ι → Option R} (he : Ult l y e) (nx : Ult l f rest) :
    Ult l (fun i => cnd (igt (j : Int) 0) (bnd (at? C (isub .i64 (j : Int) 1)) fun a => cnd (sle C[j] a) (y i) (f i)) (f i)) (if notAbove (prevK C j) C[j] = true then e else rest) := by
  rw [igt0]
  by_cases h0 : 0 < j
  · refine Ult.yes (decide_eq_true h0) ?_
    rw [ipred (n := C.length) h0 (by omega) (by omega)]
    refine Ult.bindc (at?_nat (show j - 1 < C.length by omega)) ?_
    have hp : prevK C j = some C[j - 1] := by unfold prevK; rw [dif_pos ⟨h0, by omega⟩]
    rw [hp]
    exact Ult.ifS (dec_true _) (fun _ => he) fun _ => nx
  · refine Ult.no (decide_eq_false h0) ?_
    have : j = 0 := by omega
    subst this
    rw [show prevK C 0 = none from rfl, if_neg (by simp [notAbove])]
    exact nx
def hasP (L : List Pair) (p : Pair) : Bool := L.any fun q => decide (p = q)
theorem S183_spec (L : List Pair) (p : Pair) (hL : L.length ≤ 9223372036854775807) : Ultk (fun k => S183 k (L, p, ())) (idxF (fun q => decide (p = q)) 0 L) := by
  unfold S183
  have h := idx_loop (l := fun k : Nat => k) (fun _ => Nat.le_refl _) L (fun _ a => some (kbeq (Kd.agg (Kd.pair Kd.str Kd.str)) (p.1, p.2) a)) (fun q => decide (p = q)) (fun a _ => Ult.ret.eq (kbeq_pair _ _)) hL
  exact h
theorem S158_spec (L : List Pair) (p : Pair) (hL : L.length ≤ 9223372036854775807) : Ultk (fun k => S158 k (L, p, ())) (hasP L p) := by
  unfold S158
  exact Ult.bind (S183_spec L p hL) (Ult.ret.eq idxF_any)
def fitP (A B : List Pair) : Bool := A.all fun p => hasP B p
theorem if_all (b : Bool) : (if b = true then true else false) = b := by cases b <;> rfl
theorem S126_spec (A B : List Pair) (hA : A.length ≤ 9223372036854775807) (hB : B.length ≤ 9223372036854775807) : Ultk (fun k => S126 k (A, B, ())) (fitP A B) := by
  unfold S126
  have h := all_loop (l := fun k : Nat => k) (fun _ => Nat.le_refl _) A (fun k a => S158 k (B, (a.1, a.2), ())) (fun p => hasP B p) (Ult.ret (r := true)) (Ult.ret (r := false)) (fun a _ => S158_spec B a hB) hA
  exact h.eq (if_all _)
end Go.Proofs.YtonfimidgbppeaaGreatDoor.Ev

namespace Go.Proofs.YtonfimidgbppeaaGreatDoor.Ev
open Go Go.RowKit
set_option linter.unusedVariables false
set_option linter.unusedSimpArgs false
variable {ι R α X : Type} {l : ι → Nat}
theorem Ult.copyI {st : ι → (X → Option R) → X → Option R} {k : ι → Nat} (hk : ∀ i, l i ≤ k i) (L : List α) (mk : List α → Nat → X) (r : R)
    (hd : Ult (lp l) (fun p => st p.1 (loopN p.2 (st p.1)) (mk L L.length)) r)
    (hs : ∀ j, (h : j < L.length) → Ult (lp l) (fun p => loopN p.2 (st p.1) (mk (L.take j ++ [L[j]]) (j + 1))) r → Ult (lp l) (fun p => st p.1 (loopN p.2 (st p.1)) (mk (L.take j) j)) r) :
    Ult l (fun i => loopN (k i) (st i) (mk [] 0)) r := by
  refine Ult.forA (A := List α) hk L.length mk (fun v j => v = L.take j) (fun _ _ => r) [] (by simp) fun v j hj hv next => ?_
  subst hv
  by_cases hlt' : ¬ j < L.length
  · have : j = L.length := by omega
    subst this
    rw [List.take_of_length_le (Nat.le_refl _)]
    exact hd
  have hlt : j < L.length := Decidable.not_not.1 hlt'
  refine hs j hlt ?_
  rw [show L.take j ++ [L[j]] = L.take (j + 1) by rw [List.take_succ_eq_append_getElem hlt]]
  exact next _ hlt rfl
theorem iltE (L : List α) : ilt (L.length : Int) (len L) = false := by rw [iltL]; simp
theorem takeL {L : List α} {j : Nat} (h : j < L.length) : (L.take j).length = j := by rw [List.length_take]; omega

end Go.Proofs.YtonfimidgbppeaaGreatDoor.Ev

namespace Go.Proofs.YtonfimidgbppeaaGreatDoor.Ev
open Go Go.RowKit
set_option linter.unusedVariables false
set_option linter.unusedSimpArgs false
variable {ι R α X : Type} {l : ι → Nat}
def fitT (kd : ByteArray) (p q : Platform) (t : Tool) : Bool := if t.2.1 = kd then (if fitP t.2.2.1 p.2 = true then fitP t.2.2.2 q.2 else false) else false
def toolsOn (T : List Tool) (p q : Platform) : List ByteArray → List ByteArray → List ByteArray × Bool
  | acc, [] => (acc, true)
  | acc, kd :: r => match T.find? (fitT kd p q) with
    | none => ([], false)
    | some t => toolsOn T p q (acc ++ [t.1]) r
abbrev Ans : Type := ByteArray × List ByteArray × Bool × Int
def orErr (n : Int) (r : Ans) : Ans := if n ≠ 0 then (⟨#[]⟩, [], false, n) else r
theorem orErr_ite {P : Prop} [Decidable P] {x y : Int} {r : Ans} : orErr (if P then x else y) r = if P then orErr x r else orErr y r := by split <;> rfl
theorem orErr_zero {r : Ans} : orErr 0 r = r := rfl
def kindsChk (K : List ByteArray) : Int := if 30 < K.length then 2 else chkKinds none K
def firstPlat (T : List Tool) (K : List ByteArray) (q : Platform) : List Platform → Ans
  | [] => (⟨#[]⟩, [], false, 0)
  | p :: r => if (toolsOn T p q [] K).2 = true then (p.1, (toolsOn T p q [] K).1, true, 0) else firstPlat T K q r
def toolsAns (P : List Platform) (T : List Tool) (K : List ByteArray) (q : Platform) : Ans :=
  orErr (chkPlatforms P) (orErr (chkTools T) (orErr (kindsChk K) (orErr (chkPlatforms [q]) (firstPlat T K q P))))
theorem PlatSz.one {q : Platform} (h1 : q.1.size ≤ 140737488351232) (h2 : PairSz q.2) : PlatSz [q] :=
  ⟨by show 1 * 40 ≤ _; omega, fun p hp => by rw [List.mem_singleton] at hp; subst hp; exact ⟨h1, h2⟩⟩
theorem first_loop {kk : ι → Nat} (hk : ∀ i, l i ≤ kk i) (T : List Tool) (K : List ByteArray) (q : Platform) (P : List Platform) (f : ι → Platform → Option (List ByteArray × Bool)) (hf : ∀ p ∈ P, Ult l (fun i => f i p) (toolsOn T p q [] K)) (hP : P.length ≤ 9223372036854775807) :
    Ult l (fun i => loopN (kk i) (fun (a6 : Int → Option Ans) (a7 : Int) => cnd (ilt a7 (len P)) (bnd (at? P a7) fun a8 => bnd (f i a8) fun a9 => cnd a9.2 (some (a8.1, a9.1, true, 0)) (a6 (iadd .i64 a7 1))) (some ((⟨#[]⟩ : ByteArray), ([] : List ByteArray), false, 0))) 0) (firstPlat T K q P) := by
  refine (Ult.forI hk P.length (fun j => firstPlat T K q (P.drop j)) fun j hj next => ?_).eq (by rw [List.drop_zero])
  rw [iltL]
  by_cases hlt' : ¬ j < P.length
  · refine Ult.no (decide_eq_false hlt') (Ult.ret.eq ?_)
    rw [List.drop_eq_nil_of_le (by omega)]; rfl
  have hlt : j < P.length := Decidable.not_not.1 hlt'
  refine Ult.yes (decide_eq_true hlt) (Ult.bindc (at?_nat hlt) (Ult.bind (hf _ (List.getElem_mem hlt)).lift ?_))
  rw [drop_cons hlt, firstPlat, isucc hlt hP]
  exact Ult.ifS (dec_true _) (fun _ => Ult.ret) (fun _ => next hlt)
theorem toolsOn_len {T : List Tool} {p q : Platform} : ∀ {K acc : List ByteArray}, (toolsOn T p q acc K).1.length ≤ acc.length + K.length
  | [], acc => Nat.le_refl _
  | kd :: r, acc => by
    rw [toolsOn]
    split
    · exact Nat.zero_le _
    · have := toolsOn_len (T := T) (p := p) (q := q) (K := r) (acc := acc ++ [(‹Tool›).1])
      simp only [List.length_append, List.length_cons, List.length_nil] at this ⊢
      omega
theorem firstPlat_len {T : List Tool} {K : List ByteArray} {q : Platform} : ∀ {P : List Platform}, (firstPlat T K q P).2.1.length ≤ K.length
  | [] => Nat.zero_le _
  | p :: r => by
    rw [firstPlat]
    split
    · have := toolsOn_len (T := T) (p := p) (q := q) (K := K) (acc := [])
      simpa using this
    · exact firstPlat_len
theorem orErr_len {n : Int} {r : Ans} {m : Nat} (h : r.2.1.length ≤ m) : (orErr n r).2.1.length ≤ m := by
  unfold orErr
  split
  · exact Nat.zero_le _
  · exact h
theorem toolsAns_len {P : List Platform} {T : List Tool} {K : List ByteArray} {q : Platform} : (toolsAns P T K q).2.1.length ≤ K.length := orErr_len (orErr_len (orErr_len (orErr_len firstPlat_len)))
end Go.Proofs.YtonfimidgbppeaaGreatDoor.Ev

namespace Go.Proofs.YtonfimidgbppeaaGreatDoor.Ev
open Go Go.RowKit
set_option linter.unusedVariables false
set_option linter.unusedSimpArgs false
variable {ι R α X : Type} {l : ι → Nat}
def okB (b : UInt8) : Bool := decide (32 ≤ b.toNat ∧ b.toNat ≤ 126)
def dflt : ByteArray := ⟨#[100, 101, 102, 97, 117, 108, 116]⟩
def isCond (s : ByteArray) : Bool := s.data.toList.all okB && (decide (1 ≤ s.size ∧ s.size ≤ 1000) && decide (s ≠ dflt))
theorem S96_78 (k k' : Nat) (s : ByteArray) : S96 k (s, (fun a => S97 k' (a, ())), ()) = some (!(s.data.toList.all okB)) := by
  have hv : ∀ n : Nat, S97 k' ((n : Int), ()) = some (decide (n < 32 ∨ 126 < n)) := fun n => by
    unfold S97
    dsimp only
    rw [ilt_eq, igt_eq]
    by_cases h : n < 32
    · rw [decide_eq_true (show (n : Int) < 32 by omega), decide_eq_true (Or.inl h)]; rfl
    · rw [decide_eq_false (show ¬ (n : Int) < 32 by omega)]
      show some (decide ((126 : Int) < n)) = _
      congr 1
      simp only [decide_eq_decide]
      omega
  unfold S96 containsF
  rw [if_pos (show Runes _ from fun n _ => ⟨_, hv n⟩)]
  congr 1
  rw [show (fun x : Nat => (S97 k' ((x : Int), ())).getD false) = fun n => decide (n < 32 ∨ 126 < n) from funext fun n => by rw [hv n]; rfl]
  unfold Lib.idxFunc
  rw [idxFrom_any _ (fun r hr => by simp; omega) s s.size 0 (by omega), List.drop_zero]
  rw [List.not_all_eq_any_not]
  congr 1
  funext b
  unfold okB
  rw [← decide_not]
  simp only [decide_eq_decide]
  omega
theorem isCond_join {l : ι → Nat} (s : ByteArray) {k k' : ι → Nat} {g : ι → Bool → Option R} {r : R} (h : Ult l (fun i => g i (!isCond s)) r) :
    Ult l (fun i => jn (fun a6 => cnd (ilt (ssz s) 1) (a6 true) (cnd (igt (ssz s) 1000) (a6 true) (cnd (seq s (⟨#[100, 101, 102, 97, 117, 108, 116]⟩ : ByteArray)) (a6 true) (bnd (S96 (k i) (s, (fun a => S97 (k' i) (a, ())), ())) (fun a7 => a6 a7))))) (g i)) r := by
  refine Ult.jn ?_
  by_cases h1 : s.size < 1
  · refine Ult.yes (by simp only [ilt_eq, ssz, decide_eq_true_eq]; omega) ?_
    rw [show isCond s = false by unfold isCond; rw [decide_eq_false (by omega : ¬ (1 ≤ s.size ∧ s.size ≤ 1000)), Bool.false_and, Bool.and_false]] at h
    exact h
  refine Ult.no (by simp only [ilt_eq, ssz, decide_eq_false_iff_not]; omega) ?_
  by_cases h2 : 1000 < s.size
  · refine Ult.yes (by simp only [igt_eq, ssz, decide_eq_true_eq]; omega) ?_
    rw [show isCond s = false by unfold isCond; rw [decide_eq_false (by omega : ¬ (1 ≤ s.size ∧ s.size ≤ 1000)), Bool.false_and, Bool.and_false]] at h
    exact h
  refine Ult.no (by simp only [igt_eq, ssz, decide_eq_false_iff_not]; omega) ?_
  by_cases h3 : s = dflt
  · refine Ult.yes (by rw [seq_eq]; exact decide_eq_true h3) ?_
    rw [show isCond s = false by unfold isCond; rw [decide_eq_false (by simpa using h3 : ¬ (s ≠ dflt)), Bool.and_false, Bool.and_false]] at h
    exact h
  refine Ult.no (by rw [seq_eq]; exact decide_eq_false h3) ?_
  rw [show isCond s = s.data.toList.all okB by unfold isCond; rw [decide_eq_true h3, decide_eq_true (by omega : 1 ≤ s.size ∧ s.size ≤ 1000)]; simp] at h
  exact h.congr fun i => by rw [S96_78]; rfl

/-- the order of names, and what comes then -/
theorem order_stepG {C : List (ByteArray × α)} {j : Nat} (hlt : j < C.length) (hC : C.length ≤ 9223372036854775807) {e rest : R} {f : ι → Option R} (nx : Ult l f rest) :
    Ult l (fun i => cnd (igt (j : Int) 0) (bnd (at? C (isub .i64 (j : Int) 1)) fun a => cnd (sle C[j].1 a.1) (some e) (f i)) (f i)) (if notAbove (prevOf C j) C[j].1 = true then e else rest) := by
  rw [igt0]
  by_cases h0 : 0 < j
  · refine Ult.yes (decide_eq_true h0) ?_
    rw [ipred (n := C.length) h0 (by omega) (by omega)]
    refine Ult.bindc (at?_nat (show j - 1 < C.length by omega)) ?_
    have hp : prevOf C j = some C[j - 1].1 := by unfold prevOf; rw [dif_pos ⟨h0, by omega⟩]
    rw [hp]
    exact Ult.ifS (dec_true _) (fun _ => Ult.ret) fun _ => nx
  · refine Ult.no (decide_eq_false h0) ?_
    have : j = 0 := by omega
    subst this
    rw [prevOf_zero, if_neg (by simp [notAbove])]
    exact nx
def chkConds (L : List Setting) : Option ByteArray → List Condition → Int
  | _, [] => 0
  | prev, x :: r => if isCond x.1 = false then 3 else if 30 < x.2.1.length then 2 else if 30 < x.2.2.length then 2 else if chkSet L false none x.2.1 ≠ 0 then chkSet L false none x.2.1 else if chkPairsL x.2.2 ≠ 0 then chkPairsL x.2.2 else if notAbove prev x.1 = true then 8 else chkConds L (some x.1) r
def chkConditions (L : List Setting) (M : List Condition) : Int := if chkSettings L ≠ 0 then chkSettings L else if 100 < M.length then 2 else chkConds L none M
theorem S54_spec (L : List Setting) (M : List Condition) (hL : SetSz L) (hM : CondSz M) : Ultk (fun k => S54 k (L, M, ())) (chkConditions L M) := by
  unfold S54 chkConditions
  have hlen := len_big hM.1 (by omega)
  refine Ult.bind (S63_spec L hL) (Ult.ifS (ine_eq _ _) (fun _ => Ult.ret) fun _ => ?_)
  refine Ult.ifS (by rw [igt_eq]; unfold len; simp only [decide_eq_decide]; omega) (fun _ => Ult.ret) fun h30 => ?_
  refine (Ult.forI (fun _ => Nat.le_refl _) M.length (fun j => chkConds L (prevOf M j) (M.drop j)) fun j hj next => ?_).eq (by rw [List.drop_zero, prevOf_zero])
  dsimp only
  rw [iltL]
  by_cases hlt' : ¬ j < M.length
  · refine Ult.no (decide_eq_false hlt') (Ult.ret.eq ?_)
    rw [List.drop_eq_nil_of_le (by omega)]
    cases prevOf M j <;> rfl
  have hlt : j < M.length := Decidable.not_not.1 hlt'
  refine Ult.yes (decide_eq_true hlt) (Ult.bindc (at?_nat hlt) ?_)
  obtain ⟨s1, s2, s3⟩ := hM.2 _ (List.getElem_mem hlt)
  have l2 := s2.len
  have l3 := s3.len
  rw [drop_cons hlt, chkConds, ← prevOf_succ hlt, isucc hlt (by omega)]
  refine (isCond_join _ (Ult.ifS (by cases isCond M[j].1 <;> rfl) (fun _ => Ult.ret) fun _ => Ult.jn ?_))
  refine Ult.ifS (by rw [igt_eq]; unfold len; simp only [decide_eq_decide]; omega) (fun _ => Ult.ret) fun _ => ?_
  refine Ult.ifS (by rw [igt_eq]; unfold len; simp only [decide_eq_decide]; omega) (fun _ => Ult.ret) fun _ => ?_
  refine Ult.bind (Ult.call (f := fun k => S64 k (L, M[j].2.1, false, ())) (lp_le _ _ fun _ => Nat.le_refl _) (S64_spec L M[j].2.1 false hL (by omega))) (Ult.ifS (ine_eq _ _) (fun _ => Ult.ret) fun _ => ?_)
  refine Ult.bind (Ult.call (f := fun k => S98 k (M[j].2.2, ())) (lp_le _ _ fun _ => Nat.le_refl _) (S98_spec M[j].2.2 s3)) (Ult.ifS (ine_eq _ _) (fun _ => Ult.ret) fun _ => ?_)
  exact order_stepG hlt (by omega) (next hlt)
def needsOk (L : List Setting) (C : List Pair) (N : List Pair) : Bool := N.all fun n => decide (valOf L C n.1 = some n.2)
def holdsB (L : List Setting) (x : Condition) (C : List Pair) (p : Platform) : Bool := if needsOk L C x.2.1 = true then fitP x.2.2 p.2 else false
theorem holds_loop {kk : ι → Nat} (hk : ∀ i, l i ≤ kk i) (L : List Setting) (C N : List Pair) (f : ι → ByteArray → Option ByteArray) (hf : ∀ n ∈ N, ∃ v, valOf L C n.1 = some v ∧ Ult l (fun i => f i n.1) v) (hN : N.length ≤ 9223372036854775807) {y : ι → Option Bool} {r : Bool} (hy : Ult l y r) :
    Ult l (fun i => loopN (kk i) (fun (a2 : Int → Option Bool) (a3 : Int) => cnd (ilt a3 (len N)) (bnd (at? N a3) fun a4 => bnd (f i a4.1) fun a5 => cnd (sne a5 a4.2) (some false) (a2 (iadd .i64 a3 1))) (y i)) 0) (if needsOk L C N = true then r else false) := by
  refine (Ult.forI hk N.length (fun j => if needsOk L C (N.drop j) = true then r else false) fun j hj next => ?_).eq (by rw [List.drop_zero])
  rw [iltL]
  by_cases hlt' : ¬ j < N.length
  · refine Ult.no (decide_eq_false hlt') (hy.lift.eq ?_)
    rw [List.drop_eq_nil_of_le (by omega)]; rfl
  have hlt : j < N.length := Decidable.not_not.1 hlt'
  obtain ⟨v, v1, v2⟩ := hf _ (List.getElem_mem hlt)
  refine Ult.yes (decide_eq_true hlt) (Ult.bindc (at?_nat hlt) (Ult.bind v2.lift ?_))
  have nx := next hlt
  have e : needsOk L C (N.drop j) = (decide (valOf L C N[j].1 = some N[j].2) && needsOk L C (N.drop (j + 1))) := by rw [drop_cons hlt]; rfl
  rw [e, isucc hlt hN, v1]
  by_cases hv : v = N[j].2
  · refine Ult.no (by rw [sne_eq]; simpa using hv) ?_
    rw [decide_eq_true (by rw [hv]), Bool.true_and]
    exact nx
  · refine Ult.yes (by rw [sne_eq]; exact decide_eq_true hv) (Ult.ret.eq ?_)
    rw [decide_eq_false (by simpa using hv), Bool.false_and]; rfl
theorem S77_spec (L : List Setting) (x : Condition) (C : List Pair) (p : Platform) (hL : L.length ≤ 9223372036854775807) (hC : C.length ≤ 9223372036854775807) (h1 : PairSz x.2.1) (h2 : PairSz x.2.2) (h3 : PairSz p.2) (hv : ∀ n ∈ x.2.1, ∃ v, valOf L C n.1 = some v) : Ultk (fun k => S77 k (L, x, C, p, ())) (holdsB L x C p) := by
  unfold S77 holdsB
  have l1 := h1.len
  have l2 := h2.len
  have l3 := h3.len
  exact holds_loop (l := fun k : Nat => k) (fun _ => Nat.le_refl _) L C x.2.1 (fun k n => S60 k (L, C, n, ())) (fun n hn => by
    obtain ⟨v, hv⟩ := hv n hn
    exact ⟨v, hv, S60_spec L C n.1 v hL hC hv⟩) (by omega) (Ult.bind (S126_spec x.2.2 p.2 (by omega) (by omega)) Ult.ret)
def holdsAns (L : List Setting) (x : Condition) (C : List Pair) (p : Platform) : Bool × Int :=
  if chkConfig L C ≠ 0 then (false, chkConfig L C) else if chkConditions L [x] ≠ 0 then (false, chkConditions L [x]) else if chkPlatforms [p] ≠ 0 then (false, chkPlatforms [p]) else (holdsB L x C p, 0)
theorem chkConditions_one {L : List Setting} {x : Condition} (h : chkConditions L [x] = 0) : chkSettings L = 0 ∧ chkSet L false none x.2.1 = 0 := by
  unfold chkConditions at h
  split at h
  · rename_i q; exact absurd h q
  · rename_i q
    refine ⟨Decidable.not_not.1 q, ?_⟩
    rw [if_neg (by simp), chkConds] at h
    split at h
    · cases h
    split at h
    · cases h
    split at h
    · cases h
    split at h
    · rename_i q4; exact absurd h q4
    · rename_i q4; exact Decidable.not_not.1 q4
theorem CondSz.one {x : Condition} (h0 : x.1.size ≤ 140737488351232) (h1 : PairSz x.2.1) (h2 : PairSz x.2.2) : CondSz [x] :=
  ⟨by show 1 * 64 ≤ _; omega, fun p hp => by rw [List.mem_singleton] at hp; subst hp; exact ⟨h0, h1, h2⟩⟩
theorem holds_vals {L : List Setting} {x : Condition} {C : List Pair} (h : chkConditions L [x] = 0) : ∀ n ∈ x.2.1, ∃ v, valOf L C n.1 = some v := fun n hn => by
  obtain ⟨h1, h2⟩ := chkConditions_one h
  obtain ⟨s, hs, _⟩ := (chkSet_ok h2).1 n hn
  exact valOf_some h1 hs
end Go.Proofs.YtonfimidgbppeaaGreatDoor.Ev

namespace Go.Proofs.YtonfimidgbppeaaGreatDoor.Ev
open Go Go.RowKit
set_option linter.unusedVariables false
set_option linter.unusedSimpArgs false
variable {ι R α X : Type} {l : ι → Nat}
abbrev V0 : Type := Int × ByteArray × Int × List ByteArray × Nat
abbrev Case : Type := ByteArray × V0
abbrev V1 : Type := Int × ByteArray × Int × List ByteArray × List Case
theorem jn_and (c d : Bool) (g : Bool → Option R) : jn (fun a => cnd c (a d) (a false)) g = g (c && d) := by cases c <;> rfl
theorem jn_or (c d : Bool) (g : Bool → Option R) : jn (fun a => cnd c (a true) (a d)) g = g (c || d) := by cases c <;> rfl
/-! ### texts -/
def okT (b : UInt8) : Bool := decide (b.toNat = 10 ∨ 32 ≤ b.toNat ∧ b.toNat ≤ 126)
def isTxt (s : ByteArray) : Bool := s.data.toList.all okT
theorem txt_loop {kk : ι → Nat} (hk : ∀ i, l i ≤ kk i) (s : ByteArray) (hs : s.size ≤ 9223372036854775807) : Ult l (fun i => loopN (kk i) (fun (a2 : (Int → (Option Bool))) (a3 : Int) => cnd (ilt a3 (ssz s)) (bnd (bt? s a3) (fun (a4 : Int) => cnd (ine a4 10) (bnd (bt? s a3) (fun (a5 : Int) => cnd (ilt a5 32) (some false) (bnd (bt? s a3) (fun (a6 : Int) => cnd (igt a6 126) (some false) (a2 (iadd Go.IntKind.i64 a3 1)))))) (a2 (iadd Go.IntKind.i64 a3 1)))) (some true)) 0) (isTxt s) := by
  have hl : s.data.toList.length = s.size := by simp
  refine (Ult.forI hk s.size (fun j => (s.data.toList.drop j).all okT) fun j hj next => ?_).eq (by rw [List.drop_zero]; rfl)
  by_cases hlt' : ¬ j < s.size
  · refine Ult.no (by rw [iltS]; exact decide_eq_false hlt') (Ult.ret.eq ?_)
    rw [List.drop_eq_nil_of_le (by omega), List.all_nil]
  have hlt : j < s.size := Decidable.not_not.1 hlt'
  have hb := bt?_nat hlt
  have e := bt_get hlt
  refine Ult.yes (by rw [iltS]; exact decide_eq_true hlt) (Ult.bindc hb ?_)
  rw [drop_cons (by omega : j < s.data.toList.length), List.all_cons, isucc hlt hs, e]
  have nx := next hlt
  generalize hbb : s.data.toList[j]'(by omega) = b at e ⊢
  have step : okT b = true → Ult (lp l) (fun p => loopN p.2 _ ((j + 1 : Nat) : Int)) (okT b && (s.data.toList.drop (j + 1)).all okT) := fun h => by rw [h, Bool.true_and]; exact nx
  by_cases h10 : b.toNat = 10
  · refine Ult.no (by rw [ine_eq]; simp only [decide_eq_false_iff_not]; omega) ?_
    exact step (by unfold okT; rw [decide_eq_true (by omega)])
  refine Ult.yes (by rw [ine_eq]; exact decide_eq_true (by omega)) (Ult.bindc hb ?_)
  rw [e]
  by_cases h32 : b.toNat < 32
  · refine Ult.yes (by rw [ilt_eq]; exact decide_eq_true (by omega)) (Ult.ret.eq ?_)
    unfold okT; rw [decide_eq_false (by omega), Bool.false_and]
  refine Ult.no (by rw [ilt_eq]; exact decide_eq_false (by omega)) (Ult.bindc hb ?_)
  rw [e]
  by_cases h126 : 126 < b.toNat
  · refine Ult.yes (by rw [igt_eq]; exact decide_eq_true (by omega)) (Ult.ret.eq ?_)
    unfold okT; rw [decide_eq_false (by omega), Bool.false_and]
  refine Ult.no (by rw [igt_eq]; exact decide_eq_false (by omega)) ?_
  exact step (by unfold okT; rw [decide_eq_true (by omega)])
theorem txtP (s : ByteArray) (hs : s.size ≤ 9223372036854775807) : Ultk (fun k => S73 k (s, ())) (isTxt s) := by
  unfold S73
  exact txt_loop (l := fun k : Nat => k) (fun _ => Nat.le_refl _) s hs
/-! ### the check of a value; n: how many cases it has, r: what is said of them -/
def badV (kd : Int) (tx : ByteArray) (nm : Int) (ls : List ByteArray) (n : Int) : Bool := (sne tx ⟨#[]⟩ && ine kd 1) || ((ine nm 0 && ine kd 2) || ((igt (len ls) 0 && ine kd 3) || (igt n 0 && ine kd 4)))
def bigV (tx : ByteArray) (ls : List ByteArray) (n : Int) : Bool := igt (ssz tx) 1000 || (igt (len ls) 1000 || (ls.any (fun s => igt (ssz s) 1000) || igt n 50))
def badT (tx : ByteArray) (ls : List ByteArray) : Bool := bnot (isTxt tx) || ls.any (fun s => bnot (isTxt s))
def chkVal (kd : Int) (tx : ByteArray) (nm : Int) (ls : List ByteArray) (n r : Int) : Int :=
  if (ilt kd 1 || igt kd 4) = true then 4 else if badV kd tx nm ls n = true then 3 else if bigV tx ls n = true then 2 else if badT tx ls = true then 3 else if (ilt nm 0 || igt nm 999999999) = true then 1 else if kd = 4 then r else 0
theorem strs_any {kk : ι → Nat} (hk : ∀ i, l i ≤ kk i) (L : List ByteArray) (f : ι → ByteArray → Option Bool) (p : ByteArray → Bool) (hf : ∀ a ∈ L, Ult l (fun i => f i a) (p a)) (hL : L.length ≤ 9223372036854775807) : Ult l (fun i => S71 (kk i) (L, f i, ())) (L.any p) := by
  unfold S71
  refine Ult.bind ?_ (Ult.ret.eq idxF_any)
  unfold S121
  exact idx_loop hk L f p hf hL
theorem chkVal_prog (kd : Int) (tx : ByteArray) (nm : Int) (ls : List ByteArray) (n r : Int) (y : Nat → Option Int) (h1 : tx.size ≤ 140737488351232) (h2 : StrsSz ls) (hy : kd = 4 → Ultk y r) :
    Ultk (fun k => jn (fun (a2 : (Bool → (Option Int))) => cnd (ilt kd 1) (a2 true) (a2 (igt kd 4))) (fun (a2 : Bool) => cnd a2 (some 4) (jn (fun (a3 : (Bool → (Option Int))) => jn (fun (a4 : (Bool → (Option Int))) => cnd (sne tx (⟨#[]⟩ : ByteArray)) (a4 (ine kd 1)) (a4 false)) (fun (a4 : Bool) => cnd a4 (a3 a4) (jn (fun (a5 : (Bool → (Option Int))) => cnd (ine nm 0) (a5 (ine kd 2)) (a5 false)) (fun (a5 : Bool) => cnd a5 (a3 a5) (jn (fun (a6 : (Bool → (Option Int))) => cnd (igt (len ls) 0) (a6 (ine kd 3)) (a6 false)) (fun (a6 : Bool) => cnd a6 (a3 a6) (cnd (igt n 0) (a3 (ine kd 4)) (a3 false)))))))) (fun (a3 : Bool) => cnd a3 (some 3) (jn (fun (a4 : (Bool → (Option Int))) => cnd (igt (ssz tx) 1000) (a4 true) (cnd (igt (len ls) 1000) (a4 true) (bnd (S71 k (ls, fun (a5 : ByteArray) => S72 k (a5, ()), ())) (fun (a5 : Bool) => cnd a5 (a4 true) (a4 (igt n 50)))))) (fun (a4 : Bool) => cnd a4 (some 2) (jn (fun (a5 : (Bool → (Option Int))) => bnd (S73 k (tx, ())) (fun (a6 : Bool) => cnd (bnot a6) (a5 true) (bnd (S71 k (ls, fun (a7 : ByteArray) => S74 k (a7, ()), ())) (fun (a7 : Bool) => a5 a7)))) (fun (a5 : Bool) => cnd a5 (some 3) (jn (fun (a6 : (Bool → (Option Int))) => cnd (ilt nm 0) (a6 true) (a6 (igt nm 999999999))) (fun (a6 : Bool) => cnd a6 (some 1) (cnd (ieq kd 4) (y k) (some 0)))))))))))) (chkVal kd tx nm ls n r) := by
  have hlen := len_big h2.1 (by omega)
  simp only [jn_and, jn_or]
  unfold chkVal
  refine Ult.ifS (dec_true _) (fun _ => Ult.ret) fun _ => ?_
  unfold badV
  have tail : Ultk (fun k => jn (fun (a4 : (Bool → (Option Int))) => cnd (igt (ssz tx) 1000) (a4 true) (cnd (igt (len ls) 1000) (a4 true) (bnd (S71 k (ls, fun (a5 : ByteArray) => S72 k (a5, ()), ())) (fun (a5 : Bool) => cnd a5 (a4 true) (a4 (igt n 50)))))) (fun (a4 : Bool) => cnd a4 (some 2) (jn (fun (a5 : (Bool → (Option Int))) => bnd (S73 k (tx, ())) (fun (a6 : Bool) => cnd (bnot a6) (a5 true) (bnd (S71 k (ls, fun (a7 : ByteArray) => S74 k (a7, ()), ())) (fun (a7 : Bool) => a5 a7)))) (fun (a5 : Bool) => cnd a5 (some 3) (cnd (ilt nm 0 || igt nm 999999999) (some 1) (cnd (ieq kd 4) (y k) (some 0))))))) (if bigV tx ls n = true then 2 else if badT tx ls = true then 3 else if (ilt nm 0 || igt nm 999999999) = true then 1 else if kd = 4 then r else 0) := by
    have last : Ultk (fun k => jn (fun (a5 : (Bool → (Option Int))) => bnd (S73 k (tx, ())) (fun (a6 : Bool) => cnd (bnot a6) (a5 true) (bnd (S71 k (ls, fun (a7 : ByteArray) => S74 k (a7, ()), ())) (fun (a7 : Bool) => a5 a7)))) (fun (a5 : Bool) => cnd a5 (some 3) (cnd (ilt nm 0 || igt nm 999999999) (some 1) (cnd (ieq kd 4) (y k) (some 0))))) (if badT tx ls = true then 3 else if (ilt nm 0 || igt nm 999999999) = true then 1 else if kd = 4 then r else 0) := by
      have fin : Ultk (fun k => cnd (ilt nm 0 || igt nm 999999999) (some 1) (cnd (ieq kd 4) (y k) (some 0))) (if (ilt nm 0 || igt nm 999999999) = true then 1 else if kd = 4 then r else 0) :=
        Ult.ifS (dec_true _) (fun _ => Ult.ret) fun _ => Ult.ifS (ieq_eq _ _) (fun h => hy h) fun _ => Ult.ret
      refine Ult.jn (Ult.bind (txtP tx (by omega)) ?_)
      unfold badT
      cases isTxt tx with
      | false => exact Ult.yes rfl (Ult.yes rfl Ult.ret)
      | true =>
        refine Ult.no rfl (Ult.bind (strs_any (l := fun k : Nat => k) (fun _ => Nat.le_refl _) ls (fun k a => S74 k (a, ())) (fun s => bnot (isTxt s)) (fun a ha => ?_) (by omega)) ?_)
        · unfold S74
          exact Ult.bind (txtP a (by have := h2.2 a ha; omega)) Ult.ret
        · show Ultk _ (if (false || ls.any fun s => bnot (isTxt s)) = true then _ else _)
          rw [Bool.false_or]
          exact Ult.ifS (dec_true _) (fun _ => Ult.ret) fun _ => fin
    refine Ult.jn ?_
    unfold bigV
    cases igt (ssz tx) 1000 with
    | true => exact Ult.yes rfl (Ult.yes rfl Ult.ret)
    | false =>
      refine Ult.no rfl ?_
      cases igt (len ls) 1000 with
      | true => exact Ult.yes rfl (Ult.yes rfl Ult.ret)
      | false =>
        refine Ult.no rfl (Ult.bind (strs_any (l := fun k : Nat => k) (fun _ => Nat.le_refl _) ls (fun k a => S72 k (a, ())) (fun s => igt (ssz s) 1000) (fun a _ => Ult.ret) (by omega)) ?_)
        cases ls.any (fun s => igt (ssz s) 1000) with
        | true => exact Ult.yes rfl (Ult.yes rfl Ult.ret)
        | false =>
          refine Ult.no rfl ?_
          cases igt n 50 with
          | true => exact Ult.yes rfl Ult.ret
          | false => exact Ult.no rfl last
  cases hb1 : (sne tx (⟨#[]⟩ : ByteArray) && ine kd 1) with
  | true => exact Ult.jn (Ult.yes rfl (Ult.yes rfl Ult.ret))
  | false =>
    refine Ult.jn (Ult.no rfl ?_)
    cases hb2 : (ine nm 0 && ine kd 2) with
    | true => exact Ult.yes rfl (Ult.yes rfl Ult.ret)
    | false =>
      refine Ult.no rfl ?_
      cases hb3 : (igt (len ls) 0 && ine kd 3) with
      | true => exact Ult.yes rfl (Ult.yes rfl Ult.ret)
      | false =>
        refine Ult.no rfl ?_
        cases hb4 : igt n 0 with
        | false => exact Ult.no rfl (Ult.no rfl tail)
        | true =>
          refine Ult.yes rfl ?_
          cases ine kd 4 with
          | true => exact Ult.yes rfl Ult.ret
          | false => exact Ult.no rfl tail
end Go.Proofs.YtonfimidgbppeaaGreatDoor.Ev

namespace Go.Proofs.YtonfimidgbppeaaGreatDoor.Ev
open Go Go.RowKit
set_option linter.unusedVariables false
set_option linter.unusedSimpArgs false
variable {ι R α X : Type} {l : ι → Nat}
theorem jn_u {c d : Bool} {a : Option R} {g : Unit → Option R} : jn (fun (next : Unit → Option R) => cnd c a (cnd d a (next ()))) g = cnd (c || d) a (g ()) := by cases c <;> rfl
theorem all_any (p : α → Bool) : ∀ L : List α, L.all p = bnot (L.any fun s => bnot (p s))
  | [] => rfl
  | a :: L => by
    rw [List.all_cons, List.any_cons, all_any p L]
    cases p a <;> rfl
theorem isPlain_eq (kd : Int) (tx : ByteArray) (nm : Int) (ls : List ByteArray) (n : Int) (hn : 0 ≤ n) : (cnd (seq tx (⟨#[]⟩ : ByteArray)) (cnd (ieq nm 0) (cnd (ieq (len ls) 0) (cnd (ieq n 0) (some true) (some (ieq kd 4))) (cnd (ieq kd 3) (cnd (ieq n 0) (some true) (some (ieq kd 4))) (some false))) (cnd (ieq kd 2) (cnd (ieq (len ls) 0) (cnd (ieq n 0) (some true) (some (ieq kd 4))) (cnd (ieq kd 3) (cnd (ieq n 0) (some true) (some (ieq kd 4))) (some false))) (some false))) (cnd (ieq kd 1) (cnd (ieq nm 0) (cnd (ieq (len ls) 0) (cnd (ieq n 0) (some true) (some (ieq kd 4))) (cnd (ieq kd 3) (cnd (ieq n 0) (some true) (some (ieq kd 4))) (some false))) (cnd (ieq kd 2) (cnd (ieq (len ls) 0) (cnd (ieq n 0) (some true) (some (ieq kd 4))) (cnd (ieq kd 3) (cnd (ieq n 0) (some true) (some (ieq kd 4))) (some false))) (some false))) (some false))) = some (bnot (badV kd tx nm ls n)) := by
  have hl : (0 : Int) ≤ len ls := by unfold len; exact Int.natCast_nonneg _
  have e1 : igt (len ls) 0 = !(ieq (len ls) 0) := by rw [igt_eq, ieq_eq]; by_cases h : len ls = 0 <;> simp only [h] <;> simp <;> omega
  have e2 : igt n 0 = !(ieq n 0) := by rw [igt_eq, ieq_eq]; by_cases h : n = 0 <;> simp only [h] <;> simp <;> omega
  have s1 : sne tx (⟨#[]⟩ : ByteArray) = !(seq tx ⟨#[]⟩) := by rw [sne_eq, seq_eq]; simp
  have i1 : ∀ a b : Int, ine a b = !(ieq a b) := fun a b => by rw [ine_eq, ieq_eq]; simp
  unfold badV
  rw [e1, e2, s1, i1, i1, i1, i1, i1]
  generalize seq tx (⟨#[]⟩ : ByteArray) = b1
  generalize ieq nm 0 = b2
  generalize ieq (len ls) 0 = b3
  generalize ieq n 0 = b4
  generalize ieq kd 1 = k1
  generalize ieq kd 2 = k2
  generalize ieq kd 3 = k3
  generalize ieq kd 4 = k4
  cases b1 <;> cases b2 <;> cases b3 <;> cases b4 <;> cases k1 <;> cases k2 <;> cases k3 <;> cases k4 <;> rfl
/-! ### values without cases, values with cases -/
def V0Sz (v : V0) : Prop := v.2.1.size ≤ 140737488351232 ∧ StrsSz v.2.2.2.1
def CasesSz (l : List Case) : Prop := l.length * 96 ≤ 140737488351232 ∧ ∀ c ∈ l, c.1.size ≤ 140737488351232 ∧ V0Sz c.2
def V1Sz (v : V1) : Prop := v.2.1.size ≤ 140737488351232 ∧ StrsSz v.2.2.2.1 ∧ CasesSz v.2.2.2.2
def chk0 (v : V0) : Int := chkVal v.1 v.2.1 v.2.2.1 v.2.2.2.1 (olen v.2.2.2.2) 0
theorem chk0_prog (v : V0) (h : V0Sz v) (hk : v.1 ≠ 4) : Ultk (fun k => S1040 k (v, ())) (chk0 v) := by
  unfold S1040
  exact chkVal_prog v.1 v.2.1 v.2.2.1 v.2.2.2.1 (olen v.2.2.2.2) 0 (fun _ => none) h.1 h.2 fun q => absurd q hk
end Go.Proofs.YtonfimidgbppeaaGreatDoor.Ev

namespace Go.Proofs.YtonfimidgbppeaaGreatDoor.Ev
open Go Go.RowKit
set_option linter.unusedVariables false
set_option linter.unusedSimpArgs false
variable {ι R α X : Type} {l : ι → Nat}
def chkTxt (s : ByteArray) : Int := if 1000 < s.size then 2 else if isTxt s = false then 3 else 0
theorem chkTxt_prog (s : ByteArray) (hs : s.size ≤ 9223372036854775807) : Ultk (fun k => S122 k (s, ())) (chkTxt s) := by
  unfold S122 chkTxt
  refine Ult.ifS (by rw [igt_eq]; unfold ssz; simp only [decide_eq_decide]; omega) (fun _ => Ult.ret) fun _ => ?_
  exact Ult.bind (txtP s hs) (Ult.ifS (not_false_eq _) (fun _ => Ult.ret) fun _ => Ult.ret)
def chkCs (k0 : Int) : List Case → List Case → Int
  | _, [] => 0
  | pre, c :: r => if chkTxt c.1 ≠ 0 then chkTxt c.1 else if pre.any (fun d => decide (d.1 = c.1)) = true then 7 else if c.2.1 = 4 then 4 else if chk0 c.2 ≠ 0 then chk0 c.2 else if c.2.1 ≠ k0 then 6 else chkCs k0 (pre ++ [c]) r
def chkCases : List Case → Int
  | [] => 9
  | c :: r => chkCs c.2.1 [] (c :: r)
theorem cases_idx {kk : ι → Nat} (hk : ∀ i, l i ≤ kk i) (L : List Case) (f : ι → Case → Option Bool) (p : Case → Bool) (hf : ∀ a ∈ L, Ult l (fun i => f i a) (p a)) (hL : L.length ≤ 9223372036854775807) : Ult l (fun i => S78 (kk i) (L, f i, ())) (idxF p 0 L) := by
  unfold S78
  exact idx_loop hk L f p hf hL
theorem cases_any {kk : ι → Nat} (hk : ∀ i, l i ≤ kk i) (L : List Case) (f : ι → Case → Option Bool) (p : Case → Bool) (hf : ∀ a ∈ L, Ult l (fun i => f i a) (p a)) (hL : L.length ≤ 9223372036854775807) : Ult l (fun i => S123 (kk i) (L, f i, ())) (L.any p) := by
  unfold S123
  exact Ult.bind (cases_idx hk L f p hf hL) (Ult.ret.eq idxF_any)
theorem cases_len {L : List Case} (h : CasesSz L) : L.length ≤ 9223372036854775807 := by have := len_big h.1 (by omega); omega
theorem chkCases_prog (L : List Case) (hL : CasesSz L) : Ultk (fun k => S75 k (L, ())) (chkCases L) := by
  unfold S75
  have hlen := cases_len hL
  cases hc : L with
  | nil => exact Ult.yes rfl Ult.ret
  | cons c0 L' =>
    rw [← hc]
    have hpos : 0 < L.length := by rw [hc]; simp
    have h0 : at? L 0 = some L[0] := at?_nat (i := 0) hpos
    have e0 : chkCases L = chkCs (L[0]).2.1 [] L := by subst hc; rfl
    refine Ult.no (by rw [ieq_eq]; show decide (((L.length : Nat) : Int) = 0) = false; exact decide_eq_false (by omega)) ?_
    rw [e0]
    refine (Ult.forI (fun _ => Nat.le_refl _) L.length (fun j => chkCs (L[0]).2.1 (L.take j) (L.drop j)) fun j hj next => ?_).eq (by rw [List.drop_zero, List.take_zero])
    dsimp only
    rw [iltL]
    by_cases hlt' : ¬ j < L.length
    · refine Ult.no (decide_eq_false hlt') (Ult.ret.eq ?_)
      rw [List.drop_eq_nil_of_le (by omega)]; rfl
    have hlt : j < L.length := Decidable.not_not.1 hlt'
    refine Ult.yes (decide_eq_true hlt) (Ult.bindc (at?_nat hlt) ?_)
    obtain ⟨s1, s2⟩ := hL.2 _ (List.getElem_mem hlt)
    rw [drop_cons hlt, chkCs, ← List.take_succ_eq_append_getElem hlt, isucc hlt hlen]
    refine Ult.bind (Ult.call (f := fun k => S122 k (L[j].1, ())) (lp_le _ _ fun _ => Nat.le_refl _) (chkTxt_prog L[j].1 (by omega))) (Ult.ifS (ine_eq _ _) (fun _ => Ult.ret) fun _ => ?_)
    refine Ult.bindc (cut?_take (by omega)) ?_
    have ha := cases_any (l := lp fun k => k) (kk := fun p => p.1) (lp_le _ _ fun _ => Nat.le_refl _) (L.take j) (fun p a => S124 p.1 (a, L[j], ())) (fun q => decide (q.1 = L[j].1)) (fun a _ => Ult.ret.eq (seq_eq _ _)) (by rw [List.length_take]; omega)
    refine Ult.bind ha (Ult.ifS (dec_true _) (fun _ => Ult.ret) fun _ => ?_)
    refine Ult.ifS (ieq_eq _ _) (fun _ => Ult.ret) fun h4 => ?_
    refine Ult.bind (Ult.call (f := fun k => S1040 k (L[j].2, ())) (lp_le _ _ fun _ => Nat.le_refl _) (chk0_prog L[j].2 s2 h4)) (Ult.ifS (ine_eq _ _) (fun _ => Ult.ret) fun _ => ?_)
    refine Ult.bindc h0 (Ult.ifS (ine_eq _ _) (fun _ => Ult.ret) fun _ => next hlt)
/-! ### values with cases -/
def chk1 (v : V1) : Int := chkVal v.1 v.2.1 v.2.2.1 v.2.2.2.1 (len v.2.2.2.2) (chkCases v.2.2.2.2)
theorem chk1_prog (v : V1) (h : V1Sz v) : Ultk (fun k => S40 k (v, ())) (chk1 v) := by
  unfold S40
  refine chkVal_prog v.1 v.2.1 v.2.2.1 v.2.2.2.1 (len v.2.2.2.2) _ (fun k => bnd (S75 k (v.2.2.2.2, ())) fun a => some a) h.1 h.2.1 fun _ => ?_
  exact Ult.bind (chkCases_prog _ h.2.2) Ult.ret
/-- what a right value is: only a choice has cases, and theirs have none -/
theorem chkVal_zero {kd : Int} {tx : ByteArray} {nm : Int} {ls : List ByteArray} {n r : Int} (h : chkVal kd tx nm ls n r = 0) : badV kd tx nm ls n = false ∧ bigV tx ls n = false ∧ (kd = 4 → r = 0) := by
  unfold chkVal at h
  split at h
  · cases h
  split at h
  · cases h
  rename_i h1
  split at h
  · cases h
  rename_i h2
  refine ⟨by simpa using h1, by simpa using h2, fun hk => ?_⟩
  split at h
  · cases h
  split at h
  · cases h
  first | exact h | (rw [if_pos hk] at h; exact h)
theorem chk0_zero {v : V0} (h : chk0 v = 0) (hk : v.1 ≠ 4) : v.2.2.2.2 = 0 := by
  obtain ⟨h1, _, _⟩ := chkVal_zero h
  unfold badV at h1
  simp only [Bool.or_eq_false_iff, Bool.and_eq_false_iff] at h1
  rcases h1.2.2.2 with q | q
  · have q : ¬ (0 : Int) < ((v.2.2.2.2 : Nat) : Int) := by rw [igt_eq] at q; exact of_decide_eq_false q
    have : (v.2.2.2.2 : Nat) = 0 := by omega
    exact this
  · rw [ine_eq] at q
    simp only [decide_eq_false_iff_not] at q
    exact absurd (Decidable.not_not.1 q) hk
theorem chk1_zero {v : V1} (h : chk1 v = 0) : (v.1 ≠ 4 → v.2.2.2.2 = []) ∧ (v.1 = 4 → chkCases v.2.2.2.2 = 0) ∧ v.2.2.2.2.length ≤ 50 := by
  obtain ⟨h1, h2, h3⟩ := chkVal_zero h
  refine ⟨fun hk => ?_, h3, ?_⟩
  · unfold badV at h1
    simp only [Bool.or_eq_false_iff, Bool.and_eq_false_iff] at h1
    rcases h1.2.2.2 with q | q
    · have q : ¬ (0 : Int) < ((v.2.2.2.2.length : Nat) : Int) := by rw [igt_eq] at q; exact of_decide_eq_false q
      exact List.eq_nil_of_length_eq_zero (by omega)
    · rw [ine_eq] at q
      simp only [decide_eq_false_iff_not] at q
      exact absurd (Decidable.not_not.1 q) hk
  · unfold bigV at h2
    simp only [Bool.or_eq_false_iff] at h2
    have q := h2.2.2.2
    have q : ¬ (50 : Int) < ((v.2.2.2.2.length : Nat) : Int) := by rw [igt_eq] at q; exact of_decide_eq_false q
    omega
theorem chkCs_zero {k0 : Int} : ∀ {r pre : List Case}, chkCs k0 pre r = 0 → ∀ c ∈ r, c.2.1 ≠ 4 ∧ chk0 c.2 = 0
  | [], _, _, c, hc => by cases hc
  | a :: r, pre, h, c, hc => by
    rw [chkCs] at h
    split at h
    · rename_i q; exact absurd h q
    split at h
    · cases h
    split at h
    · cases h
    rename_i q4
    split at h
    · rename_i q; exact absurd h q
    rename_i q0
    split at h
    · cases h
    rcases List.mem_cons.1 hc with rfl | hc
    · exact ⟨q4, Decidable.not_not.1 q0⟩
    · exact chkCs_zero h c hc
theorem chkCases_zero {L : List Case} (h : chkCases L = 0) : L ≠ [] ∧ ∀ c ∈ L, c.2.1 ≠ 4 ∧ c.2.2.2.2.2 = 0 := by
  cases L with
  | nil => cases h
  | cons a r =>
    refine ⟨by simp, fun c hc => ?_⟩
    obtain ⟨h1, h2⟩ := chkCs_zero h c hc
    exact ⟨h1, chk0_zero h2 h1⟩
end Go.Proofs.YtonfimidgbppeaaGreatDoor.Ev

namespace Go.Proofs.YtonfimidgbppeaaGreatDoor.Ev
open Go Go.RowKit
set_option linter.unusedVariables false
set_option linter.unusedSimpArgs false
variable {ι R α X : Type} {l : ι → Nat}
abbrev zCond : Condition := (⟨#[]⟩, [], [])
def condOf (M : List Condition) (n : ByteArray) : Option Condition := M.find? fun x => decide (x.1 = n)
def condAns (M : List Condition) (n : ByteArray) : Condition × Bool := match condOf M n with
  | some m => (m, true)
  | none => (zCond, false)
theorem condOf_prog (M : List Condition) (n : ByteArray) (hM : M.length ≤ 9223372036854775807) : Ultk (fun k => S56 k (M, n, ())) (condAns M n) := by
  unfold S56
  have hi : Ultk (fun k => S99 k (M, fun a2 => S100 k (a2, n, ()), ())) (idxF (fun x : Condition => decide (x.1 = n)) 0 M) := by
    unfold S99
    exact idx_loop (l := fun k : Nat => k) (fun _ => Nat.le_refl _) M (fun k a => S100 k (a, n, ())) _ (fun a _ => Ult.ret.eq (seq_eq _ _)) hM
  refine Ult.bind hi ?_
  unfold condAns condOf
  cases hf : M.find? (fun x : Condition => decide (x.1 = n)) with
  | none => exact Ult.yes (by rw [ilt_eq]; exact decide_eq_true (idxF_neg.2 hf)) Ult.ret
  | some m =>
    obtain ⟨h1, h2⟩ := idxF_at hf
    exact Ult.no (by rw [ilt_eq]; exact decide_eq_false (by omega)) (Ult.bindc h1 Ult.ret)
/-! ### the names of conditions in a value -/
def okName (M : List Condition) (c : Case) : Bool := (condOf M c.1).isSome || decide (c.1 = dflt)
def chkNames (M : List Condition) (C : List Case) : Int := if C.all (okName M) = true then 0 else 5
theorem names_loop {kk : ι → Nat} (hk : ∀ i, l i ≤ kk i) (M : List Condition) (C : List Case) (f : ι → ByteArray → Option (Condition × Bool)) (hf : ∀ n, Ult l (fun i => f i n) (condAns M n)) (hC : C.length ≤ 9223372036854775807) :
    Ult l (fun i => loopN (kk i) (fun (a2 : Int → Option Int) (a3 : Int) => cnd (ilt a3 (len C)) (bnd (at? C a3) fun a4 => bnd (f i a4.1) fun a5 => cnd (bnot a5.2) (cnd (sne a4.1 (⟨#[100, 101, 102, 97, 117, 108, 116]⟩ : ByteArray)) (some 5) (a2 (iadd .i64 a3 1))) (a2 (iadd .i64 a3 1))) (some 0)) 0) (chkNames M C) := by
  refine (Ult.forI hk C.length (fun j => chkNames M (C.drop j)) fun j hj next => ?_).eq (by rw [List.drop_zero])
  rw [iltL]
  by_cases hlt' : ¬ j < C.length
  · refine Ult.no (decide_eq_false hlt') (Ult.ret.eq ?_)
    rw [List.drop_eq_nil_of_le (by omega)]; rfl
  have hlt : j < C.length := Decidable.not_not.1 hlt'
  refine Ult.yes (decide_eq_true hlt) (Ult.bindc (at?_nat hlt) (Ult.bind (hf C[j].1).lift ?_))
  have nx := next hlt
  rw [isucc hlt hC]
  have e : chkNames M (C.drop j) = if okName M C[j] = true then chkNames M (C.drop (j + 1)) else 5 := by
    unfold chkNames
    rw [drop_cons hlt, List.all_cons]
    cases okName M C[j] <;> rfl
  rw [e]
  unfold condAns okName
  cases hc : condOf M C[j].1 with
  | some m => exact Ult.no rfl nx
  | none =>
    refine Ult.yes rfl ?_
    by_cases hd : C[j].1 = dflt
    · refine Ult.no (by rw [sne_eq]; exact decide_eq_false (fun q => q hd)) ?_
      rw [decide_eq_true hd]; exact nx
    · refine Ult.yes (by rw [sne_eq]; exact decide_eq_true hd) ?_
      rw [decide_eq_false hd]; exact Ult.ret
theorem names_prog (M : List Condition) (v : V1) (hM : M.length ≤ 9223372036854775807) (hC : v.2.2.2.2.length ≤ 9223372036854775807) : Ultk (fun k => S55 k (M, v, ())) (chkNames M v.2.2.2.2) := by
  unfold S55
  exact names_loop (l := fun k : Nat => k) (fun _ => Nat.le_refl _) M v.2.2.2.2 (fun k n => S56 k (M, n, ())) (fun n => condOf_prog M n hM) hC
/-! ### which condition is more special -/
def isM (a b : Condition) : Bool := if fitP b.2.1 a.2.1 = true then (if fitP b.2.2 a.2.2 = true then igt (iadd .i64 (len a.2.1) (len a.2.2)) (iadd .i64 (len b.2.1) (len b.2.2)) else false) else false
theorem isM_prog (a b : Condition) (a1 : PairSz a.2.1) (a2 : PairSz a.2.2) (b1 : PairSz b.2.1) (b2 : PairSz b.2.2) : Ultk (fun k => S81 k (a, b, ())) (isM a b) := by
  have := a1.len; have := a2.len; have := b1.len; have := b2.len
  unfold S81 isM
  refine Ult.bind (S126_spec b.2.1 a.2.1 (by omega) (by omega)) (Ult.ifS (dec_true _) (fun _ => ?_) fun _ => Ult.ret)
  exact Ult.bind (S126_spec b.2.2 a.2.2 (by omega) (by omega)) (Ult.ifS (dec_true _) (fun _ => Ult.ret) fun _ => Ult.ret)
/-! ### equal values -/
theorem strs_eq (A B : List ByteArray) (hA : A.length ≤ 9223372036854775807) : Ultk (fun k => S25 k (A, B, ())) (decide (A = B)) := by
  unfold S25
  by_cases hl : A.length = B.length
  · refine Ult.no (by rw [ine_eq]; exact decide_eq_false (fun q => q (by show ((A.length : Nat) : Int) = (B.length : Nat); rw [hl]))) ?_
    refine (Ult.forI (fun _ => Nat.le_refl _) A.length (fun j => decide (A.drop j = B.drop j)) fun j hj next => ?_).eq (by rw [List.drop_zero, List.drop_zero])
    dsimp only
    rw [iltL]
    by_cases hlt' : ¬ j < A.length
    · refine Ult.no (decide_eq_false hlt') (Ult.ret.eq ?_)
      rw [List.drop_eq_nil_of_le (by omega), List.drop_eq_nil_of_le (by omega)]; rfl
    have hlt : j < A.length := Decidable.not_not.1 hlt'
    have hltB : j < B.length := by omega
    refine Ult.yes (decide_eq_true hlt) (Ult.bindc (at?_nat hlt) (Ult.bindc (at?_nat hltB) ?_))
    have e : decide (A.drop j = B.drop j) = (decide (A[j] = B[j]) && decide (A.drop (j + 1) = B.drop (j + 1))) := by
      have e1 := drop_cons hlt
      have e2 := drop_cons hltB
      rw [e1, e2]
      by_cases h1 : A[j] = B[j]
      · rw [decide_eq_true h1, Bool.true_and]
        exact decide_eq_decide.2 ⟨fun q => (List.cons.inj q).2, fun q => by rw [h1, q]⟩
      · rw [decide_eq_false h1, Bool.false_and]
        exact decide_eq_false fun q => h1 (List.cons.inj q).1
    rw [e, isucc hlt hA]
    by_cases he : A[j] = B[j]
    · refine Ult.no (by rw [sne_eq]; exact decide_eq_false (fun q => q he)) ((next hlt).eq ?_)
      rw [decide_eq_true he, Bool.true_and]
    · refine Ult.yes (by rw [sne_eq]; exact decide_eq_true he) (Ult.ret.eq ?_)
      rw [decide_eq_false he, Bool.false_and]
  · refine Ult.yes (by rw [ine_eq]; exact decide_eq_true (fun q => hl (Int.ofNat.inj q))) (Ult.ret.eq ?_)
    exact (decide_eq_false (fun q => hl (by rw [q]))).symm
theorem noCases {kk : ι → Nat} (hk : ∀ i, l i ≤ kk i) (n : Nat) (hn : n = 0) {r : R} : Ult l (fun i => loopN (kk i) (fun (a2 : Int → Option R) (a3 : Int) => cnd (ilt a3 (olen n)) none (some r)) 0) r := by
  subst hn
  refine Ult.forI hk 0 (fun _ => r) fun j hj next => ?_
  obtain rfl : j = 0 := by omega
  exact Ult.no rfl Ult.ret
def eqV0 (a b : V0) : Bool := decide (a.1 = b.1 ∧ a.2.1 = b.2.1 ∧ a.2.2.1 = b.2.2.1 ∧ a.2.2.2.1 = b.2.2.2.1 ∧ a.2.2.2.2 = b.2.2.2.2)
theorem eqV0_iff {a b : V0} : eqV0 a b = true ↔ a = b := by
  obtain ⟨a1, a2, a3, a4, a5⟩ := a
  obtain ⟨b1, b2, b3, b4, b5⟩ := b
  unfold eqV0
  simp
theorem eqV0_comm (a b : V0) : eqV0 a b = eqV0 b a := by
  cases h : eqV0 a b with
  | true => rw [eqV0_iff.1 h]; exact (eqV0_iff.2 rfl).symm
  | false =>
    cases h' : eqV0 b a with
    | false => rfl
    | true => rw [eqV0_iff.1 h', eqV0_iff.2 rfl] at h; cases h
theorem eq_prog (a b : V0) (hl : a.2.2.2.1.length ≤ 9223372036854775807) (ha : a.2.2.2.2 = 0) : Ultk (fun k => S1080 k (a, b, ())) (eqV0 a b) := by
  unfold S1080 eqV0
  by_cases h1 : a.1 = b.1
  case neg => exact Ult.no (by rw [ieq_eq]; exact decide_eq_false h1) (Ult.ret.eq (decide_eq_false fun q => h1 q.1).symm)
  refine Ult.yes (by rw [ieq_eq]; exact decide_eq_true h1) ?_
  by_cases h2 : a.2.1 = b.2.1
  case neg => exact Ult.no (by rw [seq_eq]; exact decide_eq_false h2) (Ult.ret.eq (decide_eq_false fun q => h2 q.2.1).symm)
  refine Ult.yes (by rw [seq_eq]; exact decide_eq_true h2) ?_
  by_cases h3 : a.2.2.1 = b.2.2.1
  case neg => exact Ult.no (by rw [ieq_eq]; exact decide_eq_false h3) (Ult.ret.eq (decide_eq_false fun q => h3 q.2.2.1).symm)
  refine Ult.yes (by rw [ieq_eq]; exact decide_eq_true h3) (Ult.bind (strs_eq a.2.2.2.1 b.2.2.2.1 hl) ?_)
  by_cases h4 : a.2.2.2.1 = b.2.2.2.1
  case neg => exact Ult.no (decide_eq_false h4) (Ult.ret.eq (decide_eq_false fun q => h4 q.2.2.2.1).symm)
  refine Ult.yes (decide_eq_true h4) (Ult.bind (a := decide (a.2.2.2.2 = b.2.2.2.2)) ?_ (Ult.ret.eq ?_))
  · unfold S1127
    by_cases h5 : a.2.2.2.2 = b.2.2.2.2
    · refine Ult.no (c := ine (olen a.2.2.2.2) (olen b.2.2.2.2)) (by rw [ine_eq]; exact decide_eq_false (fun q => q (by show olen a.2.2.2.2 = olen b.2.2.2.2; rw [h5]))) ?_
      rw [decide_eq_true h5]
      exact noCases (l := fun k : Nat => k) (fun _ => Nat.le_refl _) a.2.2.2.2 ha
    · refine Ult.yes (c := ine (olen a.2.2.2.2) (olen b.2.2.2.2)) (by rw [ine_eq]; exact decide_eq_true (fun q => h5 (Int.ofNat.inj q))) (Ult.ret.eq (decide_eq_false h5).symm)
  · exact decide_eq_decide.2 ⟨fun q => ⟨h1, h2, h3, h4, q⟩, fun q => q.2.2.2.2⟩
theorem eq_ref (a b : V0) (hl : a.2.2.2.1.length ≤ 9223372036854775807) (ha : a.2.2.2.2 = 0) : Ultk (fun k => S1013 k (a, b, ())) (eqV0 a b) := by
  unfold S1013 eqV0
  refine Ult.jn ?_
  by_cases h1 : a.1 = b.1
  case neg => exact Ult.yes (by rw [ine_eq]; exact decide_eq_true h1) (Ult.yes rfl (Ult.ret.eq (decide_eq_false fun q => h1 q.1).symm))
  refine Ult.no (by rw [ine_eq]; exact decide_eq_false (fun q => q h1)) ?_
  by_cases h2 : a.2.1 = b.2.1
  case neg => exact Ult.yes (by rw [sne_eq]; exact decide_eq_true h2) (Ult.yes rfl (Ult.ret.eq (decide_eq_false fun q => h2 q.2.1).symm))
  refine Ult.no (by rw [sne_eq]; exact decide_eq_false (fun q => q h2)) ?_
  by_cases h3 : a.2.2.1 = b.2.2.1
  case neg => exact Ult.yes (by rw [ine_eq]; exact decide_eq_true h3) (Ult.yes rfl (Ult.ret.eq (decide_eq_false fun q => h3 q.2.2.1).symm))
  refine Ult.no (by rw [ine_eq]; exact decide_eq_false (fun q => q h3)) (Ult.bind (strs_eq a.2.2.2.1 b.2.2.2.1 hl) ?_)
  by_cases h4 : a.2.2.2.1 = b.2.2.2.1
  case neg => exact Ult.yes (by rw [decide_eq_false h4]; rfl) (Ult.yes rfl (Ult.ret.eq (decide_eq_false fun q => h4 q.2.2.2.1).symm))
  refine Ult.no (by rw [decide_eq_true h4]; rfl) ?_
  by_cases h5 : a.2.2.2.2 = b.2.2.2.2
  · refine Ult.no (c := ine (olen a.2.2.2.2) (olen b.2.2.2.2)) (by rw [ine_eq]; exact decide_eq_false (fun q => q (by show olen a.2.2.2.2 = olen b.2.2.2.2; rw [h5]))) ?_
    rw [decide_eq_true ⟨h1, h2, h3, h4, h5⟩]
    exact noCases (l := fun k : Nat => k) (fun _ => Nat.le_refl _) a.2.2.2.2 ha
  · refine Ult.yes (c := ine (olen a.2.2.2.2) (olen b.2.2.2.2)) (by rw [ine_eq]; exact decide_eq_true (fun q => h5 (Int.ofNat.inj q))) (Ult.ret.eq (decide_eq_false fun q => h5 q.2.2.2.2).symm)
/-! ### copies -/
def upv (v : V0) : V1 := (v.1, v.2.1, v.2.2.1, v.2.2.2.1, [])
theorem own_spec (v : V0) (hs : StrsSz v.2.2.2.1) (h0 : v.2.2.2.2 = 0) : Ultk (fun k => S1076 k (v, ())) (upv v) := by
  have hr : Ultk (fun k => R1076 k (v, ())) v := by
    obtain ⟨a, b, c, d, n⟩ := v
    have h0 : n = 0 := h0
    subst h0
    unfold R1076
    refine Ult.bind (S38_spec d (by have h16 : d.length * 16 ≤ 140737488351232 := hs.1; omega)) (Ult.bindc (a := (0 : Nat)) rfl ?_)
    exact noCases (l := fun k : Nat => k) (fun _ => Nat.le_refl _) 0 rfl
  obtain ⟨K, hK⟩ := hr
  refine ⟨K, fun i hi => ?_⟩
  show upF (R1076 i (v, ())) = _
  have := hK i hi
  rw [show R1076 i (v, ()) = some v from this]
  show upV v = some (upv v)
  unfold upV
  rw [show (v.2.2.2.2 : Nat) = 0 from h0]
  rfl
theorem same_self (v : V1) (h : V1Sz v) (h0 : ∀ c ∈ v.2.2.2.2, c.2.2.2.2.2 = 0) : Ultk (fun k => S13 k (v, v, ())) true := by
  obtain ⟨a, b, c, d, L⟩ := v
  unfold S13
  have hlen : L.length ≤ 9223372036854775807 := cases_len h.2.2
  have hd : d.length ≤ 9223372036854775807 := by have : d.length * 16 ≤ 140737488351232 := h.2.1.1; omega
  refine Ult.jn ?_
  refine Ult.no (by rw [ine_eq]; simp) (Ult.no (by rw [sne_eq]; simp) (Ult.no (by rw [ine_eq]; simp) (Ult.bind (S25_self d hd) (Ult.no rfl (Ult.no (by rw [ine_eq]; simp) ?_)))))
  refine Ult.forI (fun _ => Nat.le_refl _) L.length (fun _ => true) fun j hj next => ?_
  dsimp only
  rw [iltL]
  by_cases hlt' : ¬ j < L.length
  · exact Ult.no (decide_eq_false hlt') Ult.ret
  have hlt : j < L.length := Decidable.not_not.1 hlt'
  obtain ⟨s1, s2⟩ := h.2.2.2 _ (List.getElem_mem hlt)
  refine Ult.yes (decide_eq_true hlt) (Ult.bindc (at?_nat hlt) (Ult.bindc (at?_nat hlt) (Ult.no (by rw [sne_eq]; simp) (Ult.bindc (at?_nat hlt) (Ult.bindc (at?_nat hlt) ?_)))))
  have he := eq_ref L[j].2 L[j].2 (by have := s2.2.1; omega) (h0 _ (List.getElem_mem hlt))
  rw [eqV0_iff.2 rfl] at he
  refine Ult.bind (Ult.call (f := fun k => S1013 k (L[j].2, L[j].2, ())) (lp_le _ _ fun _ => Nat.le_refl _) he) (Ult.no rfl ?_)
  rw [isucc hlt hlen]
  exact next hlt
end Go.Proofs.YtonfimidgbppeaaGreatDoor.Ev

namespace Go.Proofs.YtonfimidgbppeaaGreatDoor.Ev
open Go Go.RowKit
set_option linter.unusedVariables false
set_option linter.unusedSimpArgs false
variable {ι R α X : Type} {l : ι → Nat}
abbrev zV0 : V0 := (0, ⟨#[]⟩, 0, [], 0)
abbrev zV1 : V1 := (0, ⟨#[]⟩, 0, [], [])
/-! ### facts of right conditions -/
theorem chkConds_all {L : List Setting} : ∀ {M : List Condition} {prev : Option ByteArray}, chkConds L prev M = 0 → ∀ m ∈ M, isCond m.1 = true ∧ chkSet L false none m.2.1 = 0
  | [], _, _, m, hm => by cases hm
  | a :: M, prev, h, m, hm => by
    rw [chkConds] at h
    split at h
    · cases h
    rename_i h1
    split at h
    · cases h
    split at h
    · cases h
    split at h
    · rename_i q; exact absurd h q
    rename_i h2
    split at h
    · rename_i q; exact absurd h q
    split at h
    · cases h
    rcases List.mem_cons.1 hm with rfl | hm
    · exact ⟨by simpa using h1, Decidable.not_not.1 h2⟩
    · exact chkConds_all h m hm
structure CondsOk (L : List Setting) (M : List Condition) : Prop where
  set : chkSettings L = 0
  each : ∀ m ∈ M, m.1 ≠ dflt ∧ chkSet L false none m.2.1 = 0
theorem CondsOk.of {L : List Setting} {M : List Condition} (h : chkConditions L M = 0) : CondsOk L M := by
  unfold chkConditions at h
  split at h
  · rename_i q; exact absurd h q
  rename_i h1
  split at h
  · cases h
  refine ⟨Decidable.not_not.1 h1, fun m hm => ?_⟩
  obtain ⟨q1, q2⟩ := chkConds_all h m hm
  refine ⟨?_, q2⟩
  unfold isCond at q1
  simp only [Bool.and_eq_true, decide_eq_true_eq] at q1
  exact q1.2.2
theorem CondsOk.vals {L : List Setting} {M : List Condition} (h : CondsOk L M) {C : List Pair} {m : Condition} (hm : m ∈ M) : ∀ n ∈ m.2.1, ∃ v, valOf L C n.1 = some v := fun n hn => by
  obtain ⟨s, hs, _⟩ := (chkSet_ok (h.each m hm).2).1 n hn
  exact valOf_some h.set hs
theorem condOf_mem {M : List Condition} {n : ByteArray} {m : Condition} (h : condOf M n = some m) : m ∈ M ∧ m.1 = n := by
  unfold condOf at h
  exact ⟨List.mem_of_find?_eq_some h, by simpa using List.find?_some h⟩
/-! ### what holds -/
def holdC (x : CWorld) (C : List Pair) (p : Platform) (c : Case) : Option Condition := match condOf x.2.1 c.1 with
  | some m => if holdsB x.1 m C p = true then some m else none
  | none => none
def held (x : CWorld) (C : List Pair) (p : Platform) (L : List Case) : List (Case × Condition) := L.filterMap fun c => (holdC x C p c).map fun m => (c, m)
def bestL (i : Nat) (a : Condition) : Nat → List Condition → Bool
  | _, [] => true
  | k, b :: r => (decide (k = i) || isM a b) && bestL i a (k + 1) r
def CondsSz (W : List Condition) : Prop := W.length ≤ 1000 ∧ ∀ m ∈ W, PairSz m.2.1 ∧ PairSz m.2.2
theorem best_prog {kk : ι → Nat} (hk : ∀ i, l i ≤ kk i) (W : List Condition) (n : Int) (hn : n = len W) (i : Nat) (hi : i < W.length) (f : ι → Condition → Condition → Option Bool) (hf : ∀ a ∈ W, ∀ b ∈ W, Ult l (fun j => f j a b) (isM a b)) (hW : W.length ≤ 1000) {r1 r2 : R} {y z : ι → Option R} (hy : Ult l y r1) (hz : Ult l z r2) :
    Ult l (fun q => loopN (kk q) (fun (a8 : Bool × Int → Option R) (a9 : Bool × Int) => cnd (ilt a9.2 n) (cnd a9.1 (cnd (ieq a9.2 (i : Int)) (a8 (true, iadd .i64 a9.2 1)) (bnd (at? W (i : Int)) fun a10 => bnd (at? W a9.2) fun a11 => bnd (f q a10 a11) fun a12 => a8 (a12, iadd .i64 a9.2 1))) (a8 (false, iadd .i64 a9.2 1))) (cnd a9.1 (y q) (z q))) (true, 0)) (if bestL i W[i] 0 W = true then r1 else r2) := by
  subst hn
  refine (Ult.forA (A := Bool) hk W.length (fun a j => (a, (j : Int))) (fun _ _ => True) (fun a j => if (a && bestL i W[i] j (W.drop j)) = true then r1 else r2) true trivial fun a j hj _ next => ?_).eq (by rw [List.drop_zero, Bool.true_and])
  dsimp only
  rw [iltL]
  by_cases hlt' : ¬ j < W.length
  · refine Ult.no (decide_eq_false hlt') ?_
    rw [List.drop_eq_nil_of_le (by omega)]
    cases a with
    | true => exact Ult.yes rfl (hy.lift.eq rfl)
    | false => exact Ult.no rfl (hz.lift.eq rfl)
  have hlt : j < W.length := Decidable.not_not.1 hlt'
  refine Ult.yes (decide_eq_true hlt) ?_
  rw [drop_cons hlt, bestL, isucc hlt (by omega)]
  cases a with
  | false => exact Ult.no rfl ((next false hlt trivial).eq rfl)
  | true =>
    refine Ult.yes rfl ?_
    rw [Bool.true_and]
    by_cases hji : j = i
    · refine Ult.yes (by rw [ieq_eq]; exact decide_eq_true (by omega)) ((next true hlt trivial).eq ?_)
      rw [decide_eq_true hji, Bool.true_or, Bool.true_and]
    · refine Ult.no (by rw [ieq_eq]; exact decide_eq_false (by omega)) (Ult.bindc (at?_nat hi) (Ult.bindc (at?_nat hlt) (Ult.bind (hf _ (List.getElem_mem hi) _ (List.getElem_mem hlt)).lift ((next _ hlt trivial).eq ?_))))
      rw [decide_eq_false hji, Bool.false_or]
theorem best_ref {kk : ι → Nat} (hk : ∀ i, l i ≤ kk i) (W : List Condition) (i : Nat) (hi : i < W.length) (f : ι → Condition → Condition → Option Bool) (hf : ∀ a ∈ W, ∀ b ∈ W, Ult l (fun j => f j a b) (isM a b)) (hW : W.length ≤ 1000) {r1 r2 : R} {y z : ι → Option R} (hy : Ult l y r1) (hz : Ult l z r2) :
    Ult l (fun q => loopN (kk q) (fun (a9 : Bool × Int → Option R) (a10 : Bool × Int) => cnd (ilt a10.2 (len W)) (bnd (at? W a10.2) fun a11 => cnd a10.1 (cnd (ieq (i : Int) a10.2) (a9 (true, iadd .i64 a10.2 1)) (bnd (at? W (i : Int)) fun a12 => bnd (f q a12 a11) fun a13 => a9 (a13, iadd .i64 a10.2 1))) (a9 (false, iadd .i64 a10.2 1))) (cnd a10.1 (y q) (z q))) (true, 0)) (if bestL i W[i] 0 W = true then r1 else r2) := by
  refine (Ult.forA (A := Bool) hk W.length (fun a j => (a, (j : Int))) (fun _ _ => True) (fun a j => if (a && bestL i W[i] j (W.drop j)) = true then r1 else r2) true trivial fun a j hj _ next => ?_).eq (by rw [List.drop_zero, Bool.true_and])
  dsimp only
  rw [iltL]
  by_cases hlt' : ¬ j < W.length
  · refine Ult.no (decide_eq_false hlt') ?_
    rw [List.drop_eq_nil_of_le (by omega)]
    cases a with
    | true => exact Ult.yes rfl (hy.lift.eq rfl)
    | false => exact Ult.no rfl (hz.lift.eq rfl)
  have hlt : j < W.length := Decidable.not_not.1 hlt'
  refine Ult.yes (decide_eq_true hlt) (Ult.bindc (at?_nat hlt) ?_)
  rw [drop_cons hlt, bestL, isucc hlt (by omega)]
  cases a with
  | false => exact Ult.no rfl ((next false hlt trivial).eq rfl)
  | true =>
    refine Ult.yes rfl ?_
    rw [Bool.true_and]
    by_cases hji : j = i
    · refine Ult.yes (by rw [ieq_eq]; exact decide_eq_true (by omega)) ((next true hlt trivial).eq ?_)
      rw [decide_eq_true hji, Bool.true_or, Bool.true_and]
    · refine Ult.no (by rw [ieq_eq]; exact decide_eq_false (by omega)) (Ult.bindc (at?_nat hi) (Ult.bind (hf _ (List.getElem_mem hi) _ (List.getElem_mem hlt)).lift ((next _ hlt trivial).eq ?_)))
      rw [decide_eq_false hji, Bool.false_or]
end Go.Proofs.YtonfimidgbppeaaGreatDoor.Ev

namespace Go.Proofs.YtonfimidgbppeaaGreatDoor.Ev
open Go Go.RowKit
set_option linter.unusedVariables false
set_option linter.unusedSimpArgs false
variable {ι R α X : Type} {l : ι → Nat}
def pickA (W : List Condition) (v0 : V0) : Bool → Nat → List (Case × Condition) → V0 × Int
  | same, _, [] => if same = true then (v0, 0) else (zV0, 12)
  | same, j, s :: r => if bestL j s.2 0 W = true then (s.1.2, 0) else pickA W v0 (same && eqV0 v0 s.1.2) (j + 1) r
def upA (a : V0 × Int) : V1 × Int := (upv a.1, a.2)
theorem atF {S : List (Case × Condition)} {j : Nat} (h : j < S.length) : at? (S.map (·.1)) (j : Int) = some S[j].1 := by
  rw [at?_nat (by simpa using h)]; simp
theorem second_prog {kk : ι → Nat} (hk : ∀ i, l i ≤ kk i) (S : List (Case × Condition)) (hS : 0 < S.length) (h50 : S.length ≤ 50) (eqf : ι → V0 → V0 → Option Bool) (own : ι → V0 → Option V1) (more : ι → Condition → Condition → Option Bool)
    (heq : ∀ s ∈ S, ∀ t ∈ S, Ult l (fun q => eqf q s.1.2 t.1.2) (eqV0 s.1.2 t.1.2)) (hown : ∀ s ∈ S, Ult l (fun q => own q s.1.2) (upv s.1.2)) (hmore : ∀ a ∈ S.map (·.2), ∀ b ∈ S.map (·.2), Ult l (fun q => more q a b) (isM a b)) (jk : V1) :
    Ult l (fun q => loopN (kk q) (fun (a5 : Bool × Int × V1 → Option (V1 × Int)) (a6 : Bool × Int × V1) => cnd (ilt a6.2.1 (len (S.map (·.1)))) (jn (fun (a7 : Bool → Option (V1 × Int)) => cnd a6.1 (bnd (at? (S.map (·.1)) 0) fun a8 => bnd (at? (S.map (·.1)) a6.2.1) fun a9 => bnd (eqf q a8.2 a9.2) fun a10 => a7 a10) (a7 false)) (fun (a7 : Bool) =>
      loopN (kk q) (fun (a8 : Bool × Int → Option (V1 × Int)) (a9 : Bool × Int) => cnd (ilt a9.2 (len (S.map (·.1)))) (cnd a9.1 (cnd (ieq a9.2 a6.2.1) (a8 (true, iadd .i64 a9.2 1)) (bnd (at? (S.map (·.2)) a6.2.1) fun a10 => bnd (at? (S.map (·.2)) a9.2) fun a11 => bnd (more q a10 a11) fun a12 => a8 (a12, iadd .i64 a9.2 1))) (a8 (false, iadd .i64 a9.2 1))) (cnd a9.1 (bnd (at? (S.map (·.1)) a6.2.1) fun a10 => bnd (own q a10.2) fun a11 => some (a11, 0)) (a5 (a7, iadd .i64 a6.2.1 1, a6.2.2)))) (true, 0)))
      (cnd a6.1 (bnd (at? (S.map (·.1)) 0) fun a7 => bnd (own q a7.2) fun a8 => some (a8, 0)) (some (zV1, 12)))) (true, 0, jk)) (upA (pickA (S.map (·.2)) S[0].1.2 true 0 S)) := by
  have hlW : (S.map (·.2)).length = S.length := by simp
  have h0 : at? (S.map (·.1)) 0 = some S[0].1 := atF (j := 0) hS
  refine (Ult.forA (A := Bool) hk S.length (fun a j => (a, (j : Int), jk)) (fun _ _ => True) (fun a j => upA (pickA (S.map (·.2)) S[0].1.2 a j (S.drop j))) true trivial fun a j hj _ next => ?_).eq (by rw [List.drop_zero])
  dsimp only
  have hlT : len (S.map (·.1)) = len S := by unfold len; rw [List.length_map]
  by_cases hlt' : ¬ j < S.length
  · refine Ult.no (by rw [hlT, iltL]; exact decide_eq_false hlt') ?_
    rw [List.drop_eq_nil_of_le (by omega), pickA]
    cases a with
    | true => exact Ult.yes rfl (Ult.bindc h0 (Ult.bind (hown _ (List.getElem_mem hS)).lift Ult.ret))
    | false => exact Ult.no rfl Ult.ret
  have hlt : j < S.length := Decidable.not_not.1 hlt'
  refine Ult.yes (by rw [hlT, iltL]; exact decide_eq_true hlt) (Ult.jn ?_)
  have hjW : j < (S.map (·.2)).length := by rw [hlW]; exact hlt
  have hWj : (S.map (·.2))[j] = S[j].2 := by simp
  rw [drop_cons hlt, pickA, isucc hlt (by omega)]
  have inner : ∀ z : ι × Nat → Option (V1 × Int), Ult (lp l) z (upA (pickA (S.map (·.2)) S[0].1.2 (a && eqV0 S[0].1.2 S[j].1.2) (j + 1) (S.drop (j + 1)))) → Ult (lp l) (fun p => loopN (kk p.1) (fun (a8 : Bool × Int → Option (V1 × Int)) (a9 : Bool × Int) => cnd (ilt a9.2 (len (S.map (·.1)))) (cnd a9.1 (cnd (ieq a9.2 (j : Int)) (a8 (true, iadd .i64 a9.2 1)) (bnd (at? (S.map (·.2)) (j : Int)) fun a10 => bnd (at? (S.map (·.2)) a9.2) fun a11 => bnd (more p.1 a10 a11) fun a12 => a8 (a12, iadd .i64 a9.2 1))) (a8 (false, iadd .i64 a9.2 1))) (cnd a9.1 (bnd (at? (S.map (·.1)) (j : Int)) fun a10 => bnd (own p.1 a10.2) fun a11 => some (a11, 0)) (z p))) (true, 0)) (upA (if bestL j S[j].2 0 (S.map (·.2)) = true then (S[j].1.2, 0) else pickA (S.map (·.2)) S[0].1.2 (a && eqV0 S[0].1.2 S[j].1.2) (j + 1) (S.drop (j + 1)))) := fun z nx => by
    have hy : Ult (lp l) (fun p => bnd (at? (S.map (·.1)) (j : Int)) fun a10 => bnd (own p.1 a10.2) fun a11 => some (a11, (0 : Int))) (upv S[j].1.2, (0 : Int)) := Ult.bindc (atF hlt) (Ult.bind (hown _ (List.getElem_mem hlt)).lift Ult.ret)
    have hi := best_prog (l := lp l) (kk := fun p => kk p.1) (lp_le l kk hk) (S.map (·.2)) (len (S.map (·.1))) (by unfold len; simp) j hjW (fun p a b => more p.1 a b) (fun x hx y hy => (hmore x hx y hy).lift) (by rw [hlW]; omega) hy nx
    refine hi.eq ?_
    rw [hWj]
    cases bestL j S[j].2 0 (S.map (·.2)) <;> rfl
  cases a with
  | false => exact Ult.no rfl (inner _ ((next false hlt trivial).eq rfl))
  | true =>
    refine Ult.yes rfl (Ult.bindc h0 (Ult.bindc (atF hlt) (Ult.bind (heq _ (List.getElem_mem hS) _ (List.getElem_mem hlt)).lift ?_)))
    exact inner _ ((next _ hlt trivial).eq rfl)
theorem second_ref {kk : ι → Nat} (hk : ∀ i, l i ≤ kk i) (S : List (Case × Condition)) (hS : 0 < S.length) (h50 : S.length ≤ 50) (eqf : ι → V0 → V0 → Option Bool) (more : ι → Condition → Condition → Option Bool)
    (heq : ∀ s ∈ S, ∀ t ∈ S, Ult l (fun q => eqf q s.1.2 t.1.2) (eqV0 s.1.2 t.1.2)) (hmore : ∀ a ∈ S.map (·.2), ∀ b ∈ S.map (·.2), Ult l (fun q => more q a b) (isM a b)) (jk : V0) :
    Ult l (fun q => loopN (kk q) (fun (a5 : Bool × Int × V0 → Option (V0 × Int)) (a6 : Bool × Int × V0) => cnd (ilt a6.2.1 (len (S.map (·.1)))) (bnd (at? (S.map (·.1)) a6.2.1) fun a7 => jn (fun (a8 : Bool → Option (V0 × Int)) => cnd a6.1 (bnd (at? (S.map (·.1)) 0) fun a9 => bnd (eqf q a7.2 a9.2) fun a10 => a8 a10) (a8 false)) (fun (a8 : Bool) =>
      loopN (kk q) (fun (a9 : Bool × Int → Option (V0 × Int)) (a10 : Bool × Int) => cnd (ilt a10.2 (len (S.map (·.2)))) (bnd (at? (S.map (·.2)) a10.2) fun a11 => cnd a10.1 (cnd (ieq a6.2.1 a10.2) (a9 (true, iadd .i64 a10.2 1)) (bnd (at? (S.map (·.2)) a6.2.1) fun a12 => bnd (more q a12 a11) fun a13 => a9 (a13, iadd .i64 a10.2 1))) (a9 (false, iadd .i64 a10.2 1))) (cnd a10.1 (some (a7.2, 0)) (a5 (a8, iadd .i64 a6.2.1 1, a6.2.2)))) (true, 0)))
      (cnd a6.1 (bnd (at? (S.map (·.1)) 0) fun a7 => some (a7.2, 0)) (some (zV0, 12)))) (true, 0, jk)) (pickA (S.map (·.2)) S[0].1.2 true 0 S) := by
  have hlW : (S.map (·.2)).length = S.length := by simp
  have h0 : at? (S.map (·.1)) 0 = some S[0].1 := atF (j := 0) hS
  refine (Ult.forA (A := Bool) hk S.length (fun a j => (a, (j : Int), jk)) (fun _ _ => True) (fun a j => pickA (S.map (·.2)) S[0].1.2 a j (S.drop j)) true trivial fun a j hj _ next => ?_).eq (by rw [List.drop_zero])
  dsimp only
  have hlT : len (S.map (·.1)) = len S := by unfold len; rw [List.length_map]
  by_cases hlt' : ¬ j < S.length
  · refine Ult.no (by rw [hlT, iltL]; exact decide_eq_false hlt') ?_
    rw [List.drop_eq_nil_of_le (by omega), pickA]
    cases a with
    | true => exact Ult.yes rfl (Ult.bindc h0 Ult.ret)
    | false => exact Ult.no rfl Ult.ret
  have hlt : j < S.length := Decidable.not_not.1 hlt'
  refine Ult.yes (by rw [hlT, iltL]; exact decide_eq_true hlt) (Ult.bindc (atF hlt) (Ult.jn ?_))
  have hjW : j < (S.map (·.2)).length := by rw [hlW]; exact hlt
  have hWj : (S.map (·.2))[j] = S[j].2 := by simp
  rw [drop_cons hlt, pickA, isucc hlt (by omega)]
  have inner : ∀ z : ι × Nat → Option (V0 × Int), Ult (lp l) z (pickA (S.map (·.2)) S[0].1.2 (a && eqV0 S[0].1.2 S[j].1.2) (j + 1) (S.drop (j + 1))) → Ult (lp l) (fun p => loopN (kk p.1) (fun (a9 : Bool × Int → Option (V0 × Int)) (a10 : Bool × Int) => cnd (ilt a10.2 (len (S.map (·.2)))) (bnd (at? (S.map (·.2)) a10.2) fun a11 => cnd a10.1 (cnd (ieq (j : Int) a10.2) (a9 (true, iadd .i64 a10.2 1)) (bnd (at? (S.map (·.2)) (j : Int)) fun a12 => bnd (more p.1 a12 a11) fun a13 => a9 (a13, iadd .i64 a10.2 1))) (a9 (false, iadd .i64 a10.2 1))) (cnd a10.1 (some (S[j].1.2, 0)) (z p))) (true, 0)) (if bestL j S[j].2 0 (S.map (·.2)) = true then (S[j].1.2, 0) else pickA (S.map (·.2)) S[0].1.2 (a && eqV0 S[0].1.2 S[j].1.2) (j + 1) (S.drop (j + 1))) := fun z nx => by
    have hi := best_ref (l := lp l) (kk := fun p => kk p.1) (lp_le l kk hk) (S.map (·.2)) j hjW (fun p a b => more p.1 a b) (fun x hx y hy => (hmore x hx y hy).lift) (by rw [hlW]; omega) (r1 := (S[j].1.2, (0 : Int))) (y := fun p => some (S[j].1.2, (0 : Int))) Ult.ret nx
    rw [hWj] at hi
    exact hi
  cases a with
  | false => exact Ult.no rfl (inner _ ((next false hlt trivial).eq rfl))
  | true =>
    have he := heq _ (List.getElem_mem hlt) _ (List.getElem_mem hS)
    rw [eqV0_comm] at he
    refine Ult.yes rfl (Ult.bindc h0 (Ult.bind he.lift ?_))
    exact inner _ ((next _ hlt trivial).eq rfl)
end Go.Proofs.YtonfimidgbppeaaGreatDoor.Ev

namespace Go.Proofs.YtonfimidgbppeaaGreatDoor.Ev
open Go Go.RowKit
set_option linter.unusedVariables false
set_option linter.unusedSimpArgs false
variable {ι R α X : Type} {l : ι → Nat}
/-! ### names of cases are told apart -/
theorem chkCs_apart {k0 : Int} : ∀ {r pre : List Case}, chkCs k0 pre r = 0 → (∀ c ∈ r, ∀ d ∈ pre, d.1 ≠ c.1) ∧ r.Pairwise fun a b => a.1 ≠ b.1
  | [], _, _ => ⟨fun c hc => (by cases hc), List.Pairwise.nil⟩
  | a :: r, pre, h => by
    rw [chkCs] at h
    split at h
    · rename_i q; exact absurd h q
    split at h
    · cases h
    rename_i q7
    split at h
    · cases h
    split at h
    · rename_i q; exact absurd h q
    split at h
    · cases h
    obtain ⟨h1, h2⟩ := chkCs_apart h
    refine ⟨fun c hc d hd => ?_, List.Pairwise.cons (fun c hc => h1 c hc a (by simp)) h2⟩
    rcases List.mem_cons.1 hc with rfl | hc
    · intro e
      exact q7 (List.any_eq_true.2 ⟨d, hd, decide_eq_true e⟩)
    · exact h1 c hc d (by simp [hd])
theorem chkCases_apart {L : List Case} (h : chkCases L = 0) : L.Pairwise fun a b => a.1 ≠ b.1 := by
  cases L with
  | nil => cases h
  | cons a r => exact (chkCs_apart h).2
theorem find_rev {n : ByteArray} : ∀ {L : List Case}, L.Pairwise (fun a b => a.1 ≠ b.1) → L.reverse.find? (fun c => decide (c.1 = n)) = L.find? fun c => decide (c.1 = n)
  | [], _ => rfl
  | a :: L, h => by
    obtain ⟨h1, h2⟩ := List.pairwise_cons.1 h
    rw [List.reverse_cons, List.find?_append, find_rev h2]
    by_cases e : a.1 = n
    · have : L.find? (fun c => decide (c.1 = n)) = none := List.find?_eq_none.2 fun c hc q => h1 c hc (by rw [e]; exact (of_decide_eq_true q).symm)
      rw [this, List.find?_cons, decide_eq_true e]; simp [e]
    · rw [List.find?_cons, decide_eq_false e]; simp [e]
def lastN (M : List Condition) (L : List Case) : Option Case := L.reverse.find? fun c => (condOf M c.1).isNone
theorem last_dflt {L : List Setting} {M : List Condition} {C : List Case} (hM : CondsOk L M) (hn : chkNames M C = 0) (hp : C.Pairwise fun a b => a.1 ≠ b.1) : lastN M C = C.find? fun c => decide (c.1 = dflt) := by
  rw [← find_rev hp]
  unfold lastN
  have hall : ∀ c ∈ C, okName M c = true := by
    unfold chkNames at hn
    split at hn
    · rename_i q; exact List.all_eq_true.1 q
    · cases hn
  have he : ∀ c ∈ C, (condOf M c.1).isNone = decide (c.1 = dflt) := fun c hc => by
    have h1 := hall c hc
    unfold okName at h1
    cases hco : condOf M c.1 with
    | none => rw [hco] at h1; simpa using h1.symm
    | some m =>
      obtain ⟨q1, q2⟩ := condOf_mem hco
      have := (hM.each m q1).1
      rw [q2] at this
      simp [this]
  have gen : ∀ D : List Case, (∀ c ∈ D, c ∈ C) → D.find? (fun c => (condOf M c.1).isNone) = D.find? fun c => decide (c.1 = dflt) := by
    intro D
    induction D with
    | nil => intro _; rfl
    | cons a D ih =>
      intro hD
      rw [List.find?_cons, List.find?_cons, he a (hD a (by simp)), ih fun c hc => hD c (by simp [hc])]
  exact gen _ fun c hc => List.mem_reverse.1 hc
/-! ### the answer -/
def firstA (x : CWorld) (C : List Pair) (p : Platform) (L : List Case) : V0 × Int := match held x C p L with
  | [] => match L.find? fun c => decide (c.1 = dflt) with
    | none => (zV0, 9)
    | some c => (c.2, 0)
  | s :: r => pickA ((s :: r).map (·.2)) s.1.2 true 0 (s :: r)
def v0of (v : V1) : V0 := (v.1, v.2.1, v.2.2.1, v.2.2.2.1, 0)
def chosenA (x : CWorld) (v : V1) (C : List Pair) (p : Platform) : V0 × Int := if v.1 ≠ 4 then (v0of v, 0) else if chkNames x.2.1 v.2.2.2.2 ≠ 0 then (zV0, chkNames x.2.1 v.2.2.2.2) else firstA x C p v.2.2.2.2
theorem held_step (x : CWorld) (C : List Pair) (p : Platform) {L : List Case} {j : Nat} (h : j < L.length) : held x C p (L.take (j + 1)) = held x C p (L.take j) ++ (match holdC x C p L[j] with
    | some m => [(L[j], m)]
    | none => []) := by
  unfold held
  rw [List.take_succ_eq_append_getElem h, List.filterMap_append]
  congr 1
  cases hc : holdC x C p L[j] <;> simp [hc]
theorem held_mem {x : CWorld} {C : List Pair} {p : Platform} {L : List Case} {s : Case × Condition} (h : s ∈ held x C p L) : s.1 ∈ L ∧ s.2 ∈ x.2.1 := by
  unfold held at h
  obtain ⟨c, hc, e⟩ := List.mem_filterMap.1 h
  unfold holdC at e
  cases hco : condOf x.2.1 c.1 with
  | none => rw [hco] at e; cases e
  | some m =>
    rw [hco] at e
    dsimp only at e
    split at e
    · cases e
      exact ⟨hc, (condOf_mem hco).1⟩
    · cases e
theorem held_len (x : CWorld) (C : List Pair) (p : Platform) (L : List Case) : (held x C p L).length ≤ L.length := List.length_filterMap_le _ _
structure ChIn (x : CWorld) (v : V1) (C : List Pair) (p : Platform) : Prop where
  wx : WorldSz x
  wv : V1Sz v
  wc : PairSz C
  wp : PairSz p.2
  conds : CondsOk x.1 x.2.1
  val : chk1 v = 0
theorem chosen_prog (x : CWorld) (v : V1) (C : List Pair) (p : Platform) (h : ChIn x v C p) : Ultk (fun k => S41 k (x, v, C, p, ())) (upA (chosenA x v C p)) := by
  obtain ⟨z1, z2, z3⟩ := chk1_zero h.val
  have hM : x.2.1.length ≤ 9223372036854775807 := by have := len_big h.wx.2.1.1 (by omega); omega
  have hC := h.wc.len
  have hLs : x.1.length ≤ 9223372036854775807 := by have := len_big h.wx.1.1 (by omega); omega
  unfold S41 chosenA
  by_cases hk : v.1 = 4
  case neg =>
    refine Ult.yes (by rw [ine_eq]; exact decide_eq_true hk) ?_
    rw [if_pos hk]
    have h0 : (lenN v.2.2.2.2 : Nat) = 0 := by rw [z1 hk]; rfl
    refine Ult.bind (own_spec (v.1, v.2.1, v.2.2.1, v.2.2.2.1, lenN v.2.2.2.2) h.wv.2.1 h0) (Ult.ret.eq ?_)
    rfl
  refine Ult.no (by rw [ine_eq]; exact decide_eq_false (fun q => q hk)) ?_
  rw [if_neg (fun q => q hk)]
  have hcs := z2 hk
  obtain ⟨y1, y2⟩ := chkCases_zero hcs
  refine Ult.bind (names_prog x.2.1 v hM (by omega)) ?_
  by_cases hn : chkNames x.2.1 v.2.2.2.2 = 0
  case neg =>
    refine Ult.yes (by rw [ine_eq]; exact decide_eq_true hn) ?_
    rw [if_pos hn]; exact Ult.ret
  refine Ult.no (by rw [ine_eq]; exact decide_eq_false (fun q => q hn)) ?_
  rw [if_neg (fun q => q hn)]
  obtain ⟨kd, tx, nm, ls, L⟩ := v
  have z3 : L.length ≤ 50 := z3
  have y2 : ∀ c ∈ L, c.2.1 ≠ 4 ∧ c.2.2.2.2.2 = 0 := y2
  have hsz : CasesSz L := h.wv.2.2
  refine Ult.forA (A := List Case × List Condition) (fun _ => Nat.le_refl _) L.length (fun a j => (a.1, a.2, (j : Int))) (fun a j => a = ((held x C p (L.take j)).map (·.1), (held x C p (L.take j)).map (·.2))) (fun _ _ => upA (firstA x C p L)) ([], []) (by rw [List.take_zero]; rfl) fun a j hj ha next => ?_
  dsimp only
  rw [iltL]
  by_cases hlt' : ¬ j < L.length
  · refine Ult.no (decide_eq_false hlt') ?_
    rw [List.take_of_length_le (by omega)] at ha
    subst ha
    unfold firstA
    have hS : ∀ s ∈ held x C p L, StrsSz s.1.2.2.2.2.1 ∧ s.1.2.2.2.2.2 = 0 := fun s hs => by
      obtain ⟨q1, _⟩ := held_mem hs
      exact ⟨(hsz.2 _ q1).2.2, (y2 _ q1).2⟩
    have hSw : ∀ s ∈ held x C p L, PairSz s.2.2.1 ∧ PairSz s.2.2.2 := fun s hs => by
      obtain ⟨_, q2⟩ := held_mem hs
      exact (h.wx.2.1.2 _ q2).2
    have hSl := held_len x C p L
    cases hh : held x C p L with
    | nil =>
      refine Ult.yes rfl (Ult.bind (cases_idx (l := lp fun k : Nat => k) (kk := fun q => q.1) (lp_le _ _ fun _ => Nat.le_refl _) L (fun q a => S79 q.1 (a, ())) (fun c => decide (c.1 = dflt)) (fun a _ => Ult.ret.eq (seq_eq _ _)) (by omega)) ?_)
      cases hf : L.find? (fun c : Case => decide (c.1 = dflt)) with
      | none => exact Ult.yes (by rw [ilt_eq]; exact decide_eq_true (idxF_neg.2 hf)) Ult.ret
      | some c =>
        obtain ⟨q1, q2⟩ := idxF_at hf
        have hc := List.mem_of_find?_eq_some hf
        refine Ult.no (by rw [ilt_eq]; exact decide_eq_false (by omega)) (Ult.bindc q1 ?_)
        exact Ult.bind (Ult.call (f := fun k => S1076 k (c.2, ())) (lp_le _ _ fun _ => Nat.le_refl _) (own_spec c.2 (hsz.2 _ hc).2.2 (y2 _ hc).2)) Ult.ret
    | cons s r =>
      rw [← hh]
      have hpos : 0 < (held x C p L).length := by rw [hh]; simp
      refine Ult.no (by rw [ieq_eq]; show decide (((((held x C p L).map (·.1)).length : Nat) : Int) = 0) = false; rw [List.length_map]; exact decide_eq_false (by omega)) ?_
      have e0 : (held x C p L)[0].1.2 = s.1.2 := by simp only [hh]; rfl
      have main := second_prog (l := lp fun k : Nat => k) (kk := fun q => q.1) (lp_le _ _ fun _ => Nat.le_refl _) (held x C p L) hpos (by omega) (fun q a b => S1080 q.1 (a, b, ())) (fun q a => S1076 q.1 (a, ())) (fun q a b => S81 q.1 (a, b, ()))
        (fun s hs t ht => Ult.call (f := fun k => S1080 k (s.1.2, t.1.2, ())) (lp_le _ _ fun _ => Nat.le_refl _) (eq_prog s.1.2 t.1.2 (by have := (hS s hs).1.1; omega) (hS s hs).2))
        (fun s hs => Ult.call (f := fun k => S1076 k (s.1.2, ())) (lp_le _ _ fun _ => Nat.le_refl _) (own_spec s.1.2 (hS s hs).1 (hS s hs).2))
        (fun a ha b hb => by
          obtain ⟨s, hs, rfl⟩ := List.mem_map.1 ha
          obtain ⟨t, ht, rfl⟩ := List.mem_map.1 hb
          exact Ult.call (f := fun k => S81 k (s.2, t.2, ())) (lp_le _ _ fun _ => Nat.le_refl _) (isM_prog s.2 t.2 (hSw s hs).1 (hSw s hs).2 (hSw t ht).1 (hSw t ht).2)) zV1
      rw [e0] at main
      exact main.eq (by rw [hh])
  have hlt : j < L.length := Decidable.not_not.1 hlt'
  refine Ult.yes (decide_eq_true hlt) (Ult.bindc (at?_nat hlt) (Ult.bind (Ult.call (f := fun k => S56 k (x.2.1, L[j].1, ())) (lp_le _ _ fun _ => Nat.le_refl _) (condOf_prog x.2.1 L[j].1 hM)) ?_))
  rw [isucc hlt (by omega)]
  subst ha
  have hl := held_len x C p (L.take j)
  rw [takeL hlt] at hl
  have stay : holdC x C p L[j] = none → ((held x C p (L.take j)).map (·.1), (held x C p (L.take j)).map (·.2)) = ((held x C p (L.take (j + 1))).map (·.1), (held x C p (L.take (j + 1))).map (·.2)) := fun q => by
    rw [held_step x C p hlt, q]; simp
  unfold condAns
  cases hco : condOf x.2.1 L[j].1 with
  | none => exact Ult.no rfl (next _ hlt (stay (by unfold holdC; rw [hco])))
  | some m =>
    obtain ⟨m1, m2⟩ := condOf_mem hco
    obtain ⟨_, p1, p2⟩ := h.wx.2.1.2 _ m1
    refine Ult.yes rfl (Ult.bind (Ult.call (f := fun k => S77 k (x.1, m, C, p, ())) (lp_le _ _ fun _ => Nat.le_refl _) (S77_spec x.1 m C p hLs (by omega) p1 p2 h.wp (h.conds.vals m1))) ?_)
    cases hb : holdsB x.1 m C p with
    | false => exact Ult.no rfl (next _ hlt (stay (by unfold holdC; rw [hco]; simp [hb])))
    | true =>
      refine Ult.yes rfl (Ult.bindc (app?_ok (by simp only [List.length_map, List.length_cons, List.length_nil]; show ((held x C p (L.take j)).length + (0 + 1)) * 96 ≤ _; omega)) (Ult.bindc (app?_ok (by simp only [List.length_map, List.length_cons, List.length_nil]; show ((held x C p (L.take j)).length + (0 + 1)) * 64 ≤ _; omega)) ?_))
      refine next (_, _) hlt ?_
      have : holdC x C p L[j] = some m := by unfold holdC; rw [hco]; simp [hb]
      rw [held_step x C p hlt, this]; simp
end Go.Proofs.YtonfimidgbppeaaGreatDoor.Ev

namespace Go.Proofs.YtonfimidgbppeaaGreatDoor.Ev
open Go Go.RowKit
set_option linter.unusedVariables false
set_option linter.unusedSimpArgs false
variable {ι R α X : Type} {l : ι → Nat}
def oth (M : List Condition) (L : List Case) : Bool × V0 := match lastN M L with
  | some c => (true, c.2)
  | none => (false, zV0)
theorem oth_step (M : List Condition) {L : List Case} {j : Nat} (h : j < L.length) : oth M (L.take (j + 1)) = if (condOf M L[j].1).isNone = true then (true, L[j].2) else oth M (L.take j) := by
  unfold oth lastN
  rw [List.take_succ_eq_append_getElem h, List.reverse_append, List.reverse_singleton, List.singleton_append, List.find?_cons]
  cases (condOf M L[j].1).isNone <;> rfl
/-! ### what is chosen has no cases -/
def Flat (a : V0) : Prop := StrsSz a.2.2.2.1 ∧ a.2.2.2.2 = 0
theorem flat_z : Flat zV0 := ⟨⟨by simp, fun s hs => by cases hs⟩, rfl⟩
theorem pick_flat {W : List Condition} {v0 : V0} (h0 : Flat v0) : ∀ (S : List (Case × Condition)) (same : Bool) (j : Nat), (∀ s ∈ S, Flat s.1.2) → Flat (pickA W v0 same j S).1
  | [], same, j, _ => by
    rw [pickA]
    split
    · exact h0
    · exact flat_z
  | s :: r, same, j, hS => by
    rw [pickA]
    split
    · exact hS s (by simp)
    · exact pick_flat h0 r _ _ fun t ht => hS t (by simp [ht])
theorem chosen_flat {x : CWorld} {v : V1} {C : List Pair} {p : Platform} (h : ChIn x v C p) : Flat (chosenA x v C p).1 := by
  obtain ⟨z1, z2, z3⟩ := chk1_zero h.val
  unfold chosenA
  split
  · exact ⟨h.wv.2.1, rfl⟩
  rename_i hk
  have hcs := z2 (Decidable.not_not.1 hk)
  obtain ⟨y1, y2⟩ := chkCases_zero hcs
  split
  · exact flat_z
  have fl : ∀ c ∈ v.2.2.2.2, Flat c.2 := fun c hc => ⟨(h.wv.2.2.2 c hc).2.2, (y2 c hc).2⟩
  unfold firstA
  cases hh : held x C p v.2.2.2.2 with
  | nil =>
    dsimp only
    cases hf : v.2.2.2.2.find? (fun c : Case => decide (c.1 = dflt)) with
    | none => exact flat_z
    | some c => exact fl c (List.mem_of_find?_eq_some hf)
  | cons s r =>
    have hm : ∀ t ∈ s :: r, Flat t.1.2 := fun t ht => fl _ (held_mem (by rw [hh]; exact ht)).1
    exact pick_flat (hm s (by simp)) (s :: r) _ _ hm
end Go.Proofs.YtonfimidgbppeaaGreatDoor.Ev

namespace Go.Proofs.YtonfimidgbppeaaGreatDoor.Ev
open Go Go.RowKit
set_option linter.unusedVariables false
set_option linter.unusedSimpArgs false
variable {ι R α X : Type} {l : ι → Nat}
theorem Ultk.some {f : Nat → Option Bool} (h : Ultk f true) : ∃ k, f k = Option.some true := by
  obtain ⟨K, h⟩ := h
  exact ⟨K, h K (Nat.le_refl _)⟩
theorem PlatSz.one' {p : Platform} (h1 : p.1.size ≤ 140737488351232) (h2 : PairSz p.2) : PlatSz [p] := ⟨by simp, fun q hq => by
  rw [List.mem_singleton.1 hq]; exact ⟨h1, h2⟩⟩
def chkAsk (x : CWorld) (C : List Pair) (p : Platform) : Int := if chkConditions x.1 x.2.1 ≠ 0 then chkConditions x.1 x.2.1 else if chkConfig x.1 C ≠ 0 then chkConfig x.1 C else chkPlatforms [p]
theorem ask_prog (x : CWorld) (C : List Pair) (p : Platform) (hx : WorldSz x) (hC : PairSz C) (hp : PlatSz [p]) : Ultk (fun k => S39 k (x, C, p, ())) (chkAsk x C p) := by
  unfold S39 chkAsk
  have := hC.1
  refine Ult.bind (S54_spec x.1 x.2.1 hx.1 hx.2.1) (Ult.ifS (ine_eq _ _) (fun _ => Ult.ret) fun _ => ?_)
  refine Ult.bind (S28_spec x.1 C hx.1 (by have := hC.len; omega)) (Ult.ifS (ine_eq _ _) (fun _ => Ult.ret) fun _ => ?_)
  exact Ult.bind (S70_spec [p] hp) Ult.ret
def chosenAll (x : CWorld) (v : V1) (C : List Pair) (p : Platform) : V1 × Int := if chkAsk x C p ≠ 0 then (zV1, chkAsk x C p) else if chk1 v ≠ 0 then (zV1, chk1 v) else upA (chosenA x v C p)
theorem ask_zero {x : CWorld} {C : List Pair} {p : Platform} (h : chkAsk x C p = 0) : chkConditions x.1 x.2.1 = 0 := by
  unfold chkAsk at h
  split at h
  · rename_i q; exact absurd h q
  · rename_i q; exact Decidable.not_not.1 q
/-! ### what is chosen is one of the values -/
theorem pick_one {W : List Condition} {v0 : V0} : ∀ (S : List (Case × Condition)) (same : Bool) (j : Nat), (pickA W v0 same j S).2 = 0 → (pickA W v0 same j S).1 = v0 ∨ ∃ s ∈ S, (pickA W v0 same j S).1 = s.1.2
  | [], same, j, h => by
    rw [pickA] at h ⊢
    split at h
    · rename_i q; rw [if_pos q]; exact Or.inl rfl
    · cases h
  | s :: r, same, j, h => by
    rw [pickA] at h ⊢
    split at h
    · rename_i q; rw [if_pos q]; exact Or.inr ⟨s, by simp, rfl⟩
    · rename_i q; rw [if_neg q]
      rcases pick_one r _ _ h with e | ⟨t, ht, e⟩
      · exact Or.inl e
      · exact Or.inr ⟨t, by simp [ht], e⟩
theorem first_one {x : CWorld} {C : List Pair} {p : Platform} {L : List Case} (h : (firstA x C p L).2 = 0) : ∃ c ∈ L, (firstA x C p L).1 = c.2 := by
  unfold firstA at h ⊢
  cases hh : held x C p L with
  | nil =>
    rw [hh] at h
    dsimp only at h ⊢
    cases hf : L.find? (fun c : Case => decide (c.1 = dflt)) with
    | none => rw [hf] at h; cases h
    | some c => exact ⟨c, List.mem_of_find?_eq_some hf, rfl⟩
  | cons s r =>
    rw [hh] at h
    dsimp only at h ⊢
    have hm : ∀ t ∈ s :: r, t.1 ∈ L := fun t ht => (held_mem (by rw [hh]; exact ht)).1
    rcases pick_one _ _ _ h with e | ⟨t, ht, e⟩
    · exact ⟨s.1, hm s (by simp), e⟩
    · exact ⟨t.1, hm t ht, e⟩
theorem chkCs_each {k0 : Int} : ∀ {r pre : List Case}, chkCs k0 pre r = 0 → ∀ c ∈ r, chkTxt c.1 = 0 ∧ c.2.1 ≠ 4 ∧ chk0 c.2 = 0 ∧ c.2.1 = k0
  | [], _, _, c, hc => by cases hc
  | a :: r, pre, h, c, hc => by
    rw [chkCs] at h
    split at h
    · rename_i q; exact absurd h q
    rename_i qt
    split at h
    · cases h
    split at h
    · cases h
    rename_i q4
    split at h
    · rename_i q; exact absurd h q
    rename_i q0
    split at h
    · cases h
    rename_i qk
    rcases List.mem_cons.1 hc with rfl | hc
    · exact ⟨Decidable.not_not.1 qt, q4, Decidable.not_not.1 q0, Decidable.not_not.1 qk⟩
    · exact chkCs_each h c hc
theorem chkCases_each {L : List Case} (h : chkCases L = 0) : ∀ c ∈ L, chkTxt c.1 = 0 ∧ c.2.1 ≠ 4 ∧ chk0 c.2 = 0 := by
  cases L with
  | nil => cases h
  | cons a r => exact fun c hc => have q := chkCs_each h c hc; ⟨q.1, q.2.1, q.2.2.1⟩
theorem chkVal_r {kd : Int} {tx : ByteArray} {nm : Int} {ls : List ByteArray} {n r r' : Int} (hk : kd ≠ 4) : chkVal kd tx nm ls n r = chkVal kd tx nm ls n r' := by
  unfold chkVal
  simp only [if_neg hk]
theorem chk_up {a : V0} (hk : a.1 ≠ 4) (h0 : a.2.2.2.2 = 0) : chk1 (upv a) = chk0 a := by
  obtain ⟨k, t, n, s, z⟩ := a
  obtain rfl : z = 0 := h0
  exact chkVal_r hk
theorem up_v0 {v : V1} (h : v.2.2.2.2 = []) : upv (v0of v) = v := by
  obtain ⟨k, t, n, s, z⟩ := v
  obtain rfl : z = [] := h
  rfl
structure OneOf (v : V1) (a : V0) : Prop where
  kind : a.1 ≠ 4
  flat : Flat a
  chk : chk1 (upv a) = 0
  one : (v.1 ≠ 4 ∧ a = v0of v) ∨ (v.1 = 4 ∧ ∃ c ∈ v.2.2.2.2, a = c.2)
theorem chosen_one {x : CWorld} {v : V1} {C : List Pair} {p : Platform} (h : ChIn x v C p) (h0 : (chosenA x v C p).2 = 0) : OneOf v (chosenA x v C p).1 := by
  have fl := chosen_flat h
  obtain ⟨z1, z2, z3⟩ := chk1_zero h.val
  unfold chosenA at h0 fl ⊢
  by_cases hk : v.1 ≠ 4
  · rw [if_pos hk] at h0 fl ⊢
    refine ⟨hk, fl, ?_, Or.inl ⟨hk, rfl⟩⟩
    dsimp only
    rw [up_v0 (z1 hk)]; exact h.val
  rw [if_neg hk] at h0 fl ⊢
  have hk4 : v.1 = 4 := Decidable.not_not.1 hk
  by_cases hn : chkNames x.2.1 v.2.2.2.2 ≠ 0
  · rw [if_pos hn] at h0; exact absurd h0 hn
  rw [if_neg hn] at h0 fl ⊢
  obtain ⟨c, hc, e⟩ := first_one h0
  obtain ⟨_, y1, y2⟩ := chkCases_each (z2 hk4) c hc
  rw [← e] at y1 y2
  refine ⟨y1, fl, ?_, Or.inr ⟨hk4, c, hc, e⟩⟩
  rw [chk_up y1 fl.2]; exact y2
theorem all_in {x : CWorld} {v : V1} {C : List Pair} {p : Platform} (hx : WorldSz x) (hv : V1Sz v) (hC : PairSz C) (hp2 : PairSz p.2) (h0 : (chosenAll x v C p).2 = 0) : chkAsk x C p = 0 ∧ ChIn x v C p ∧ chosenAll x v C p = upA (chosenA x v C p) ∧ (chosenA x v C p).2 = 0 := by
  unfold chosenAll at h0 ⊢
  split at h0
  · rename_i q; exact absurd h0 q
  rename_i h1
  split at h0
  · rename_i q; exact absurd h0 q
  rename_i h2
  rw [if_neg h1, if_neg h2]
  exact ⟨Decidable.not_not.1 h1, ⟨hx, hv, hC, hp2, CondsOk.of (ask_zero (Decidable.not_not.1 h1)), Decidable.not_not.1 h2⟩, rfl, h0⟩
theorem pick_bad {W : List Condition} {v0 : V0} : ∀ (S : List (Case × Condition)) (same : Bool) (j : Nat), (pickA W v0 same j S).2 ≠ 0 → (pickA W v0 same j S).1 = zV0
  | [], same, j, h => by
    rw [pickA] at h ⊢
    split at h
    · exact absurd rfl h
    · rename_i q; rw [if_neg q]
  | s :: r, same, j, h => by
    rw [pickA] at h ⊢
    split at h
    · exact absurd rfl h
    · rename_i q; rw [if_neg q]; exact pick_bad r _ _ h
theorem first_bad {x : CWorld} {C : List Pair} {p : Platform} {L : List Case} (h0 : (firstA x C p L).2 ≠ 0) : (firstA x C p L).1 = zV0 := by
  unfold firstA at h0 ⊢
  cases hh : held x C p L with
  | nil =>
    rw [hh] at h0
    dsimp only at h0 ⊢
    cases hf : L.find? (fun c : Case => decide (c.1 = dflt)) with
    | none => rfl
    | some c => rw [hf] at h0; exact absurd rfl h0
  | cons s r =>
    rw [hh] at h0
    dsimp only at h0 ⊢
    exact pick_bad _ _ _ h0
theorem chosen_bad {x : CWorld} {v : V1} {C : List Pair} {p : Platform} (h0 : (chosenA x v C p).2 ≠ 0) : (chosenA x v C p).1 = zV0 := by
  unfold chosenA at h0 ⊢
  by_cases hk : v.1 ≠ 4
  · rw [if_pos hk] at h0; exact absurd rfl h0
  rw [if_neg hk] at h0 ⊢
  by_cases hn : chkNames x.2.1 v.2.2.2.2 ≠ 0
  · rw [if_pos hn]
  rw [if_neg hn] at h0 ⊢
  exact first_bad h0
theorem all_bad {x : CWorld} {v : V1} {C : List Pair} {p : Platform} (h0 : (chosenAll x v C p).2 ≠ 0) : (chosenAll x v C p).1 = zV1 := by
  unfold chosenAll at h0 ⊢
  split
  · rfl
  split
  · rfl
  rename_i h1 h2
  rw [if_neg h1, if_neg h2] at h0
  show upv (chosenA x v C p).1 = zV1
  rw [chosen_bad h0]; rfl
/-- chosen again it stays -/
theorem all_again {x : CWorld} {C : List Pair} {p : Platform} {a : V0} (ha : chkAsk x C p = 0) (hk : a.1 ≠ 4) (hf : a.2.2.2.2 = 0) (hc : chk1 (upv a) = 0) : chosenAll x (upv a) C p = (upv a, 0) := by
  unfold chosenAll
  rw [if_neg (fun q => q ha), if_neg (fun q => q hc)]
  unfold chosenA
  rw [if_pos (show (upv a).1 ≠ 4 from hk)]
  obtain ⟨k, t, n, s, z⟩ := a
  rfl
theorem v1sz_up {v : V1} {a : V0} (hv : V1Sz v) (h : OneOf v a) : V1Sz (upv a) := by
  rcases h.one with ⟨_, e⟩ | ⟨_, c, hc, e⟩
  · subst e; exact ⟨hv.1, hv.2.1, by simp [upv], fun c hc => by cases hc⟩
  · subst e
    obtain ⟨q1, q2, q3⟩ := hv.2.2.2 c hc
    exact ⟨q2, q3, by simp [upv], fun c hc => by cases hc⟩
end Go.Proofs.YtonfimidgbppeaaGreatDoor.Ev

namespace Go.Proofs.YtonfimidgbppeaaGreatDoor.Ev
open Go Go.RowKit
set_option linter.unusedVariables false
set_option linter.unusedSimpArgs false
def mkB (l : List UInt8) : ByteArray := ⟨l.toArray⟩
theorem mkB_data (l : List UInt8) : (mkB l).data.toList = l := by simp [mkB]
theorem mkB_of (s : ByteArray) : mkB s.data.toList = s := bytes_ext (mkB_data _)
theorem mkB_size (l : List UInt8) : (mkB l).size = l.length := rfl
theorem size_list (s : ByteArray) : s.size = s.data.toList.length := by simp
/-- cut at each c -/
def splitL (c : UInt8) : List UInt8 → List (List UInt8)
  | [] => [[]]
  | b :: r => if b = c then [] :: splitL c r else match splitL c r with
    | [] => [[b]]
    | p :: ps => (b :: p) :: ps
theorem splitL_ne (c : UInt8) : ∀ l, splitL c l ≠ []
  | [] => by simp [splitL]
  | b :: r => by
    rw [splitL]
    split
    · simp
    · split <;> simp
theorem splitL_none {c : UInt8} : ∀ {l : List UInt8}, c ∉ l → splitL c l = [l]
  | [], _ => rfl
  | b :: r, h => by
    rw [splitL, if_neg (fun e => h (by simp [e])), splitL_none (fun m => h (by simp [m]))]
theorem splitL_cons {c : UInt8} : ∀ {p : List UInt8} (r : List UInt8), c ∉ p → splitL c (p ++ c :: r) = p :: splitL c r
  | [], r, _ => by simp [splitL]
  | b :: p, r, h => by
    rw [List.cons_append, splitL, if_neg (fun e => h (by simp [e])), splitL_cons r (fun m => h (by simp [m]))]
theorem first_of {c : UInt8} : ∀ {l : List UInt8}, c ∈ l → ∃ p r, l = p ++ c :: r ∧ c ∉ p
  | b :: l, h => by
    by_cases e : b = c
    · exact ⟨[], l, by simp [e], by simp⟩
    · have : c ∈ l := by rcases List.mem_cons.1 h with q | q; exact absurd q.symm e; exact q
      obtain ⟨p, r, rfl, h2⟩ := first_of this
      refine ⟨b :: p, r, rfl, fun m => ?_⟩
      rcases List.mem_cons.1 m with q | q
      · exact e q.symm
      · exact h2 q
theorem splitL_parts {c : UInt8} : ∀ (n : Nat) {l : List UInt8}, l.length ≤ n → ∀ p ∈ splitL c l, c ∉ p ∧ p.length ≤ l.length
  | n, l, hn, p, hp => by
    by_cases h : c ∈ l
    · obtain ⟨a, r, rfl, ha⟩ := first_of h
      rw [splitL_cons r ha] at hp
      rcases List.mem_cons.1 hp with rfl | hp
      · exact ⟨ha, by simp⟩
      · cases n with
        | zero => simp at hn
        | succ n =>
          obtain ⟨h1, h2⟩ := splitL_parts n (l := r) (by simp only [List.length_append, List.length_cons] at hn; omega) p hp
          exact ⟨h1, by simp only [List.length_append, List.length_cons]; omega⟩
    · rw [splitL_none h] at hp
      obtain rfl : p = l := by simpa using hp
      exact ⟨h, Nat.le_refl _⟩
theorem splitL_len {c : UInt8} : ∀ (l : List UInt8), (splitL c l).length ≤ l.length + 1
  | [] => by simp [splitL]
  | b :: r => by
    have ih := splitL_len (c := c) r
    rw [splitL]
    split
    · simp only [List.length_cons]; omega
    · split
      · simp
      · rename_i p ps e
        rw [e] at ih
        simp only [List.length_cons] at ih ⊢
        omega
theorem index_none {c : UInt8} : ∀ {l : List UInt8}, c ∉ l → Lib.index l [c] = -1
  | [], _ => rfl
  | b :: r, h => by
    have hb : b ≠ c := fun e => h (by simp [e])
    have := index_none (fun m => h (by simp [m]) : c ∉ r)
    rw [Lib.index, this]
    have hp : ([c] : List UInt8).isPrefixOf (b :: r) = false := by simp [List.isPrefixOf, Ne.symm hb]
    rw [hp]; simp
theorem index_first {c : UInt8} : ∀ {p : List UInt8} (r : List UInt8), c ∉ p → Lib.index (p ++ c :: r) [c] = (p.length : Int)
  | [], r, _ => by
    rw [List.nil_append, Lib.index]
    have hp : ([c] : List UInt8).isPrefixOf (c :: r) = true := by simp [List.isPrefixOf]
    rw [hp]; simp
  | b :: p, r, h => by
    have hb : b ≠ c := fun e => h (by simp [e])
    have ih := index_first (p := p) r (fun m => h (List.mem_cons_of_mem _ m))
    have ih : Lib.index (p ++ c :: r) [c] = (p.length : Int) := ih
    rw [List.cons_append, Lib.index, ih]
    have hp : ([c] : List UInt8).isPrefixOf (b :: (p ++ c :: r)) = false := by simp [List.isPrefixOf, Ne.symm hb]
    rw [hp]
    have : ¬ ((p.length : Int) == -1) = true := by simp <;> omega
    rw [if_neg (by simp), if_neg this]
    simp
theorem count_none {c : UInt8} {l : List UInt8} (h : c ∉ l) : Lib.count l [c] = 0 := by
  rw [Lib.count_one]; exact List.count_eq_zero.2 h
theorem count_first {c : UInt8} {p : List UInt8} (r : List UInt8) (h : c ∉ p) : Lib.count (p ++ c :: r) [c] = Lib.count r [c] + 1 := by
  rw [Lib.count_one, Lib.count_one, List.count_append, List.count_cons_self, List.count_eq_zero.2 h]; omega
theorem splitK_one {c : UInt8} : ∀ (n : Nat) {l : List UInt8}, l.length ≤ n → Lib.splitK [c] 0 (Lib.count l [c]) l = splitL c l
  | n, l, hn => by
    by_cases h : c ∈ l
    · obtain ⟨a, r, rfl, ha⟩ := first_of h
      rw [splitL_cons r ha, count_first r ha, Lib.splitK, index_first r ha]
      have : ¬ ((a.length : Int) == -1) = true := by simp <;> omega
      rw [if_neg this]
      cases n with
      | zero => simp at hn
      | succ n =>
        have ih := splitK_one (c := c) n (l := r) (by simp only [List.length_append, List.length_cons] at hn; omega)
        simp only [Int.toNat_natCast, Nat.add_zero, List.length_cons, List.length_nil, Nat.zero_add]
        rw [List.take_left' rfl, show (a ++ c :: r).drop (a.length + 1) = r by simp [← List.drop_drop], ih]
    · rw [splitL_none h, count_none h]; rfl
/-- strings.Split at one byte -/
theorem split_one (c : UInt8) (s : ByteArray) : Lib.splitB ⟨#[c]⟩ 0 (Lib.countB s ⟨#[c]⟩) s = (splitL c s.data.toList).map mkB := by
  have h := Lib.splitB_data ⟨#[c]⟩ 0 (Lib.countB s ⟨#[c]⟩) s
  have h2 : Lib.splitK [c] 0 (Lib.countB s ⟨#[c]⟩) s.data.toList = splitL c s.data.toList := splitK_one _ (Nat.le_refl _)
  rw [show (⟨#[c]⟩ : ByteArray).data.toList = [c] from rfl, h2] at h
  rw [← h, List.map_map]
  conv => lhs; rw [← List.map_id (Lib.splitB _ _ _ _)]
  exact List.map_congr_left fun x _ => (mkB_of x).symm
theorem cut_none {c : UInt8} {l : List UInt8} (h : c ∉ l) : Lib.cut l [c] = (l, [], false) := by
  unfold Lib.cut
  rw [index_none h, if_neg (by decide)]
theorem cut_first {c : UInt8} {p : List UInt8} (r : List UInt8) (h : c ∉ p) : Lib.cut (p ++ c :: r) [c] = (p, r, true) := by
  unfold Lib.cut
  rw [index_first r h, if_pos (Int.natCast_nonneg _)]
  simp only [Int.toNat_natCast, List.length_cons, List.length_nil, Nat.zero_add]
  rw [List.take_left' rfl, show (p ++ c :: r).drop (p.length + 1) = r by simp [← List.drop_drop]]
theorem joinTail_cons (sep : List UInt8) (y : List UInt8) (r : List (List UInt8)) : Lib.joinTail sep (y :: r) = sep ++ y ++ Lib.joinTail sep r := by simp [Lib.joinTail]
/-- what was joined is split again -/
theorem splitL_join {c : UInt8} : ∀ (r : List (List UInt8)) (x : List UInt8), c ∉ x → (∀ y ∈ r, c ∉ y) → splitL c (Lib.join (x :: r) [c]) = x :: r
  | [], x, hx, _ => by rw [Lib.join_one, splitL_none hx]
  | y :: r, x, hx, hr => by
    have ih := splitL_join r y (hr y (by simp)) fun z hz => hr z (by simp [hz])
    rw [Lib.join_cons] at ih ⊢
    rw [joinTail_cons, List.append_assoc, List.singleton_append, splitL_cons _ hx, ih]
end Go.Proofs.YtonfimidgbppeaaGreatDoor.Ev

namespace Go.Proofs.YtonfimidgbppeaaGreatDoor.Ev.Pth
open Go Go.RowKit
set_option linter.unusedVariables false
set_option linter.unusedSimpArgs false
variable {ι R A X α β : Type} {l : ι → Nat}
abbrev File := ByteArray × (Bool × List Int)
theorem bt_get {s : ByteArray} {j : Nat} (h : j < s.size) : bt s (j : Int) = ((s.data.toList[j]'(by simpa using h)).toNat : Int) := by
  unfold bt
  rw [dif_pos (by simpa using h)]
  simp [ByteArray.getElem_eq_getElem_data]
theorem bt?_get {s : ByteArray} {j : Nat} (h : j < s.size) : bt? s (j : Int) = some (bt s (j : Int)) := by unfold bt?; rw [if_pos ⟨Int.natCast_nonneg _, by omega⟩]
theorem iltS (j : Nat) (s : ByteArray) : ilt (j : Int) (ssz s) = decide (j < s.size) := by
  unfold ilt ssz
  by_cases h : j < s.size
  · rw [decide_eq_true h, decide_eq_true (by omega)]
  · rw [decide_eq_false h, decide_eq_false (by omega)]
theorem ssz_small {s : ByteArray} {n : Int} (h : igt (ssz s) n = false) : (s.size : Int) ≤ n := by
  have : ¬ ssz s > n := of_decide_eq_false h
  unfold ssz at this
  omega

/-! ### words -/
/-- a byte of a part of a path -/
def pb (c : Int) : Bool := decide (97 ≤ c ∧ c ≤ 122) || (decide (65 ≤ c ∧ c ≤ 90) || (decide (48 ≤ c ∧ c ≤ 57) || (decide (c = 46) || (decide (c = 95) || (decide (c = 45) || decide (c = 43))))))
def allP (l : List UInt8) : Bool := l.all fun b => pb (b.toNat : Int)
def dot1 : ByteArray := ⟨#[46]⟩
def dot2 : ByteArray := ⟨#[46, 46]⟩
def isPartD (s : ByteArray) : Bool := allP s.data.toList && decide (s ≠ ⟨#[]⟩ ∧ s ≠ dot1 ∧ s ≠ dot2)
def parts (s : ByteArray) : List ByteArray := (splitL 47 s.data.toList).map mkB
def isPathD (s : ByteArray) : Bool := decide (1 ≤ s.size ∧ s.size ≤ 200) && (parts s).all isPartD
theorem isPathD_size {s : ByteArray} (h : isPathD s = true) : 1 ≤ s.size ∧ s.size ≤ 200 := by
  simp only [isPathD, Bool.and_eq_true, decide_eq_true_eq] at h
  exact h.1
theorem parts_len (s : ByteArray) : (parts s).length ≤ s.size + 1 := by
  have := splitL_len (c := 47) s.data.toList
  rw [← size_list] at this
  simpa [parts] using this
theorem parts_size {s p : ByteArray} (h : p ∈ parts s) : p.size ≤ s.size := by
  obtain ⟨x, hx, rfl⟩ := List.mem_map.1 h
  have := (splitL_parts (c := 47) _ (Nat.le_refl _) x hx).2
  rw [← size_list] at this
  rw [mkB_size]; exact this
theorem parts_noslash {s p : ByteArray} (h : p ∈ parts s) : (47 : UInt8) ∉ p.data.toList := by
  obtain ⟨x, hx, rfl⟩ := List.mem_map.1 h
  rw [mkB_data]
  exact (splitL_parts (c := 47) _ (Nat.le_refl _) x hx).1
theorem idx_pb (b : UInt8) : ige (Lib.indexByte [46, 95, 45, 43] (((b.toNat : Int)).toNat.toUInt8)) 0 = (decide ((b.toNat : Int) = 46) || (decide ((b.toNat : Int) = 95) || (decide ((b.toNat : Int) = 45) || decide ((b.toNat : Int) = 43)))) := by
  have key : ∀ n : _root_.Fin 256, ige (Lib.indexByte [46, 95, 45, 43] (((UInt8.ofNat n.1).toNat : Int)).toNat.toUInt8) 0 = (decide (((UInt8.ofNat n.1).toNat : Int) = 46) || (decide (((UInt8.ofNat n.1).toNat : Int) = 95) || (decide (((UInt8.ofNat n.1).toNat : Int) = 45) || decide (((UInt8.ofNat n.1).toNat : Int) = 43)))) := by decide +kernel
  have := key ⟨b.toNat, b.toNat_lt⟩
  simpa using this

/-! ### maps -/
theorem ba_eq (a b : ByteArray) : (a == b) = true ↔ a = b := by
  obtain ⟨x⟩ := a
  obtain ⟨y⟩ := b
  constructor
  · intro h
    have e : x = y := by simpa using (show (x == y) = true from h)
    rw [e]
  · intro h
    cases h
    show (x == x) = true
    simp
theorem keq_eq (a b : ByteArray) : keq a b = decide (a = b) := by
  unfold keq
  rw [Bool.eq_iff_iff, ba_eq, decide_eq_true_iff]
def mputR (m : List (ByteArray × β)) (k : ByteArray) (v : β) : List (ByteArray × β) := match m with
  | [] => [(k, v)]
  | p :: m => if k = p.1 then (p.1, v) :: m else p :: mputR m k v
theorem mput_R : ∀ (m : List (ByteArray × β)) (k : ByteArray) (v : β), mput keq m k v = mputR m k v
  | [], k, v => rfl
  | p :: m, k, v => by
    have ih := mput_R m k v
    unfold mput at ih ⊢
    rw [List.findIdx?_cons, mputR]
    by_cases h : k = p.1
    · rw [if_pos (by rw [keq_eq]; exact decide_eq_true h), if_pos h]; rfl
    · rw [if_neg (by rw [keq_eq, decide_eq_false h]; simp), if_neg h, ← ih]
      cases m.findIdx? fun p => keq k p.1 <;> rfl
theorem mget_nil (s : ByteArray) : mget? keq ([] : List (ByteArray × β)) s = none := rfl
theorem mget_cons (p : ByteArray × β) (m : List (ByteArray × β)) (s : ByteArray) : mget? keq (p :: m) s = if s = p.1 then some p.2 else mget? keq m s := by
  unfold mget?
  rw [List.find?_cons]
  by_cases h : s = p.1
  · rw [if_pos h, show keq s p.1 = true by rw [keq_eq]; exact decide_eq_true h]; rfl
  · rw [if_neg h, show keq s p.1 = false by rw [keq_eq]; exact decide_eq_false h]
theorem mget_mput : ∀ (m : List (ByteArray × β)) (k : ByteArray) (v : β) (s : ByteArray), mget? keq (mput keq m k v) s = if s = k then some v else mget? keq m s := by
  intro m k v s
  rw [mput_R]
  induction m with
  | nil => rw [mputR, mget_cons]
  | cons p m ih =>
    rw [mputR]
    by_cases h : k = p.1
    · rw [if_pos h, mget_cons, mget_cons, h]
      by_cases e : s = p.1
      · rw [if_pos e, if_pos e]
      · rw [if_neg e, if_neg e, if_neg e]
    · rw [if_neg h, mget_cons, mget_cons, ih]
      by_cases e : s = p.1
      · rw [if_pos e, if_pos e, if_neg (fun q => h (q.symm.trans e))]
      · rw [if_neg e, if_neg e]
theorem mput_len (m : List (ByteArray × β)) (k : ByteArray) (v : β) : (mput keq m k v).length ≤ m.length + 1 := by
  rw [mput_R]
  induction m with
  | nil => simp [mputR]
  | cons p m ih =>
    rw [mputR]
    split
    · simp
    · simp only [List.length_cons]; omega

/-! ### files in order -/
def Asc (l : List File) : Prop := l.Pairwise fun p q => lt p.1 q.1
instance (a b : ByteArray) : Decidable (lt a b) := inferInstanceAs (Decidable (a.data.toList < b.data.toList))
theorem lt_irrefl (a : ByteArray) : ¬ lt a a := List.lt_irrefl _
theorem lt_trans {a b c : ByteArray} (h : lt a b) (k : lt b c) : lt a c := List.lt_trans h k
theorem lt_asymm {a b : ByteArray} (h : lt a b) : ¬ lt b a := List.lt_asymm h
theorem lt_tri {a b : ByteArray} (h : ¬ lt a b) (k : ¬ lt b a) : a = b := by
  unfold lt at h k
  rcases List.le_total a.data.toList b.data.toList with q | q
  · rcases List.le_iff_lt_or_eq.1 q with q | q
    · exact absurd q h
    · exact bytes_ext q
  · rcases List.le_iff_lt_or_eq.1 q with q | q
    · exact absurd q k
    · exact bytes_ext q.symm
theorem lt_of_le_lt {a b c : ByteArray} (h : ¬ lt b a) (k : lt b c) : lt a c := by
  rcases Classical.em (lt a b) with q | q
  · exact lt_trans q k
  · rw [lt_tri q h]; exact k
theorem Asc.get {L : List File} (h : Asc L) {i j : Nat} (hij : i < j) (hj : j < L.length) : lt (L[i]'(by omega)).1 L[j].1 := List.pairwise_iff_getElem.1 h i j (by omega) hj hij
/-- a file has the path -/
def inF (l : List File) (p : ByteArray) : Bool := l.any fun x => decide (x.1 = p)
theorem inF_iff {l : List File} {p : ByteArray} : inF l p = true ↔ ∃ x ∈ l, x.1 = p := by unfold inF; simp
/-- a file has a path within which this one lies -/
def clash (inn : ByteArray → Bool) (s : ByteArray) (j : Nat) : Bool := ((List.range s.size).drop j).any fun i => decide (bt s (i : Int) = 47) && inn (s.extract 0 i)
def inside (l : List File) (s : ByteArray) : Bool := clash (inF l) s 0
theorem clash_end {inn : ByteArray → Bool} {s : ByteArray} {j : Nat} (h : s.size ≤ j) : clash inn s j = false := by
  unfold clash; rw [List.drop_eq_nil_of_le (by simpa using h)]; rfl
theorem clash_step {inn : ByteArray → Bool} {s : ByteArray} {j : Nat} (h : j < s.size) : clash inn s j = ((decide (bt s (j : Int) = 47) && inn (s.extract 0 j)) || clash inn s (j + 1)) := by
  unfold clash
  rw [List.drop_eq_getElem_cons (by simpa using h), List.any_cons, List.getElem_range]
theorem clash_congr {f g : ByteArray → Bool} (h : ∀ s, f s = g s) (s : ByteArray) (j : Nat) : clash f s j = clash g s j := by rw [show f = g from funext h]
theorem sub?_take {s : ByteArray} {j : Nat} (h : j ≤ s.size) : sub? s 0 (j : Int) = some (s.extract 0 j) := by
  unfold sub?
  rw [if_pos ⟨by omega, by omega, by omega⟩, Int.toNat_natCast]; rfl

/-! ### CheckFiles -/
def firstNZ (l : List Int) : Int := (l.find? fun x => decide (x ≠ 0)).getD 0
theorem firstNZ_nil : firstNZ [] = 0 := rfl
theorem firstNZ_cons (x : Int) (r : List Int) : firstNZ (x :: r) = if x ≠ 0 then x else firstNZ r := by
  unfold firstNZ
  rw [List.find?_cons]
  by_cases h : x = 0
  · subst h; rfl
  · rw [if_pos h, decide_eq_true h]; rfl
theorem firstNZ_zero : ∀ {l : List Int}, firstNZ l = 0 ↔ ∀ x ∈ l, x = 0
  | [] => by simp [firstNZ_nil]
  | x :: r => by
    rw [firstNZ_cons]
    by_cases h : x = 0
    · rw [if_neg (by simp [h]), firstNZ_zero (l := r)]; simp [h]
    · rw [if_pos h]; simp [h]
def fileErr (l : List File) (j : Nat) : Int :=
  if isPathD (l.getD j default).1 = false then 3 else if 100000 < (l.getD j default).2.2.length then 2 else if 0 < j ∧ ¬ lt (l.getD (j - 1) default).1 (l.getD j default).1 then 8 else 0
theorem rng {c a b : Int} {F : ι → Option Bool} {r : Bool} (h : Ult l F r) : Ult l (fun i => cnd (ige c a) (cnd (ile c b) (some true) (F i)) (F i)) (decide (a ≤ c ∧ c ≤ b) || r) := by
  by_cases h1 : a ≤ c
  · refine Ult.yes (decide_eq_true h1) ?_
    by_cases h2 : c ≤ b
    · exact Ult.yes (decide_eq_true h2) (Ult.ret.eq (by simp [h1, h2]))
    · exact Ult.no (decide_eq_false h2) (h.eq (by simp [h1, h2]))
  · exact Ult.no (decide_eq_false h1) (h.eq (by simp [h1]))
theorem isc {c a : Int} {F : ι → Option Bool} {r : Bool} (h : Ult l F r) : Ult l (fun i => cnd (ieq c a) (some true) (F i)) (decide (c = a) || r) := by
  by_cases h1 : c = a
  · exact Ult.yes (by rw [ieq_eq]; exact decide_eq_true h1) (Ult.ret.eq (by simp [h1]))
  · exact Ult.no (by rw [ieq_eq]; exact decide_eq_false h1) (h.eq (by simp [h1]))
theorem inPart_spec (b : UInt8) : Ultk (fun k => S172 k ((b.toNat : Int), ())) (pb (b.toNat : Int)) := by
  unfold S172 pb
  rw [← idx_pb b]
  exact rng (rng (rng (Ult.bind (a := Lib.indexByte [46, 95, 45, 43] ((b.toNat : Int)).toNat.toUInt8) ⟨0, fun _ _ => rfl⟩ Ult.ret)))

theorem part_loop (f : Nat → Int × Unit → Option Bool) (hf : ∀ b : UInt8, Ultk (fun k => f k ((b.toNat : Int), ())) (pb (b.toNat : Int))) (s : ByteArray) (hs : s.size ≤ 9223372036854775807) :
    Ultk (fun k => loopN k (fun (a2 : (Int → (Option Bool))) (a3 : Int) => cnd (ilt a3 (ssz s)) (bnd (bt? s a3) (fun (a4 : Int) => bnd (f k (a4, ())) (fun (a5 : Bool) => cnd (bnot a5) (some false) (a2 (iadd Go.IntKind.i64 a3 1))))) (cnd (sne s (⟨#[]⟩ : ByteArray)) (cnd (sne s (⟨#[46]⟩ : ByteArray)) (some (sne s (⟨#[46, 46]⟩ : ByteArray))) (some false)) (some false))) 0) (isPartD s) := by
  refine (Ult.forI (fun _ => Nat.le_refl _) s.size (fun j => allP (s.data.toList.drop j) && decide (s ≠ ⟨#[]⟩ ∧ s ≠ dot1 ∧ s ≠ dot2)) fun j hj next => ?_).eq (by rw [List.drop_zero]; rfl)
  rw [iltS]
  by_cases hlt : j < s.size
  · have hl : j < s.data.toList.length := by simpa using hlt
    refine Ult.yes (decide_eq_true hlt) (Ult.bindc (bt?_get hlt) ?_)
    rw [bt_get hlt]
    refine Ult.bind (Ult.call (l := lp fun k : Nat => k) (f := fun k => f k (((s.data.toList[j]).toNat : Int), ())) (lp_le _ _ fun _ => Nat.le_refl _) (hf s.data.toList[j])) ?_
    rw [isucc hlt hs, drop_cons hl]
    unfold allP at next ⊢
    rw [List.all_cons]
    cases hb : pb ((s.data.toList[j]).toNat : Int) with
    | true => exact Ult.no rfl ((next hlt).eq (by simp))
    | false => exact Ult.yes rfl (Ult.ret.eq (by simp))
  · refine Ult.no (decide_eq_false hlt) ?_
    rw [List.drop_eq_nil_of_le (by simp; omega), sne_eq, sne_eq, sne_eq]
    by_cases h1 : s = ⟨#[]⟩
    · exact Ult.no (by simp [h1]) (Ult.ret.eq (by simp [h1]))
    refine Ult.yes (by simp [h1]) ?_
    by_cases h2 : s = dot1
    · exact Ult.no (decide_eq_false (fun q => q h2)) (Ult.ret.eq (by simp [h2]))
    refine Ult.yes (decide_eq_true h2) (Ult.ret.eq ?_)
    simp only [allP, List.all_nil, Bool.true_and, decide_eq_decide]
    exact ⟨fun h => ⟨h1, h2, h⟩, fun h => h.2.2⟩
theorem isPart_spec (s : ByteArray) (hs : s.size ≤ 9223372036854775807) : Ultk (fun k => S146 k (s, ())) (isPartD s) := by
  unfold S146
  exact part_loop S172 inPart_spec s hs

theorem all_loop (f : Nat → ByteArray × Unit → Option Bool) (q : ByteArray → Bool) (A : List ByteArray) (hA : A.length ≤ 9223372036854775807) (hf : ∀ s ∈ A, Ultk (fun k => f k (s, ())) (q s)) :
    Ultk (fun k => loopN k (fun (a4 : (Int → (Option Bool))) (a5 : Int) => cnd (ilt a5 (len A)) (bnd (at? A a5) (fun (a6 : ByteArray) => bnd (f k (a6, ())) (fun (a7 : Bool) => cnd (bnot a7) (some false) (a4 (iadd Go.IntKind.i64 a5 1))))) (some true)) 0) (A.all q) := by
  refine (Ult.forI (fun _ => Nat.le_refl _) A.length (fun j => (A.drop j).all q) fun j hj next => ?_).eq (by rw [List.drop_zero])
  rw [iltL]
  by_cases hlt : j < A.length
  · refine Ult.yes (decide_eq_true hlt) (Ult.bindc (at?_nat hlt) ?_)
    refine Ult.bind (Ult.call (l := lp fun k : Nat => k) (f := fun k => f k (A[j], ())) (lp_le _ _ fun _ => Nat.le_refl _) (hf A[j] (List.getElem_mem hlt))) ?_
    rw [isucc hlt hA, drop_cons hlt, List.all_cons]
    cases hb : q A[j] with
    | true => exact Ult.no rfl ((next hlt).eq (by simp))
    | false => exact Ult.yes rfl (Ult.ret.eq (by simp))
  · refine Ult.no (decide_eq_false hlt) (Ult.ret.eq ?_)
    rw [List.drop_eq_nil_of_le (by omega)]; rfl
def sl : ByteArray := ⟨#[47]⟩
theorem split_spec (s : ByteArray) (h : s.size < 4294967281) : Ultk (fun k => S89 k (s, (⟨#[47]⟩ : ByteArray), ())) (parts s) :=
  ⟨0, fun k _ => by
    unfold S89
    rw [if_pos ⟨h, show 1 ≤ (⟨#[47]⟩ : ByteArray).size by decide⟩]
    exact congrArg some (split_one 47 s)⟩
theorem isPath_spec (s : ByteArray) : Ultk (fun k => S92 k (s, ())) (isPathD s) := by
  unfold S92 isPathD
  refine Ult.jn ?_
  dsimp only
  by_cases h1 : s.size < 1
  · exact Ult.yes (by simp only [ilt_eq, ssz, decide_eq_true_eq]; omega) (Ult.ret.eq (by rw [decide_eq_false (by omega)]; rfl))
  refine Ult.no (by simp only [ilt_eq, ssz, decide_eq_false_iff_not]; omega) ?_
  by_cases h2 : 200 < s.size
  · exact Ult.yes (by simp only [igt_eq, ssz, decide_eq_true_eq]; omega) (Ult.ret.eq (by rw [decide_eq_false (by omega)]; rfl))
  refine Ult.no (by simp only [igt_eq, ssz, decide_eq_false_iff_not]; omega) (Ult.bind (split_spec s (by omega)) ?_)
  refine (all_loop S146 isPartD (parts s) (by have := parts_len s; omega) fun p hp => isPart_spec p (by have := parts_size hp; omega)).eq ?_
  rw [decide_eq_true (by omega), Bool.true_and]
def AscS (L : List ByteArray) : Prop := L.Pairwise lt
theorem AscS.nodup {L : List ByteArray} (h : AscS L) : L.Nodup := by
  have h : L.Pairwise lt := h
  refine h.imp fun {a b} hab e => ?_
  rw [e] at hab
  exact lt_irrefl _ hab
theorem AscS.unique {A B : List ByteArray} (hA : AscS A) (hB : AscS B) (h : ∀ y, y ∈ A ↔ y ∈ B) : A = B := by
  have hp : A.Perm B := (List.perm_ext_iff_of_nodup hA.nodup hB.nodup).2 h
  have hA : A.Pairwise lt := hA
  have hB : B.Pairwise lt := hB
  exact List.Perm.eq_of_pairwise (le := lt) (fun a b _ _ h1 h2 => absurd h2 (lt_asymm h1)) hA hB hp
theorem AscS.get {L : List ByteArray} (h : AscS L) {i j : Nat} (hij : i < j) (hj : j < L.length) : lt (L[i]'(by omega)) L[j] := List.pairwise_iff_getElem.1 h i j (by omega) hj hij
def keysM (m : List (ByteArray × β)) : List ByteArray := m.map (·.1)
theorem keys_mput (m : List (ByteArray × β)) (k : ByteArray) (v : β) : (k ∈ keysM m ∧ keysM (mput keq m k v) = keysM m) ∨ (¬ k ∈ keysM m ∧ keysM (mput keq m k v) = keysM m ++ [k]) := by
  rw [mput_R]
  induction m with
  | nil => exact .inr ⟨by simp [keysM], rfl⟩
  | cons p m ih =>
    rw [mputR]
    by_cases h : k = p.1
    · rw [if_pos h]; exact .inl ⟨by simp [keysM, h], rfl⟩
    · rw [if_neg h]
      have e : keysM (p :: mputR m k v) = p.1 :: keysM (mputR m k v) := rfl
      have e2 : keysM (p :: m) = p.1 :: keysM m := rfl
      rw [e, e2]
      rcases ih with ⟨i1, i2⟩ | ⟨i1, i2⟩
      · exact .inl ⟨List.mem_cons_of_mem _ i1, by rw [i2]⟩
      · exact .inr ⟨by simp [h, i1], by rw [i2]; rfl⟩
/-- the keys of a map -/
structure PM (m : List (ByteArray × β)) (q : ByteArray → Prop) (n : Nat) : Prop where
  nodup : (keysM m).Nodup
  mem : ∀ y, y ∈ keysM m ↔ q y
  len : m.length ≤ n
theorem PM.put {m : List (ByteArray × β)} {q : ByteArray → Prop} {n : Nat} (h : PM m q n) (k : ByteArray) (v : β) : PM (mput keq m k v) (fun y => y = k ∨ q y) (n + 1) := by
  refine ⟨?_, fun y => ?_, Nat.le_trans (mput_len m k v) (by have := h.len; omega)⟩
  · rcases keys_mput m k v with ⟨hk, e⟩ | ⟨hk, e⟩ <;> rw [e]
    · exact h.nodup
    · refine List.pairwise_append.2 ⟨h.nodup, by simp, fun a ha b hb e => hk ?_⟩
      rw [List.mem_singleton] at hb
      rw [← hb, ← e]; exact ha
  · rcases keys_mput m k v with ⟨hk, e⟩ | ⟨hk, e⟩ <;> rw [e]
    · rw [h.mem]
      exact ⟨.inr, fun z => z.elim (fun e => by rw [e]; exact (h.mem k).1 hk) id⟩
    · rw [List.mem_append, List.mem_singleton, h.mem]; exact or_comm
theorem PM.congr {m : List (ByteArray × β)} {q q' : ByteArray → Prop} {n n' : Nat} (h : PM m q n) (e : ∀ y, q y ↔ q' y) (hn : n ≤ n') : PM m q' n' := ⟨h.nodup, fun y => (h.mem y).trans (e y), Nat.le_trans h.len hn⟩
theorem keysOf_eq (m : List (ByteArray × β)) : keysOf m = (keysM m).map (fun s => s.data.toList) := by unfold keysOf keysM; rw [List.map_map]; rfl
theorem sortedKeys_spec {m : List (ByteArray × β)} {q : ByteArray → Prop} {n : Nat} (h : PM m q n) (hn : n ≤ 100000) (hs : ∀ y, q y → y.size ≤ 200) : ∃ r, sortedKeys (some m) = some r ∧ AscS r ∧ (∀ y, y ∈ r ↔ q y) ∧ r.length ≤ n := by
  have hl := h.len
  refine ⟨((keysOf m).mergeSort leB).map fun l => (⟨l.toArray⟩ : ByteArray), ?_, ?_, fun y => ?_, ?_⟩
  · refine if_pos ⟨by omega, fun p hp => ?_⟩
    have := hs p.1 ((h.mem p.1).1 (List.mem_map_of_mem hp))
    unfold maxLen; omega
  · have tr : ∀ a b c : List UInt8, leB a b = true → leB b c = true → leB a c = true := fun a b c h1 h2 => by simp only [leB, decide_eq_true_eq] at *; exact List.le_trans h1 h2
    have tot : ∀ a b : List UInt8, (leB a b || leB b a) = true := fun a b => by simp only [leB, Bool.or_eq_true, decide_eq_true_eq]; exact List.le_total a b
    have h1 := List.pairwise_mergeSort tr tot (keysOf m)
    have h2 : ((keysOf m).mergeSort leB).Nodup := (List.mergeSort_perm _ leB).nodup_iff.2 (by
      rw [keysOf_eq]
      exact List.pairwise_map.2 (h.nodup.imp fun {a b} hne e => hne (bytes_ext e)))
    have h2 : ((keysOf m).mergeSort leB).Pairwise fun a b => a ≠ b := h2
    refine List.pairwise_map.2 ((h1.and h2).imp fun {a b} ⟨q1, q2⟩ => ?_)
    unfold lt
    show a.toArray.toList < b.toArray.toList
    rw [List.toList_toArray, List.toList_toArray]
    simp only [leB, decide_eq_true_eq] at q1
    rcases List.le_iff_lt_or_eq.1 q1 with z | z
    · exact z
    · exact absurd z q2
  · rw [List.mem_map]
    constructor
    · rintro ⟨x, hx, rfl⟩
      have hx := (List.mergeSort_perm _ leB).mem_iff.1 hx
      rw [keysOf_eq] at hx
      obtain ⟨s, hs', rfl⟩ := List.mem_map.1 hx
      have e : (⟨s.data.toList.toArray⟩ : ByteArray) = s := mkB_of s
      rw [e]; exact (h.mem s).1 hs'
    · intro hq
      exact ⟨y.data.toList, (List.mergeSort_perm _ leB).mem_iff.2 (by rw [keysOf_eq]; exact List.mem_map_of_mem (f := fun s : ByteArray => s.data.toList) ((h.mem y).2 hq)), mkB_of y⟩
  · rw [List.length_map, (List.mergeSort_perm _ leB).length_eq]
    unfold keysOf
    rw [List.length_map]; exact hl
end Go.Proofs.YtonfimidgbppeaaGreatDoor.Ev.Pth

namespace Go.Proofs.YtonfimidgbppeaaGreatDoor.Ev
open Go Go.RowKit
set_option linter.unusedVariables false
set_option linter.unusedSimpArgs false
variable {ι R α X : Type} {l : ι → Nat}
/-! ### a path, of the reference of chapter 2 -/
def eB (a b c d e f i : Bool) : Bool := bif a then (bif b then (bif c then i else bif d then i else false) else bif e then (bif c then i else bif d then i else false) else false) else bif f then (bif b then (bif c then i else bif d then i else false) else bif e then (bif c then i else bif d then i else false) else false) else false
theorem eB_pb (n : _root_.Fin 256) : eB (ilt (n : Nat) 97) (ilt (n : Nat) 65) (ilt (n : Nat) 48) (igt (n : Nat) 57) (igt (n : Nat) 90) (igt (n : Nat) 122) (ilt (Lib.indexByte [46, 95, 45, 43] (((n : Nat) : Int).toNat.toUInt8)) 0) = bnot (Pth.pb ((n : Nat) : Int)) := by
  revert n; decide +kernel
def nestE (k : Nat) (b : Int) (G : Bool → Option Bool) : Option Bool := cnd (ilt b 97) (cnd (ilt b 65) (cnd (ilt b 48) (bnd (S145 k ((⟨#[46, 95, 45, 43]⟩ : ByteArray), b, ())) (fun (a6 : Int) => G (ilt a6 0))) (cnd (igt b 57) (bnd (S145 k ((⟨#[46, 95, 45, 43]⟩ : ByteArray), b, ())) (fun (a6 : Int) => G (ilt a6 0))) (G false))) (cnd (igt b 90) (cnd (ilt b 48) (bnd (S145 k ((⟨#[46, 95, 45, 43]⟩ : ByteArray), b, ())) (fun (a6 : Int) => G (ilt a6 0))) (cnd (igt b 57) (bnd (S145 k ((⟨#[46, 95, 45, 43]⟩ : ByteArray), b, ())) (fun (a6 : Int) => G (ilt a6 0))) (G false))) (G false))) (cnd (igt b 122) (cnd (ilt b 65) (cnd (ilt b 48) (bnd (S145 k ((⟨#[46, 95, 45, 43]⟩ : ByteArray), b, ())) (fun (a6 : Int) => G (ilt a6 0))) (cnd (igt b 57) (bnd (S145 k ((⟨#[46, 95, 45, 43]⟩ : ByteArray), b, ())) (fun (a6 : Int) => G (ilt a6 0))) (G false))) (cnd (igt b 90) (cnd (ilt b 48) (bnd (S145 k ((⟨#[46, 95, 45, 43]⟩ : ByteArray), b, ())) (fun (a6 : Int) => G (ilt a6 0))) (cnd (igt b 57) (bnd (S145 k ((⟨#[46, 95, 45, 43]⟩ : ByteArray), b, ())) (fun (a6 : Int) => G (ilt a6 0))) (G false))) (G false))) (G false))
theorem nestE_eq (k : Nat) (b : UInt8) (G : Bool → Option Bool) : nestE k (b.toNat : Int) G = G (bnot (Pth.pb (b.toNat : Int))) := by
  have hb := eB_pb ⟨b.toNat, b.toNat_lt⟩
  dsimp only at hb
  rw [← hb]
  have hi : bnd (S145 k ((⟨#[46, 95, 45, 43]⟩ : ByteArray), (b.toNat : Int), ())) (fun a6 => G (ilt a6 0)) = G (ilt (Lib.indexByte [46, 95, 45, 43] ((b.toNat : Int).toNat.toUInt8)) 0) := rfl
  unfold nestE
  simp only [hi]
  generalize ilt (Lib.indexByte [46, 95, 45, 43] ((b.toNat : Int).toNat.toUInt8)) 0 = i
  generalize ilt (b.toNat : Int) 97 = c1
  generalize ilt (b.toNat : Int) 65 = c2
  generalize ilt (b.toNat : Int) 48 = c3
  generalize igt (b.toNat : Int) 57 = c4
  generalize igt (b.toNat : Int) 90 = c5
  generalize igt (b.toNat : Int) 122 = c6
  cases c1 <;> cases c2 <;> cases c3 <;> cases c4 <;> cases c5 <;> cases c6 <;> rfl
theorem nest_spec (b : UInt8) (kk : ι → Nat) {F : ι → Option Bool} {r : Bool} (hF : Ult l F r) : Ult l (fun i => nestE (kk i) (b.toNat : Int) (fun a5 => cnd a5 (some false) (F i))) (Pth.pb (b.toNat : Int) && r) := by
  refine Ult.congr (f := fun i => cnd (bnot (Pth.pb (b.toNat : Int))) (some false) (F i)) ?_ fun i => nestE_eq (kk i) b _
  cases Pth.pb (b.toNat : Int) with
  | true => exact Ult.no rfl (hF.eq (by simp))
  | false => exact Ult.yes rfl (Ult.ret.eq (by simp))
/-! ### names -/
def nb (b : UInt8) : Bool := decide (97 ≤ b.toNat ∧ b.toNat ≤ 122) || (decide (48 ≤ b.toNat ∧ b.toNat ≤ 57) || decide (b.toNat = 95))
def wordsL : List ByteArray := [⟨#[109, 97, 99, 114, 111]⟩, ⟨#[102, 111, 114]⟩, ⟨#[105, 110]⟩, ⟨#[105, 102]⟩, ⟨#[101, 108, 115, 101]⟩, ⟨#[117, 115, 101]⟩, ⟨#[102, 105, 108, 101, 115]⟩, ⟨#[99, 104, 111, 111, 115, 101]⟩]
def isSmL : List UInt8 → Bool
  | [] => false
  | b :: _ => decide (97 ≤ b.toNat ∧ b.toNat ≤ 122)
theorem isSmL_get : ∀ (L : List UInt8) (h : 0 < L.length), isSmL L = decide (97 ≤ (L[0]'h).toNat ∧ (L[0]'h).toNat ≤ 122)
  | [], h => by simp at h
  | b :: r, h => rfl
def isSm (s : ByteArray) : Bool := isSmL s.data.toList
def isNm (s : ByteArray) : Bool := decide (1 ≤ s.size ∧ s.size ≤ 40) && (isSm s && (s.data.toList.all nb && bnot (memB wordsL s)))
theorem isSm_get {s : ByteArray} (h : 0 < s.size) : isSm s = decide (97 ≤ (s.data.toList[0]'(by simpa using h)).toNat ∧ (s.data.toList[0]'(by simpa using h)).toNat ≤ 122) := isSmL_get _ _
theorem small_spec (b : UInt8) : Ultk (fun k => S147 k ((b.toNat : Int), ())) (decide (97 ≤ b.toNat ∧ b.toNat ≤ 122)) := by
  unfold S147
  by_cases h : 97 ≤ b.toNat
  · exact Ult.yes (by rw [ige_eq]; exact decide_eq_true (by omega)) (Ult.ret.eq (by rw [ile_eq, decide_eq_decide]; omega))
  · exact Ult.no (by rw [ige_eq]; exact decide_eq_false (by omega)) (Ult.ret.eq (by rw [decide_eq_false (by omega)]))
theorem digit_spec (b : UInt8) : Ultk (fun k => S148 k ((b.toNat : Int), ())) (decide (48 ≤ b.toNat ∧ b.toNat ≤ 57)) := by
  unfold S148
  by_cases h : 48 ≤ b.toNat
  · exact Ult.yes (by rw [ige_eq]; exact decide_eq_true (by omega)) (Ult.ret.eq (by rw [ile_eq, decide_eq_decide]; omega))
  · exact Ult.no (by rw [ige_eq]; exact decide_eq_false (by omega)) (Ult.ret.eq (by rw [decide_eq_false (by omega)]))
theorem split_words : Ultk (fun k => S89 k ((⟨#[109, 97, 99, 114, 111, 32, 102, 111, 114, 32, 105, 110, 32, 105, 102, 32, 101, 108, 115, 101, 32, 117, 115, 101, 32, 102, 105, 108, 101, 115, 32, 99, 104, 111, 111, 115, 101]⟩ : ByteArray), (⟨#[32]⟩ : ByteArray), ())) wordsL := ⟨0, fun k _ => by
  unfold S89
  rw [if_pos ⟨by decide, show 1 ≤ (⟨#[32]⟩ : ByteArray).size by decide⟩]
  exact congrArg some ((split_one 32 _).trans (by decide +kernel))⟩
theorem wordsP_spec : Ultk (fun k => S149 k ()) wordsL := by
  unfold S149
  exact Ult.ret
theorem nameP_spec (s : ByteArray) : Ultk (fun k => S93 k (s, ())) (isNm s) := by
  unfold S93 isNm
  refine Ult.jn ?_
  dsimp only
  by_cases h1 : s.size < 1
  · exact Ult.yes (by simp only [ilt_eq, ssz, decide_eq_true_eq]; omega) (Ult.ret.eq (by rw [decide_eq_false (by omega : ¬ (1 ≤ s.size ∧ s.size ≤ 40))]; rfl))
  refine Ult.no (by simp only [ilt_eq, ssz, decide_eq_false_iff_not]; omega) ?_
  by_cases h2 : 40 < s.size
  · exact Ult.yes (by simp only [igt_eq, ssz, decide_eq_true_eq]; omega) (Ult.ret.eq (by rw [decide_eq_false (by omega : ¬ (1 ≤ s.size ∧ s.size ≤ 40))]; rfl))
  refine Ult.no (by simp only [igt_eq, ssz, decide_eq_false_iff_not]; omega) ?_
  rw [decide_eq_true (show 1 ≤ s.size ∧ s.size ≤ 40 by omega), Bool.true_and]
  have h0 : 0 < s.size := by omega
  have hb0 : bt? s 0 = some (((s.data.toList[0]'(by simpa using h0)).toNat : Nat) : Int) := by
    rw [show bt? s 0 = some (bt s ((0 : Nat) : Int)) from Pth.bt?_get (j := 0) h0, Pth.bt_get (j := 0) h0]
  rw [isSm_get h0]
  refine Ult.bindc hb0 (Ult.bind (small_spec _) ?_)
  cases decide (97 ≤ (s.data.toList[0]'(by simpa using h0)).toNat ∧ (s.data.toList[0]'(by simpa using h0)).toNat ≤ 122) with
  | false => exact Ult.yes rfl Ult.ret
  | true =>
    refine Ult.no rfl ?_
    rw [Bool.true_and]
    refine (Ult.forI (fun _ => Nat.le_refl _) s.size (fun j => (s.data.toList.drop j).all nb && bnot (memB wordsL s)) fun j hj next => ?_).eq (by rw [List.drop_zero])
    rw [Pth.iltS]
    by_cases hlt : j < s.size
    · have hl : j < s.data.toList.length := by simpa using hlt
      have hbj := Pth.bt?_get hlt
      rw [Pth.bt_get hlt] at hbj
      refine Ult.yes (decide_eq_true hlt) (Ult.bindc hbj ?_)
      rw [isucc hlt (by omega)]
      have nx := next hlt
      rw [drop_cons hl, List.all_cons]
      generalize s.data.toList[j] = b at *
      refine Ult.bind (Ult.call (f := fun k => S147 k ((b.toNat : Int), ())) (lp_le _ _ fun _ => Nat.le_refl _) (small_spec b)) ?_
      by_cases s1 : 97 ≤ b.toNat ∧ b.toNat ≤ 122
      · have : nb b = true := by unfold nb; rw [decide_eq_true s1]; rfl
        rw [decide_eq_true s1, this]
        exact Ult.no rfl nx
      rw [decide_eq_false s1]
      refine Ult.yes rfl (Ult.bindc hbj (Ult.bind (Ult.call (f := fun k => S148 k ((b.toNat : Int), ())) (lp_le _ _ fun _ => Nat.le_refl _) (digit_spec b)) ?_))
      by_cases s2 : 48 ≤ b.toNat ∧ b.toNat ≤ 57
      · have : nb b = true := by unfold nb; rw [decide_eq_true s2]; simp
        rw [decide_eq_true s2, this]
        exact Ult.no rfl nx
      rw [decide_eq_false s2]
      refine Ult.yes rfl (Ult.bindc hbj ?_)
      by_cases s3 : b.toNat = 95
      · have : nb b = true := by unfold nb; rw [decide_eq_true s3]; simp
        rw [this]
        exact Ult.no (by rw [ine_eq]; exact decide_eq_false (by omega)) nx
      · have : nb b = false := by unfold nb; rw [decide_eq_false s1, decide_eq_false s2, decide_eq_false s3]; rfl
        rw [this]
        exact Ult.yes (by rw [ine_eq]; exact decide_eq_true (by omega)) Ult.ret
    · refine Ult.no (decide_eq_false hlt) ?_
      rw [List.drop_eq_nil_of_le (by simp; omega), List.all_nil, Bool.true_and]
      refine Ult.bind (Ult.call (f := fun k => S149 k ()) (lp_le _ _ fun _ => Nat.le_refl _) wordsP_spec) ?_
      exact Ult.bind (Ult.call (f := fun k => S61 k (wordsL, s, ())) (lp_le _ _ fun _ => Nat.le_refl _) (S61_spec wordsL s (by decide))) Ult.ret
end Go.Proofs.YtonfimidgbppeaaGreatDoor.Ev

namespace Go.Proofs.YtonfimidgbppeaaGreatDoor.Ev
open Go Go.RowKit
set_option linter.unusedVariables false
set_option linter.unusedSimpArgs false
variable {ι R α X : Type} {l : ι → Nat}
abbrev Attr : Type := ByteArray × V1
abbrev Target : Type := ByteArray × ByteArray × List Attr
def AttrsSz (A : List Attr) : Prop := A.length * 96 ≤ 140737488351232 ∧ ∀ a ∈ A, a.1.size ≤ 140737488351232 ∧ V1Sz a.2
def TgtSz (t : Target) : Prop := t.1.size ≤ 140737488351232 ∧ t.2.1.size ≤ 140737488351232 ∧ AttrsSz t.2.2
theorem AttrsSz.len {A : List Attr} (h : AttrsSz A) : A.length ≤ 9223372036854775807 := by have := len_big h.1 (by omega); omega
def chkAttrs : Option ByteArray → List Attr → Int
  | _, [] => 0
  | prev, a :: r => if isNm a.1 = false then 5 else if chk1 a.2 ≠ 0 then chk1 a.2 else if notAbove prev a.1 = true then 8 else chkAttrs (some a.1) r
def nmB : ByteArray := ⟨#[110, 97, 109, 101]⟩
def kdB : ByteArray := ⟨#[107, 105, 110, 100]⟩
def badName (a : Attr) : Bool := decide (a.1 = nmB) || decide (a.1 = kdB)
def chkTarget (t : Target) : Int := if Pth.isPathD t.1 = false then 3 else if isNm t.2.1 = false then 5 else if 30 < t.2.2.length then 2 else if chkAttrs none t.2.2 ≠ 0 then chkAttrs none t.2.2 else if t.2.2.any badName = true then 5 else 0
theorem order_stepA {A : List (ByteArray × α)} {j : Nat} (hlt : j < A.length) (hA : A.length ≤ 9223372036854775807) {rest : Int} {f : ι → Option Int} (nx : Ult l f rest) :
    Ult l (fun i => cnd (igt (j : Int) 0) (bnd (at? A (isub .i64 (j : Int) 1)) fun a => cnd (sle A[j].1 a.1) (some 8) (f i)) (f i)) (if notAbove (prevOf A j) A[j].1 = true then 8 else rest) := by
  rw [igt0]
  by_cases h0 : 0 < j
  · refine Ult.yes (decide_eq_true h0) ?_
    rw [ipred (n := A.length) h0 (by omega) (by omega)]
    refine Ult.bindc (at?_nat (show j - 1 < A.length by omega)) ?_
    have hp : prevOf A j = some A[j - 1].1 := by unfold prevOf; rw [dif_pos ⟨h0, by omega⟩]
    rw [hp]
    exact Ult.ifS (dec_true _) (fun _ => Ult.ret) fun _ => nx
  · refine Ult.no (decide_eq_false h0) ?_
    have : j = 0 := by omega
    subst this
    rw [prevOf_zero, if_neg (by simp [notAbove])]
    exact nx
theorem chkAttrs_step {A : List Attr} {j : Nat} (h : j < A.length) : chkAttrs (prevOf A j) (A.drop j) = if isNm A[j].1 = false then 5 else if chk1 A[j].2 ≠ 0 then chk1 A[j].2 else if notAbove (prevOf A j) A[j].1 = true then 8 else chkAttrs (prevOf A (j + 1)) (A.drop (j + 1)) := by
  rw [drop_cons h, chkAttrs, prevOf_succ h]
theorem attr_loop {kk : ι → Nat} (hk : ∀ i, l i ≤ kk i) (A : List Attr) (hA : AttrsSz A) (nmf : ι → ByteArray → Option Bool) (cv : ι → V1 → Option Int) (hn : ∀ s, Ult l (fun i => nmf i s) (isNm s)) (hc : ∀ v, V1Sz v → Ult l (fun i => cv i v) (chk1 v)) {y : ι → Option Int} {r : Int} (hy : Ult l y r) :
    Ult l (fun i => loopN (kk i) (fun (a4 : Int → Option Int) (a5 : Int) => cnd (ilt a5 (len A)) (bnd (at? A a5) fun a6 => bnd (nmf i a6.1) fun a7 => cnd (bnot a7) (some 5) (bnd (cv i (a6.2.1, a6.2.2.1, a6.2.2.2.1, a6.2.2.2.2.1, a6.2.2.2.2.2)) fun a8 => cnd (ine a8 0) (some a8) (cnd (igt a5 0) (bnd (at? A (isub .i64 a5 1)) fun a9 => cnd (sle a6.1 a9.1) (some 8) (a4 (iadd .i64 a5 1))) (a4 (iadd .i64 a5 1))))) (y i)) 0)
      (if chkAttrs none A ≠ 0 then chkAttrs none A else r) := by
  have hl := hA.len
  refine (Ult.forI hk A.length (fun j => if chkAttrs (prevOf A j) (A.drop j) ≠ 0 then chkAttrs (prevOf A j) (A.drop j) else r) fun j hj next => ?_).eq (by rw [List.drop_zero, prevOf_zero])
  rw [iltL]
  by_cases hlt' : ¬ j < A.length
  · refine Ult.no (decide_eq_false hlt') ((Ult.lift hy).eq ?_)
    have e : chkAttrs (prevOf A j) (A.drop j) = 0 := by
      rw [List.drop_eq_nil_of_le (by omega)]
      cases prevOf A j <;> rfl
    rw [e, if_neg (fun q => q rfl)]
  have hlt : j < A.length := Decidable.not_not.1 hlt'
  refine Ult.yes (decide_eq_true hlt) (Ult.bindc (at?_nat hlt) ?_)
  rw [isucc hlt hl]
  have nx := next hlt
  clear next
  rw [chkAttrs_step hlt]
  refine Ult.bind (Ult.lift (hn A[j].1)) ?_
  cases h1 : isNm A[j].1 with
  | false => exact Ult.yes rfl (Ult.ret.eq (by simp))
  | true =>
    refine Ult.no rfl (Ult.bind (Ult.lift (hc A[j].2 (hA.2 _ (List.getElem_mem hlt)).2)) ?_)
    have e0 : ∀ x : Int, (if true = false then (5 : Int) else x) = x := fun x => rfl
    rw [e0]
    by_cases h2 : chk1 A[j].2 ≠ 0
    · rw [if_pos h2, if_pos h2]
      exact Ult.yes (by rw [ine_eq]; exact decide_eq_true h2) Ult.ret
    rw [if_neg h2]
    refine Ult.no (by rw [ine_eq]; exact decide_eq_false h2) ?_
    refine (order_stepA hlt hl nx).eq ?_
    cases notAbove (prevOf A j) A[j].1 with
    | true => simp
    | false => simp
/-! ### the program -/
theorem attrs_idx {kk : ι → Nat} (hk : ∀ i, l i ≤ kk i) (L : List Attr) (f : ι → Attr → Option Bool) (p : Attr → Bool) (hf : ∀ a ∈ L, Ult l (fun i => f i a) (p a)) (hL : L.length ≤ 9223372036854775807) : Ult l (fun i => S94 (kk i) (L, f i, ())) (L.any p) := by
  unfold S94
  refine Ult.bind ?_ (Ult.ret.eq idxF_any)
  unfold S150
  exact idx_loop hk L f p hf hL
theorem target_prog (t : Target) (h : TgtSz t) : Ultk (fun k => S53 k (t, ())) (chkTarget t) := by
  unfold S53 chkTarget
  dsimp only
  refine Ult.bind (Pth.isPath_spec t.1) (Ult.ifS (not_false_eq _) (fun _ => Ult.ret) fun _ => ?_)
  refine Ult.bind (nameP_spec t.2.1) (Ult.ifS (not_false_eq _) (fun _ => Ult.ret) fun _ => ?_)
  refine Ult.ifS (by rw [igt_eq]; unfold len; simp only [decide_eq_decide]; omega) (fun _ => Ult.ret) fun _ => ?_
  refine attr_loop (l := fun k : Nat => k) (kk := fun k => k) (fun _ => Nat.le_refl _) t.2.2 h.2.2 (fun k s => S93 k (s, ())) (fun k v => S40 k (v, ())) nameP_spec chk1_prog ?_
  refine Ult.bind (attrs_idx (l := fun k : Nat => k) (kk := fun k => k) (fun _ => Nat.le_refl _) t.2.2 (fun k a => S95 k (a, ())) badName (fun a _ => ?_) h.2.2.len) (Ult.ifS (dec_true _) (fun _ => Ult.ret) fun _ => Ult.ret)
  unfold S95 badName
  dsimp only
  by_cases e : a.1 = nmB
  · exact Ult.yes (by rw [seq_eq]; exact decide_eq_true e) (Ult.ret.eq (by rw [decide_eq_true e]; rfl))
  · exact Ult.no (by rw [seq_eq]; exact decide_eq_false e) (Ult.ret.eq (by rw [decide_eq_false e, Bool.false_or, seq_eq]; rfl))
/-! ### the reference -/
/-! ### what a right target is -/
theorem chkAttrs_zero : ∀ {A : List Attr} {prev : Option ByteArray}, chkAttrs prev A = 0 → ∀ a ∈ A, isNm a.1 = true ∧ chk1 a.2 = 0
  | [], _, _, a, ha => by cases ha
  | b :: r, prev, h, a, ha => by
    rw [chkAttrs] at h
    split at h
    · cases h
    rename_i h1
    split at h
    · rename_i q; exact absurd h q
    rename_i h2
    split at h
    · cases h
    rcases List.mem_cons.1 ha with rfl | ha
    · exact ⟨by simpa using h1, Decidable.not_not.1 h2⟩
    · exact chkAttrs_zero h a ha
theorem chkTarget_zero {t : Target} (h : chkTarget t = 0) : t.2.2.length ≤ 30 ∧ ∀ a ∈ t.2.2, chk1 a.2 = 0 := by
  unfold chkTarget at h
  split at h
  · cases h
  split at h
  · cases h
  split at h
  · cases h
  rename_i h3
  split at h
  · rename_i q; exact absurd h q
  rename_i h4
  exact ⟨by omega, fun a ha => (chkAttrs_zero (Decidable.not_not.1 h4) a ha).2⟩
theorem flat_cases {v : V1} (h : chk1 v = 0) : ∀ c ∈ v.2.2.2.2, c.2.2.2.2.2 = 0 := fun q hq => by
  obtain ⟨z1, z2, z3⟩ := chk1_zero h
  by_cases hk : v.1 = 4
  · exact ((chkCases_zero (z2 hk)).2 q hq).2
  · rw [z1 hk] at hq; cases hq
/-- a target is equal to itself -/
theorem sameT_self (t : Target) (hl : t.2.2.length ≤ 9223372036854775807) (hv : ∀ a ∈ t.2.2, V1Sz a.2 ∧ ∀ c ∈ a.2.2.2.2.2, c.2.2.2.2.2 = 0) : Ultk (fun k => S23 k (t, t, ())) true := by
  unfold S23
  refine Ult.jn ?_
  dsimp only
  refine Ult.no (by rw [sne_eq]; simp) (Ult.no (by rw [sne_eq]; simp) (Ult.no (by rw [ine_eq]; simp) ?_))
  refine Ult.forI (fun _ => Nat.le_refl _) t.2.2.length (fun _ => true) fun j hj next => ?_
  rw [iltL]
  by_cases hlt' : ¬ j < t.2.2.length
  · exact Ult.no (decide_eq_false hlt') Ult.ret
  have hlt : j < t.2.2.length := Decidable.not_not.1 hlt'
  obtain ⟨q1, q2⟩ := hv _ (List.getElem_mem hlt)
  refine Ult.yes (decide_eq_true hlt) (Ult.bindc (at?_nat hlt) (Ult.bindc (at?_nat hlt) (Ult.no (by rw [sne_eq]; simp) (Ult.bindc (at?_nat hlt) (Ult.bindc (at?_nat hlt) ?_)))))
  refine Ult.bind (Ult.call (f := fun k => S13 k (t.2.2[j].2, t.2.2[j].2, ())) (lp_le _ _ fun _ => Nat.le_refl _) (same_self _ q1 q2)) ?_
  rw [isucc hlt hl]
  exact Ult.no rfl (next hlt)
end Go.Proofs.YtonfimidgbppeaaGreatDoor.Ev

namespace Go.Proofs.YtonfimidgbppeaaGreatDoor.Ev
open Go Go.RowKit
set_option linter.unusedVariables false
set_option linter.unusedSimpArgs false
variable {ι R α X : Type} {l : ι → Nat}
theorem upTo_succ (d : Array (List UInt8)) (m : Nat) : Lib.compactUpTo d (m + 1) = Lib.compactUpTo d m ++ (if Lib.keeps d m = true then [d[m]!] else []) := by
  unfold Lib.compactUpTo
  rw [List.range_succ, List.filter_append, List.map_append]
  congr 1
  cases h : Lib.keeps d m <;> simp [h]
theorem upTo_facts (d : Array (List UInt8)) (n : Nat) (hs : ∀ i j, i ≤ j → j < n → d[i]! ≤ d[j]!) : ∀ m, m ≤ n → (∀ x, x ∈ Lib.compactUpTo d m ↔ ∃ j, j < m ∧ d[j]! = x) ∧ (Lib.compactUpTo d m).Pairwise (fun a b => a < b)
  | 0, _ => ⟨fun x => by simp [Lib.compactUpTo], by simp [Lib.compactUpTo]⟩
  | m + 1, hm => by
    obtain ⟨h1, h2⟩ := upTo_facts d n hs m (by omega)
    rw [upTo_succ]
    by_cases hk : Lib.keeps d m = true
    · rw [if_pos hk]
      refine ⟨fun x => ?_, List.pairwise_append.2 ⟨h2, by simp, fun a ha b hb => ?_⟩⟩
      · rw [List.mem_append, h1, List.mem_singleton]
        constructor
        · rintro (⟨j, q1, q2⟩ | q)
          · exact ⟨j, by omega, q2⟩
          · exact ⟨m, by omega, q.symm⟩
        · rintro ⟨j, q1, q2⟩
          rcases Nat.lt_or_ge j m with q | q
          · exact .inl ⟨j, q, q2⟩
          · obtain rfl : j = m := by omega
            exact .inr q2.symm
      · rw [List.mem_singleton] at hb
        subst hb
        obtain ⟨j, q1, rfl⟩ := (h1 a).1 ha
        rcases Nat.eq_zero_or_pos m with e | e
        · omega
        · have hne : d[m]! ≠ d[m - 1]! := fun q => by
            have := Lib.keeps_neg (d := d) e q
            rw [this] at hk; cases hk
          have l1 := hs j (m - 1) (by omega) (by omega)
          have l2 := hs (m - 1) m (by omega) (by omega)
          rcases List.le_iff_lt_or_eq.1 l2 with z | z
          · exact List.lt_of_le_of_lt l1 z
          · exact absurd z.symm hne
    · rw [if_neg hk, List.append_nil]
      refine ⟨fun x => ?_, h2⟩
      rw [h1]
      constructor
      · rintro ⟨j, q1, q2⟩; exact ⟨j, by omega, q2⟩
      · rintro ⟨j, q1, q2⟩
        rcases Nat.lt_or_ge j m with q | q
        · exact ⟨j, q, q2⟩
        · obtain rfl : j = m := by omega
          rcases Nat.eq_zero_or_pos j with e | e
          · subst e
            exact absurd (Lib.keeps_lt_one d 0 (by omega)) hk
          · by_cases hq : d[j]! = d[j - 1]!
            · exact ⟨j - 1, by omega, by rw [← hq]; exact q2⟩
            · exact absurd (Lib.keeps_pos hq) hk
theorem cmpB_facts {S : List ByteArray} (hs : S.Pairwise fun a b => a.data.toList ≤ b.data.toList) : Pth.AscS (cmpB S) ∧ ∀ y, y ∈ cmpB S ↔ y ∈ S := by
  let zs : List (List UInt8) := S.map fun s => s.data.toList
  have hz : zs.length = S.length := by simp [zs]
  have hget : ∀ j (h : j < S.length), zs.toArray[j]! = S[j].data.toList := fun j h => by
    rw [getElem!_pos zs.toArray j (by simpa [zs] using h)]
    simp [zs]
  have hord : ∀ i j, i ≤ j → j < zs.length → zs.toArray[i]! ≤ zs.toArray[j]! := fun i j hij hj => by
    rw [hget i (by omega), hget j (by omega)]
    rcases Nat.lt_or_ge i j with q | q
    · exact List.pairwise_iff_getElem.1 hs i j (by omega) (by omega) q
    · obtain rfl : i = j := by omega
      exact List.le_refl _
  obtain ⟨f1, f2⟩ := upTo_facts zs.toArray zs.length hord zs.length (Nat.le_refl _)
  have e : cmpB S = (Lib.compactUpTo zs.toArray zs.length).map fun s => (⟨s.toArray⟩ : ByteArray) := rfl
  rw [e]
  refine ⟨List.pairwise_map.2 (f2.imp fun {a b} h => ?_), fun y => ?_⟩
  · show a.toArray.toList < b.toArray.toList
    simpa using h
  · rw [List.mem_map]
    constructor
    · rintro ⟨x, hx, rfl⟩
      obtain ⟨j, q1, rfl⟩ := (f1 x).1 hx
      rw [hget j (by omega)]
      have : (⟨S[j].data.toList.toArray⟩ : ByteArray) = S[j] := mkB_of S[j]
      rw [this]; exact List.getElem_mem _
    · intro hy
      obtain ⟨j, hj, rfl⟩ := List.getElem_of_mem hy
      exact ⟨S[j].data.toList, (f1 _).2 ⟨j, by omega, hget j hj⟩, mkB_of S[j]⟩
/-! ### a map of names -/
abbrev Mp : Type := List (ByteArray × Bool)
def addN (m : Mp) (ns : List ByteArray) : Mp := ns.foldl (fun m n => mput keq m n true) m
theorem addN_append (m : Mp) (a b : List ByteArray) : addN m (a ++ b) = addN (addN m a) b := List.foldl_append
theorem addN_pm : ∀ (L : List ByteArray) {m : Mp} {q : ByteArray → Prop} {n : Nat}, Pth.PM m q n → Pth.PM (addN m L) (fun y => y ∈ L ∨ q y) (n + L.length)
  | [], m, q, n, h => h.congr (fun y => by simp) (by simp)
  | a :: L, m, q, n, h => by
    refine (addN_pm L (h.put a true)).congr (fun y => ?_) (by simp; omega)
    rw [List.mem_cons, or_assoc]
    exact or_left_comm
theorem pm_nil : Pth.PM ([] : Mp) (fun _ => False) 0 := ⟨by simp [Pth.keysM], fun y => by simp [Pth.keysM], by simp⟩
def depS (L : List ByteArray) : List ByteArray := cmpB (L.mergeSort fun a b => decide (a.data.toList ≤ b.data.toList))
theorem mergeS_sorted (L : List ByteArray) : (L.mergeSort fun a b => decide (a.data.toList ≤ b.data.toList)).Pairwise fun a b => a.data.toList ≤ b.data.toList := by
  have := List.pairwise_mergeSort (le := fun a b : ByteArray => decide (a.data.toList ≤ b.data.toList)) (fun a b c h1 h2 => by simp only [decide_eq_true_eq] at *; exact List.le_trans h1 h2) (fun a b => by simp only [Bool.or_eq_true, decide_eq_true_eq]; exact List.le_total _ _) L
  exact this.imp fun {a b} h => by simpa using h
theorem depS_facts (L : List ByteArray) : Pth.AscS (depS L) ∧ ∀ y, y ∈ depS L ↔ y ∈ L := by
  obtain ⟨h1, h2⟩ := cmpB_facts (mergeS_sorted L)
  exact ⟨h1, fun y => (h2 y).trans (List.mergeSort_perm _ _).mem_iff⟩
theorem dep_same (L : List ByteArray) (hl : L.length ≤ 100000) (hs : ∀ y ∈ L, y.size ≤ 200) : sortedKeys (some (addN [] L)) = some (depS L) := by
  obtain ⟨r, r1, r2, r3, _⟩ := Pth.sortedKeys_spec (addN_pm L pm_nil) (by omega) (fun y hy => hs y (hy.resolve_right id))
  obtain ⟨h1, h2⟩ := depS_facts L
  rw [r1, r2.unique h1 fun y => by rw [r3, h2]; simp]
/-! ### the names on which a target depends -/
def needsC (M : List Condition) (c : Case) : List ByteArray := (condAns M c.1).1.2.1.map (·.1)
def depL (M : List Condition) (A : List Attr) : List ByteArray := A.flatMap fun a => a.2.2.2.2.2.flatMap (needsC M)
def depE (M : List Condition) : List Attr → Int
  | [] => 0
  | a :: r => if chkNames M a.2.2.2.2.2 ≠ 0 then chkNames M a.2.2.2.2.2 else depE M r
theorem loopA_prog {kk : ι → Nat} (hk : ∀ i, l i ≤ kk i) (N : List Pair) (hN : N.length ≤ 9223372036854775807) (m : Mp) {y : ι → Mp → Option R} {r : R} (hy : Ult l (fun i => y i (addN m (N.map (·.1)))) r) :
    Ult l (fun i => loopN (kk i) (fun (a12 : Int × Mp → Option R) (a13 : Int × Mp) => cnd (ilt a13.1 (len N)) (bnd (at? N a13.1) fun a14 => a12 (iadd .i64 a13.1 1, mput keq a13.2 a14.1 true)) (y i a13.2)) (0, m)) r := by
  refine Ult.forA (A := Mp) hk N.length (fun a j => ((j : Int), a)) (fun a j => a = addN m ((N.take j).map (·.1))) (fun _ _ => r) m (by rw [List.take_zero]; rfl) fun a j hj ha next => ?_
  dsimp only
  rw [iltL]
  by_cases hlt' : ¬ j < N.length
  · refine Ult.no (decide_eq_false hlt') ?_
    rw [List.take_of_length_le (by omega)] at ha
    rw [ha]; exact Ult.lift hy
  have hlt : j < N.length := Decidable.not_not.1 hlt'
  refine Ult.yes (decide_eq_true hlt) (Ult.bindc (at?_nat hlt) ?_)
  rw [isucc hlt hN]
  refine next _ hlt ?_
  rw [List.take_succ_eq_append_getElem hlt, List.map_append, addN_append, ← ha]
  rfl
theorem loopB_prog {kk : ι → Nat} (hk : ∀ i, l i ≤ kk i) (M : List Condition) (hM : ∀ m ∈ M, m.2.1.length ≤ 30) (cs : List Case) (hcs : cs.length ≤ 9223372036854775807) (m : Mp) (cf : ι → ByteArray → Option (Condition × Bool)) (hcf : ∀ n, Ult l (fun i => cf i n) (condAns M n)) {y : ι → Mp → Option R} {r : R} (hy : Ult l (fun i => y i (addN m (cs.flatMap (needsC M)))) r) :
    Ult l (fun i => loopN (kk i) (fun (a8 : Int × Mp → Option R) (a9 : Int × Mp) => cnd (ilt a9.1 (len cs)) (bnd (at? cs a9.1) fun a10 => bnd (cf i a10.1) fun a11 => loopN (kk i) (fun (a12 : Int × Mp → Option R) (a13 : Int × Mp) => cnd (ilt a13.1 (len a11.1.2.1)) (bnd (at? a11.1.2.1 a13.1) fun a14 => a12 (iadd .i64 a13.1 1, mput keq a13.2 a14.1 true)) (a8 (iadd .i64 a9.1 1, a13.2))) (0, a9.2)) (y i a9.2)) (0, m)) r := by
  refine Ult.forA (A := Mp) hk cs.length (fun a j => ((j : Int), a)) (fun a j => a = addN m ((cs.take j).flatMap (needsC M))) (fun _ _ => r) m (by rw [List.take_zero]; rfl) fun a j hj ha next => ?_
  dsimp only
  rw [iltL]
  by_cases hlt' : ¬ j < cs.length
  · refine Ult.no (decide_eq_false hlt') ?_
    rw [List.take_of_length_le (by omega)] at ha
    rw [ha]; exact Ult.lift hy
  have hlt : j < cs.length := Decidable.not_not.1 hlt'
  refine Ult.yes (decide_eq_true hlt) (Ult.bindc (at?_nat hlt) (Ult.bind (Ult.lift (hcf cs[j].1)) ?_))
  have hN : (condAns M cs[j].1).1.2.1.length ≤ 30 := by
    unfold condAns
    cases hc : condOf M cs[j].1 with
    | none => simp
    | some c => exact hM c (condOf_mem hc).1
  refine loopA_prog (l := lp l) (kk := fun p => kk p.1) (lp_le _ _ hk) _ (by omega) a (y := fun p m' => loopN p.2 _ (iadd .i64 (j : Int) 1, m')) ?_
  rw [isucc hlt hcs]
  refine next _ hlt ?_
  rw [List.take_succ_eq_append_getElem hlt, List.flatMap_append, addN_append, ← ha]
  simp [needsC]
theorem loopC_prog {kk : ι → Nat} (hk : ∀ i, l i ≤ kk i) (M : List Condition) (hM : ∀ m ∈ M, m.2.1.length ≤ 30) (A : List Attr) (hA : AttrsSz A) (cf : ι → ByteArray → Option (Condition × Bool)) (hcf : ∀ n, Ult l (fun i => cf i n) (condAns M n)) (nf : ι → V1 → Option Int) (hnf : ∀ v, v.2.2.2.2.length ≤ 9223372036854775807 → Ult l (fun i => nf i v) (chkNames M v.2.2.2.2))
    {y : ι → Mp → Option (List ByteArray × Int)} {r : List ByteArray × Int} (hy : Ult l (fun i => y i (addN [] (depL M A))) r) :
    Ult l (fun i => loopN (kk i) (fun (a4 : Int × Mp → Option (List ByteArray × Int)) (a5 : Int × Mp) => cnd (ilt a5.1 (len A)) (bnd (at? A a5.1) fun a6 => bnd (nf i (a6.2.1, a6.2.2.1, a6.2.2.2.1, a6.2.2.2.2.1, a6.2.2.2.2.2)) fun a7 => cnd (ine a7 0) (some ([], a7)) (loopN (kk i) (fun (a8 : Int × Mp → Option (List ByteArray × Int)) (a9 : Int × Mp) => cnd (ilt a9.1 (len a6.2.2.2.2.2)) (bnd (at? a6.2.2.2.2.2 a9.1) fun a10 => bnd (cf i a10.1) fun a11 => loopN (kk i) (fun (a12 : Int × Mp → Option (List ByteArray × Int)) (a13 : Int × Mp) => cnd (ilt a13.1 (len a11.1.2.1)) (bnd (at? a11.1.2.1 a13.1) fun a14 => a12 (iadd .i64 a13.1 1, mput keq a13.2 a14.1 true)) (a8 (iadd .i64 a9.1 1, a13.2))) (0, a9.2)) (a4 (iadd .i64 a5.1 1, a9.2))) (0, a5.2))) (y i a5.2)) (0, []))
      (if depE M A ≠ 0 then ([], depE M A) else r) := by
  have hl := hA.len
  refine (Ult.forA (A := Mp) hk A.length (fun a j => ((j : Int), a)) (fun a j => a = addN [] (depL M (A.take j))) (fun _ j => if depE M (A.drop j) ≠ 0 then ([], depE M (A.drop j)) else r) [] (by rw [List.take_zero]; rfl) fun a j hj ha next => ?_).eq (by rw [List.drop_zero])
  dsimp only
  rw [iltL]
  by_cases hlt' : ¬ j < A.length
  · refine Ult.no (decide_eq_false hlt') ?_
    rw [List.take_of_length_le (by omega)] at ha
    rw [ha, List.drop_eq_nil_of_le (by omega)]
    exact Ult.lift hy
  have hlt : j < A.length := Decidable.not_not.1 hlt'
  have hcl := cases_len (hA.2 _ (List.getElem_mem hlt)).2.2.2
  refine Ult.yes (decide_eq_true hlt) (Ult.bindc (at?_nat hlt) (Ult.bind (Ult.lift (hnf A[j].2 hcl)) ?_))
  rw [drop_cons hlt, depE]
  by_cases hn : chkNames M A[j].2.2.2.2.2 ≠ 0
  · rw [if_pos hn, if_pos hn]
    exact Ult.yes (by rw [ine_eq]; exact decide_eq_true hn) Ult.ret
  rw [if_neg hn]
  refine Ult.no (by rw [ine_eq]; exact decide_eq_false hn) ?_
  refine loopB_prog (l := lp l) (kk := fun p => kk p.1) (lp_le _ _ hk) M hM _ hcl a (fun p n => cf p.1 n) (fun n => Ult.lift (hcf n)) (y := fun p m' => loopN p.2 _ (iadd .i64 (j : Int) 1, m')) ?_
  rw [isucc hlt hl]
  refine next _ hlt ?_
  rw [List.take_succ_eq_append_getElem hlt]
  unfold depL at ha ⊢
  rw [List.flatMap_append, addN_append, ← ha]
  simp
end Go.Proofs.YtonfimidgbppeaaGreatDoor.Ev

namespace Go.Proofs.YtonfimidgbppeaaGreatDoor.Ev
open Go Go.RowKit
set_option linter.unusedVariables false
set_option linter.unusedSimpArgs false
variable {ι R α X : Type} {l : ι → Nat}
theorem loopA_ref {kk : ι → Nat} (hk : ∀ i, l i ≤ kk i) (N : List Pair) (acc : List ByteArray) (hN : acc.length + N.length ≤ 1000000) {y : ι → List ByteArray → Option R} {r : R} (hy : Ult l (fun i => y i (acc ++ N.map (·.1))) r) :
    Ult l (fun i => loopN (kk i) (fun (a12 : List ByteArray × Int → Option R) (a13 : List ByteArray × Int) => cnd (ilt a13.2 (len N)) (bnd (at? N a13.2) fun a14 => bnd (app? 16 a13.1 (a14.1 :: [])) fun a15 => a12 (a15, iadd .i64 a13.2 1)) (y i a13.1)) (acc, 0)) r := by
  refine Ult.forA (A := List ByteArray) hk N.length (fun a j => (a, (j : Int))) (fun a j => a = acc ++ (N.take j).map (·.1)) (fun _ _ => r) acc (by rw [List.take_zero]; simp) fun a j hj ha next => ?_
  dsimp only
  rw [iltL]
  by_cases hlt' : ¬ j < N.length
  · refine Ult.no (decide_eq_false hlt') ?_
    rw [List.take_of_length_le (by omega)] at ha
    rw [ha]; exact Ult.lift hy
  have hlt : j < N.length := Decidable.not_not.1 hlt'
  refine Ult.yes (decide_eq_true hlt) (Ult.bindc (at?_nat hlt) ?_)
  rw [isucc hlt (by omega)]
  refine Ult.bindc (app?_ok (by subst ha; simp only [List.length_append, List.length_map, List.length_take, List.length_cons, List.length_nil]; show _ * 16 ≤ _; omega)) (next _ hlt ?_)
  rw [List.take_succ_eq_append_getElem hlt, List.map_append, ← List.append_assoc, ← ha]
  rfl
theorem needs_len {M : List Condition} (hM : ∀ m ∈ M, m.2.1.length ≤ 30) (n : ByteArray) : (condAns M n).1.2.1.length ≤ 30 := by
  unfold condAns
  cases hc : condOf M n with
  | none => simp
  | some c => exact hM c (condOf_mem hc).1
theorem flat_len {β γ : Type} (f : β → List γ) (k : Nat) : ∀ L : List β, (∀ b ∈ L, (f b).length ≤ k) → (L.flatMap f).length ≤ L.length * k
  | [], _ => by simp
  | b :: L, h => by
    rw [List.flatMap_cons, List.length_append, List.length_cons]
    have h1 := h b (by simp)
    have h2 := flat_len f k L fun c hc => h c (by simp [hc])
    rw [Nat.add_mul, Nat.one_mul]; omega
theorem needsC_len {M : List Condition} (hM : ∀ m ∈ M, m.2.1.length ≤ 30) (cs : List Case) : (cs.flatMap (needsC M)).length ≤ cs.length * 30 := flat_len _ 30 cs fun c _ => by
  unfold needsC
  rw [List.length_map]; exact needs_len hM c.1
theorem loopB_ref {kk : ι → Nat} (hk : ∀ i, l i ≤ kk i) (M : List Condition) (hM : ∀ m ∈ M, m.2.1.length ≤ 30) (cs : List Case) (acc : List ByteArray) (hcs : acc.length + cs.length * 30 ≤ 1000000) (cf : ι → ByteArray → Option (Condition × Bool)) (hcf : ∀ n, Ult l (fun i => cf i n) (condAns M n)) {y : ι → List ByteArray → Option R} {r : R} (hy : Ult l (fun i => y i (acc ++ cs.flatMap (needsC M))) r) :
    Ult l (fun i => loopN (kk i) (fun (a8 : List ByteArray × Int → Option R) (a9 : List ByteArray × Int) => cnd (ilt a9.2 (len cs)) (bnd (at? cs a9.2) fun a10 => bnd (cf i a10.1) fun a11 => loopN (kk i) (fun (a12 : List ByteArray × Int → Option R) (a13 : List ByteArray × Int) => cnd (ilt a13.2 (len a11.1.2.1)) (bnd (at? a11.1.2.1 a13.2) fun a14 => bnd (app? 16 a13.1 (a14.1 :: [])) fun a15 => a12 (a15, iadd .i64 a13.2 1)) (a8 (a13.1, iadd .i64 a9.2 1))) (a9.1, 0)) (y i a9.1)) (acc, 0)) r := by
  refine Ult.forA (A := List ByteArray) hk cs.length (fun a j => (a, (j : Int))) (fun a j => a = acc ++ (cs.take j).flatMap (needsC M)) (fun _ _ => r) acc (by rw [List.take_zero]; simp) fun a j hj ha next => ?_
  dsimp only
  rw [iltL]
  by_cases hlt' : ¬ j < cs.length
  · refine Ult.no (decide_eq_false hlt') ?_
    rw [List.take_of_length_le (by omega)] at ha
    rw [ha]; exact Ult.lift hy
  have hlt : j < cs.length := Decidable.not_not.1 hlt'
  refine Ult.yes (decide_eq_true hlt) (Ult.bindc (at?_nat hlt) (Ult.bind (Ult.lift (hcf cs[j].1)) ?_))
  have hN := needs_len hM cs[j].1
  have hal : a.length ≤ acc.length + j * 30 := by
    have := needsC_len hM (cs.take j)
    rw [ha, List.length_append]
    rw [List.length_take] at this
    have : min j cs.length = j := by omega
    rw [this] at *
    omega
  have hjm : j * 30 + 30 ≤ cs.length * 30 := by omega
  refine loopA_ref (l := lp l) (kk := fun p => kk p.1) (lp_le _ _ hk) _ a (by omega) (y := fun p m' => loopN p.2 _ (m', iadd .i64 (j : Int) 1)) ?_
  rw [isucc hlt (by omega)]
  refine next _ hlt ?_
  rw [List.take_succ_eq_append_getElem hlt, List.flatMap_append, ← List.append_assoc, ← ha]
  simp [needsC]
theorem depL_len {M : List Condition} (hM : ∀ m ∈ M, m.2.1.length ≤ 30) {A : List Attr} (hA : ∀ a ∈ A, a.2.2.2.2.2.length ≤ 50) : (depL M A).length ≤ A.length * 1500 := flat_len _ 1500 A fun a ha => by
  have := needsC_len hM a.2.2.2.2.2
  have := hA a ha
  omega
theorem loopC_ref {kk : ι → Nat} (hk : ∀ i, l i ≤ kk i) (M : List Condition) (hM : ∀ m ∈ M, m.2.1.length ≤ 30) (A : List Attr) (hA : ∀ a ∈ A, a.2.2.2.2.2.length ≤ 50) (hl : A.length ≤ 30) (cf : ι → ByteArray → Option (Condition × Bool)) (hcf : ∀ n, Ult l (fun i => cf i n) (condAns M n)) (nf : ι → V1 → Option Int) (hnf : ∀ v, v.2.2.2.2.length ≤ 9223372036854775807 → Ult l (fun i => nf i v) (chkNames M v.2.2.2.2))
    {y : ι → List ByteArray → Option (List ByteArray × Int)} {r : List ByteArray × Int} (hy : Ult l (fun i => y i (depL M A)) r) :
    Ult l (fun i => loopN (kk i) (fun (a4 : List ByteArray × Int → Option (List ByteArray × Int)) (a5 : List ByteArray × Int) => cnd (ilt a5.2 (len A)) (bnd (at? A a5.2) fun a6 => bnd (nf i (a6.2.1, a6.2.2.1, a6.2.2.2.1, a6.2.2.2.2.1, a6.2.2.2.2.2)) fun a7 => cnd (ine a7 0) (some ([], a7)) (loopN (kk i) (fun (a8 : List ByteArray × Int → Option (List ByteArray × Int)) (a9 : List ByteArray × Int) => cnd (ilt a9.2 (len a6.2.2.2.2.2)) (bnd (at? a6.2.2.2.2.2 a9.2) fun a10 => bnd (cf i a10.1) fun a11 => loopN (kk i) (fun (a12 : List ByteArray × Int → Option (List ByteArray × Int)) (a13 : List ByteArray × Int) => cnd (ilt a13.2 (len a11.1.2.1)) (bnd (at? a11.1.2.1 a13.2) fun a14 => bnd (app? 16 a13.1 (a14.1 :: [])) fun a15 => a12 (a15, iadd .i64 a13.2 1)) (a8 (a13.1, iadd .i64 a9.2 1))) (a9.1, 0)) (a4 (a9.1, iadd .i64 a5.2 1))) (a5.1, 0))) (y i a5.1)) ([], 0))
      (if depE M A ≠ 0 then ([], depE M A) else r) := by
  refine (Ult.forA (A := List ByteArray) hk A.length (fun a j => (a, (j : Int))) (fun a j => a = depL M (A.take j)) (fun _ j => if depE M (A.drop j) ≠ 0 then ([], depE M (A.drop j)) else r) [] (by rw [List.take_zero]; rfl) fun a j hj ha next => ?_).eq (by rw [List.drop_zero])
  dsimp only
  rw [iltL]
  by_cases hlt' : ¬ j < A.length
  · refine Ult.no (decide_eq_false hlt') ?_
    rw [List.take_of_length_le (by omega)] at ha
    rw [ha, List.drop_eq_nil_of_le (by omega)]
    exact Ult.lift hy
  have hlt : j < A.length := Decidable.not_not.1 hlt'
  have hcl := hA _ (List.getElem_mem hlt)
  refine Ult.yes (decide_eq_true hlt) (Ult.bindc (at?_nat hlt) (Ult.bind (Ult.lift (hnf A[j].2 (by omega))) ?_))
  rw [drop_cons hlt, depE]
  by_cases hn : chkNames M A[j].2.2.2.2.2 ≠ 0
  · rw [if_pos hn, if_pos hn]
    exact Ult.yes (by rw [ine_eq]; exact decide_eq_true hn) Ult.ret
  rw [if_neg hn]
  refine Ult.no (by rw [ine_eq]; exact decide_eq_false hn) ?_
  have hal : a.length ≤ 45000 := by
    have := depL_len hM (A := A.take j) fun a ha => hA a (List.mem_of_mem_take ha)
    rw [List.length_take] at this
    rw [ha]
    have : min j A.length ≤ 30 := by omega
    omega
  refine loopB_ref (l := lp l) (kk := fun p => kk p.1) (lp_le _ _ hk) M hM _ a (by omega) (fun p n => cf p.1 n) (fun n => Ult.lift (hcf n)) (y := fun p m' => loopN p.2 _ (m', iadd .i64 (j : Int) 1)) ?_
  rw [isucc hlt (by omega)]
  refine next _ hlt ?_
  rw [List.take_succ_eq_append_getElem hlt]
  unfold depL at ha ⊢
  rw [List.flatMap_append, ← ha]
  simp
/-! ### right conditions are small -/
theorem chkConds_small {L : List Setting} : ∀ {M : List Condition} {prev : Option ByteArray}, chkConds L prev M = 0 → ∀ m ∈ M, m.2.1.length ≤ 30
  | [], _, _, m, hm => by cases hm
  | a :: M, prev, h, m, hm => by
    rw [chkConds] at h
    split at h
    · cases h
    split at h
    · cases h
    rename_i h2
    split at h
    · cases h
    split at h
    · rename_i q; exact absurd h q
    split at h
    · rename_i q; exact absurd h q
    split at h
    · cases h
    rcases List.mem_cons.1 hm with rfl | hm
    · omega
    · exact chkConds_small h m hm
theorem conds_small {L : List Setting} {M : List Condition} (h : chkConditions L M = 0) : ∀ m ∈ M, m.2.1.length ≤ 30 := by
  unfold chkConditions at h
  split at h
  · rename_i q; exact absurd h q
  split at h
  · cases h
  exact chkConds_small h
theorem dep_small {L : List Setting} {M : List Condition} (h : CondsOk L M) {A : List Attr} : ∀ y ∈ depL M A, y.size ≤ 200 := fun y hy => by
  unfold depL at hy
  obtain ⟨a, _, hy⟩ := List.mem_flatMap.1 hy
  obtain ⟨c, _, hy⟩ := List.mem_flatMap.1 hy
  unfold needsC condAns at hy
  cases hc : condOf M c.1 with
  | none => rw [hc] at hy; simp at hy
  | some m =>
    rw [hc] at hy
    obtain ⟨n, hn, rfl⟩ := List.mem_map.1 hy
    have := isWord_size ((cfg_words h.set (h.each m (condOf_mem hc).1).2 n hn).1)
    omega
/-! ### Depends -/
def depAns (x : CWorld) (t : Target) : List ByteArray × Int := if chkConditions x.1 x.2.1 ≠ 0 then ([], chkConditions x.1 x.2.1) else if chkTarget t ≠ 0 then ([], chkTarget t) else if depE x.2.1 t.2.2 ≠ 0 then ([], depE x.2.1 t.2.2) else (depS (depL x.2.1 t.2.2), 0)
theorem attrs_small {t : Target} (h : chkTarget t = 0) : ∀ a ∈ t.2.2, a.2.2.2.2.2.length ≤ 50 := fun a ha => (chk1_zero ((chkTarget_zero h).2 a ha)).2.2
theorem dep_len {x : CWorld} {t : Target} (h1 : chkConditions x.1 x.2.1 = 0) (h2 : chkTarget t = 0) : (depL x.2.1 t.2.2).length ≤ 45000 := by
  have := depL_len (conds_small h1) (attrs_small h2)
  have := (chkTarget_zero h2).1
  omega
theorem dep_prog (x : CWorld) (t : Target) (hx : WorldSz x) (ht : TgtSz t) : Ultk (fun k => S24 k (x, t, ())) (depAns x t) := by
  unfold S24 depAns
  refine Ult.bind (S54_spec x.1 x.2.1 hx.1 hx.2.1) (Ult.ifS (ine_eq _ _) (fun _ => Ult.ret) fun h1 => ?_)
  refine Ult.bind (target_prog t ht) (Ult.ifS (ine_eq _ _) (fun _ => Ult.ret) fun h2 => ?_)
  have h1 := Decidable.not_not.1 h1
  have h2 := Decidable.not_not.1 h2
  have hM : x.2.1.length ≤ 9223372036854775807 := by have := len_big hx.2.1.1 (by omega); omega
  refine loopC_prog (l := fun k : Nat => k) (kk := fun k => k) (fun _ => Nat.le_refl _) x.2.1 (conds_small h1) t.2.2 ht.2.2 (fun k n => S56 k (x.2.1, n, ())) (fun n => condOf_prog x.2.1 n hM) (fun k v => S55 k (x.2.1, v, ())) (fun v hv => names_prog x.2.1 v hM hv)
    (y := fun k m => bnd (S58 k (m, ())) fun a6 => bnd (S57 k (a6, ())) fun a7 => some (a7, 0)) ?_
  have e := dep_same (depL x.2.1 t.2.2) (by have := dep_len h1 h2; omega) (dep_small (CondsOk.of h1))
  exact Ult.bind (a := some (addN [] (depL x.2.1 t.2.2))) ⟨0, fun _ _ => rfl⟩ (Ult.bind (a := depS (depL x.2.1 t.2.2)) ⟨0, fun _ _ => e⟩ Ult.ret)
/-! ### Plain -/
abbrev zT : Target := (⟨#[]⟩, ⟨#[]⟩, [])
def plainGo (x : CWorld) (C : List Pair) (p : Platform) (n kd : ByteArray) : List Attr → List Attr → Target × ByteArray × Int
  | acc, [] => ((n, kd, acc), ⟨#[]⟩, 0)
  | acc, a :: r => if (chosenA x a.2 C p).2 ≠ 0 then (zT, a.1, (chosenA x a.2 C p).2) else plainGo x C p n kd (acc ++ [(a.1, upv (chosenA x a.2 C p).1)]) r
theorem plain_loop {kk : ι → Nat} (hk : ∀ i, l i ≤ kk i) (x : CWorld) (C : List Pair) (p : Platform) (n kd : ByteArray) (A : List Attr) (hl : A.length ≤ 30) (cf : ι → V1 → Option (V1 × Int)) (hcf : ∀ a ∈ A, Ult l (fun i => cf i a.2) (upA (chosenA x a.2 C p))) :
    Ult l (fun i => loopN (kk i) (fun (a4 : Int × ByteArray × ByteArray × List Attr × ByteArray × ByteArray × List Attr → Option (Target × ByteArray × Int)) (a5 : Int × ByteArray × ByteArray × List Attr × ByteArray × ByteArray × List Attr) => cnd (ilt a5.1 (len A)) (bnd (at? A a5.1) fun a6 => bnd (cf i (a6.2.1, a6.2.2.1, a6.2.2.2.1, a6.2.2.2.2.1, a6.2.2.2.2.2)) fun a7 => cnd (ine a7.2 0) (some ((⟨#[]⟩, ⟨#[]⟩, []), a6.1, a7.2)) (bnd (app? 96 a5.2.2.2.2.2.2 ((a6.1, a7.1.1, a7.1.2.1, a7.1.2.2.1, a7.1.2.2.2.1, a7.1.2.2.2.2) :: [])) fun a8 => a4 (iadd .i64 a5.1 1, a5.2.1, a5.2.2.1, a5.2.2.2.1, a5.2.2.2.2.1, a5.2.2.2.2.2.1, a8)))
      (some ((a5.2.2.2.2.1, a5.2.2.2.2.2.1, a5.2.2.2.2.2.2), ⟨#[]⟩, 0))) (0, ⟨#[]⟩, ⟨#[]⟩, [], n, kd, [])) (plainGo x C p n kd [] A) := by
  refine (Ult.forA (A := List Attr) hk A.length (fun a j => ((j : Int), (⟨#[]⟩ : ByteArray), (⟨#[]⟩ : ByteArray), ([] : List Attr), n, kd, a)) (fun a j => a.length = j) (fun a j => plainGo x C p n kd a (A.drop j)) [] rfl fun a j hj ha next => ?_).eq (by rw [List.drop_zero])
  dsimp only
  rw [iltL]
  by_cases hlt' : ¬ j < A.length
  · refine Ult.no (decide_eq_false hlt') (Ult.ret.eq ?_)
    rw [List.drop_eq_nil_of_le (by omega)]; rfl
  have hlt : j < A.length := Decidable.not_not.1 hlt'
  refine Ult.yes (decide_eq_true hlt) (Ult.bindc (at?_nat hlt) (Ult.bind (Ult.lift (hcf _ (List.getElem_mem hlt))) ?_))
  rw [drop_cons hlt, plainGo]
  by_cases h : (chosenA x A[j].2 C p).2 ≠ 0
  · rw [if_pos h]
    exact Ult.yes (by rw [ine_eq]; exact decide_eq_true h) Ult.ret
  rw [if_neg h]
  refine Ult.no (by rw [ine_eq]; exact decide_eq_false h) (Ult.bindc (app?_ok (by simp only [List.length_cons, List.length_nil]; show _ * 96 ≤ _; omega)) ?_)
  rw [isucc hlt (by omega)]
  exact next _ hlt (by simp [ha])
def plainAns (x : CWorld) (t : Target) (C : List Pair) (p : Platform) : Target × ByteArray × Int := if chkAsk x C p ≠ 0 then (zT, ⟨#[]⟩, chkAsk x C p) else if chkTarget t ≠ 0 then (zT, ⟨#[]⟩, chkTarget t) else plainGo x C p t.1 t.2.1 [] t.2.2
structure PlIn (x : CWorld) (t : Target) (C : List Pair) (p : Platform) : Prop where
  wx : WorldSz x
  wt : TgtSz t
  wc : PairSz C
  p1 : p.1.size ≤ 140737488351232
  p2 : PairSz p.2
theorem PlIn.chin {x : CWorld} {t : Target} {C : List Pair} {p : Platform} (h : PlIn x t C p) (h1 : chkAsk x C p = 0) (h2 : chkTarget t = 0) {a : Attr} (ha : a ∈ t.2.2) : ChIn x a.2 C p := ⟨h.wx, (h.wt.2.2.2 a ha).2, h.wc, h.p2, CondsOk.of (ask_zero h1), (chkTarget_zero h2).2 a ha⟩
theorem plain_prog (x : CWorld) (t : Target) (C : List Pair) (p : Platform) (h : PlIn x t C p) : Ultk (fun k => S22 k (x, t, C, p, ())) (plainAns x t C p) := by
  unfold S22 plainAns
  refine Ult.bind (ask_prog x C p h.wx h.wc (PlatSz.one' h.p1 h.p2)) (Ult.ifS (ine_eq _ _) (fun _ => Ult.ret) fun h1 => ?_)
  refine Ult.bind (target_prog t h.wt) (Ult.ifS (ine_eq _ _) (fun _ => Ult.ret) fun h2 => ?_)
  have h1 := Decidable.not_not.1 h1
  have h2 := Decidable.not_not.1 h2
  exact plain_loop (l := fun k : Nat => k) (kk := fun k => k) (fun _ => Nat.le_refl _) x C p t.1 t.2.1 t.2.2 (chkTarget_zero h2).1 (fun k v => S41 k (x, v, C, p, ())) fun a ha => chosen_prog x a.2 C p (h.chin h1 h2 ha)
/-- what Plain gives has values without cases -/
def FlatT (t : Target) : Prop := t.2.2.length ≤ 30 ∧ ∀ a ∈ t.2.2, StrsSz a.2.2.2.2.1 ∧ a.2.2.2.2.2 = []
theorem go_flat {x : CWorld} {C : List Pair} {p : Platform} {n kd : ByteArray} : ∀ (A acc : List Attr), acc.length + A.length ≤ 30 → (∀ a ∈ acc, StrsSz a.2.2.2.2.1 ∧ a.2.2.2.2.2 = []) → (∀ a ∈ A, Flat (chosenA x a.2 C p).1) → FlatT (plainGo x C p n kd acc A).1
  | [], acc, hl, ha, _ => ⟨(show acc.length ≤ 30 from by simpa using hl), ha⟩
  | a :: A, acc, hl, ha, hA => by
    rw [plainGo]
    split
    · exact ⟨by simp, fun b hb => by cases hb⟩
    · refine go_flat A _ (by simp at hl ⊢; omega) (fun b hb => ?_) fun b hb => hA b (by simp [hb])
      rcases List.mem_append.1 hb with q | q
      · exact ha b q
      · rw [List.mem_singleton.1 q]
        exact ⟨(hA a (by simp)).1, rfl⟩
theorem plain_flat {x : CWorld} {t : Target} {C : List Pair} {p : Platform} (h : PlIn x t C p) : FlatT (plainAns x t C p).1 := by
  have z : FlatT zT := ⟨by simp, fun b hb => by cases hb⟩
  unfold plainAns
  split
  · exact z
  rename_i h1
  split
  · exact z
  rename_i h2
  have h1 := Decidable.not_not.1 h1
  have h2 := Decidable.not_not.1 h2
  exact go_flat _ _ (by simpa using (chkTarget_zero h2).1) (fun a ha => by cases ha) fun a ha => chosen_flat (h.chin h1 h2 ha)
theorem pick_text {M : Nat} {W : List Condition} {v0 : V0} (h0 : v0.2.1.size ≤ M) : ∀ (S : List (Case × Condition)) (same : Bool) (j : Nat), (∀ s ∈ S, s.1.2.2.1.size ≤ M) → (pickA W v0 same j S).1.2.1.size ≤ M
  | [], same, j, _ => by
    rw [pickA]
    split
    · exact h0
    · exact Nat.zero_le _
  | s :: r, same, j, hS => by
    rw [pickA]
    split
    · exact hS s (by simp)
    · exact pick_text h0 r _ _ fun t ht => hS t (by simp [ht])
theorem chosen_text {M : Nat} {x : CWorld} {v : V1} {C : List Pair} {p : Platform} (h1 : v.2.1.size ≤ M) (h2 : ∀ c ∈ v.2.2.2.2, c.2.2.1.size ≤ M) : (chosenA x v C p).1.2.1.size ≤ M := by
  unfold chosenA
  split
  · exact h1
  split
  · exact Nat.zero_le _
  unfold firstA
  cases hh : held x C p v.2.2.2.2 with
  | nil =>
    dsimp only
    cases hf : v.2.2.2.2.find? (fun c : Case => decide (c.1 = dflt)) with
    | none => exact Nat.zero_le _
    | some c => exact h2 c (List.mem_of_find?_eq_some hf)
  | cons s r =>
    have hm : ∀ t ∈ s :: r, t.1.2.2.1.size ≤ M := fun t ht => h2 _ (held_mem (by rw [hh]; exact ht)).1
    exact pick_text (hm s (by simp)) (s :: r) _ _ hm
theorem go_text {M : Nat} {x : CWorld} {C : List Pair} {p : Platform} {n kd : ByteArray} : ∀ (A acc : List Attr), (∀ a ∈ acc, a.2.2.1.size ≤ M) → (∀ a ∈ A, (chosenA x a.2 C p).1.2.1.size ≤ M) → ∀ a ∈ (plainGo x C p n kd acc A).1.2.2, a.2.2.1.size ≤ M
  | [], acc, ha, _ => ha
  | a :: A, acc, ha, hA => by
    rw [plainGo]
    split
    · exact fun b hb => by cases hb
    · refine go_text A _ (fun b hb => ?_) fun b hb => hA b (by simp [hb])
      rcases List.mem_append.1 hb with q | q
      · exact ha b q
      · rw [List.mem_singleton.1 q]
        exact hA a (by simp)
theorem plain_text {x : CWorld} {t : Target} {C : List Pair} {p : Platform} (h : PlIn x t C p) : ∀ a ∈ (plainAns x t C p).1.2.2, a.2.2.1.size ≤ 140737488351232 := by
  unfold plainAns
  split
  · exact fun b hb => by cases hb
  split
  · exact fun b hb => by cases hb
  exact go_text _ _ (fun b hb => by cases hb) fun a ha => chosen_text (h.wt.2.2.2 a ha).2.1 fun c hc => ((h.wt.2.2.2 a ha).2.2.2.2 c hc).2.1
theorem depAns_len (x : CWorld) (t : Target) : (depAns x t).1.length ≤ 9223372036854775807 := by
  unfold depAns
  split
  · simp
  rename_i h1
  split
  · simp
  rename_i h2
  split
  · simp
  have := dep_len (Decidable.not_not.1 h1) (Decidable.not_not.1 h2)
  have h3 : (depS (depL x.2.1 t.2.2)).length ≤ (depL x.2.1 t.2.2).length := by
    unfold depS cmpB
    rw [List.length_map]
    refine Nat.le_trans (compact_len _) ?_
    rw [List.length_map, List.length_mergeSort]
    exact Nat.le_refl _
  show (depS (depL x.2.1 t.2.2)).length ≤ _
  omega
end Go.Proofs.YtonfimidgbppeaaGreatDoor.Ev

namespace Go.Proofs.YtonfimidgbppeaaGreatDoor.Ev
open Go Go.RowKit
set_option linter.unusedVariables false
set_option linter.unusedSimpArgs false
variable {ι R α X : Type} {l : ι → Nat}
theorem idxF_min {p : α → Bool} : ∀ (L : List α) (j i : Nat), idxF p j L = ((j + i : Nat) : Int) → ∀ x ∈ L.take i, p x = false
  | [], j, i, _, x, hx => by simp at hx
  | a :: r, j, 0, _, x, hx => by simp at hx
  | a :: r, j, i + 1, h, x, hx => by
    rw [idxF] at h
    cases hp : p a with
    | true =>
      rw [hp] at h
      have h : ((j : Nat) : Int) = ((j + (i + 1) : Nat) : Int) := h
      omega
    | false =>
      rw [hp] at h
      have h : idxF p (j + 1) r = ((j + (i + 1) : Nat) : Int) := h
      rw [List.take_succ_cons] at hx
      rcases List.mem_cons.1 hx with rfl | hx
      · exact hp
      · exact idxF_min r (j + 1) i (by rw [h]; congr 1; omega) x hx
theorem S153_spec {kk : ι → Nat} (hk : ∀ i, l i ≤ kk i) (L : List Pair) (f : ι → Pair → Option Bool) (p : Pair → Bool) (hf : ∀ a ∈ L, Ult l (fun i => f i a) (p a)) (hL : L.length ≤ 9223372036854775807) : Ult l (fun i => S153 (kk i) (L, f i, ())) (idxF p 0 L) := by
  unfold S153
  exact idx_loop hk L f p hf hL
theorem inb_nat {n : Nat} {j : Nat} (h : j < n) : inb (n : Int) (j : Int) = some () := by unfold inb; rw [if_pos ⟨by omega, by omega⟩]
theorem gt_nat {d : α} {L : List α} {j : Nat} (h : j < L.length) : gt d L (j : Int) = L[j] := by unfold gt; simp [h]
/-- slices.DeleteFunc -/
theorem S107_spec {kk : ι → Nat} (hk : ∀ i, l i ≤ kk i) (L : List Pair) (f : ι → Pair → Option Bool) (p : Pair → Bool) (hf : ∀ a ∈ L, Ult l (fun i => f i a) (p a)) (hL : L.length ≤ 9223372036854775807) : Ult l (fun i => S107 (kk i) (L, f i, ())) (L.filter fun a => !p a) := by
  unfold S107
  refine Ult.bind (S153_spec hk L f p hf hL) ?_
  rcases idxF_cases p 0 L with ⟨h1, h2⟩ | ⟨i, hi, h1, h2, h3⟩
  · rw [h1]
    refine Ult.yes rfl (Ult.ret.eq ?_)
    rw [List.find?_eq_none] at h2
    exact (List.filter_eq_self.2 fun a ha => by simpa using h2 a ha).symm
  · have hmin := idxF_min L 0 i h1
    rw [Nat.zero_add] at h1
    rw [h1]
    refine Ult.no (by rw [ieq_eq]; exact decide_eq_false (by omega)) ?_
    rw [isucc hi hL]
    have h0 : L.take i = (L.take (i + 1)).filter fun a => !p a := by
      rw [List.take_succ_eq_append_getElem hi, List.filter_append, List.filter_eq_self.2 fun a ha => by simp [hmin a ha]]
      simp [h3]
    refine Ult.forA (A := Nat × List Pair) hk (L.length - (i + 1)) (fun a t => ((a.1 : Int), ((i + 1 + t : Nat) : Int), a.2)) (fun a t => a.2.length = L.length ∧ a.1 < i + 1 + t ∧ (a.2.take a.1 = (L.take (i + 1 + t)).filter fun a => !p a) ∧ a.2.drop (i + 1 + t) = L.drop (i + 1 + t)) (fun _ _ => L.filter fun a => !p a) (i, L) ⟨rfl, by omega, h0, rfl⟩ fun a t ht ⟨ha1, ha2, ha3, ha4⟩ next => ?_
    obtain ⟨m, a⟩ := a
    dsimp only at ha1 ha2 ha3 ha4 ⊢
    obtain ⟨j, hj⟩ : ∃ j, j = i + 1 + t := ⟨_, rfl⟩
    rw [← hj] at ha2 ha3 ha4 ⊢
    rw [iltL]
    have hml : m ≤ a.length := by omega
    by_cases hlt' : ¬ j < a.length
    · refine Ult.no (decide_eq_false hlt') ?_
      have hc1 : cut? a (m : Int) (len a) = some ((a.take a.length).drop m) := by
        unfold cut? len
        rw [if_pos ⟨by omega, by omega, Int.le_refl _⟩]
        simp
      have hc2 : cut? (clr ((⟨#[]⟩ : ByteArray), (⟨#[]⟩ : ByteArray)) a (m : Int) (len a)) 0 (m : Int) = some (a.take m) := by
        rw [cut?_take (by rw [clr_len]; exact hml)]
        congr 1
        refine List.ext_getElem (by simp [clr_len]) fun q q1 q2 => ?_
        simp only [List.length_take] at q1 q2
        rw [List.getElem_take, List.getElem_take, clr_get _ _ _ _ _ (by omega), if_neg (by simp; omega)]
      refine Ult.bindc hc1 (Ult.bindc hc2 (Ult.ret.eq ?_))
      rw [ha3, List.take_of_length_le (by omega)]
    have hlt : j < a.length := Decidable.not_not.1 hlt'
    have hjL : j < L.length := by omega
    have ej : a[j] = L[j] := by
      have := congrArg (fun l => l[0]?) ha4
      simpa [hlt, hjL] using this
    refine Ult.yes (decide_eq_true hlt) (Ult.bindc (inb_nat hlt) ?_)
    rw [gt_nat hlt, ej, isucc hjL hL]
    have hd1 : a.drop (j + 1) = L.drop (j + 1) := by
      have := congrArg (List.drop 1) ha4
      simpa [List.drop_drop, Nat.add_comm] using this
    have ht1 : (L.take (j + 1)).filter (fun a => !p a) = (L.take j).filter (fun a => !p a) ++ (if p L[j] = true then [] else [L[j]]) := by
      rw [List.take_succ_eq_append_getElem hjL, List.filter_append]
      cases hpj : p L[j] <;> simp [hpj]
    refine Ult.bind (hf L[j] (List.getElem_mem hjL)).lift ?_
    have e2 : i + 1 + (t + 1) = j + 1 := by omega
    cases hp : p L[j]
    · refine Ult.yes rfl (Ult.bindc (inb_nat (show m < a.length by omega)) ?_)
      rw [isucc (show m < a.length by omega) (by omega)]
      have := next (m + 1, setAt a (m : Int) (L[j].1, L[j].2)) (by omega) ⟨by simp [setAt, ha1], by dsimp only; omega, ?_, ?_⟩
      · rw [e2] at this
        exact this
      · dsimp only
        rw [e2, ht1, hp, if_neg (by simp), ← ha3]
        unfold setAt
        rw [Int.toNat_natCast, List.take_succ_eq_append_getElem (by simpa using (show m < a.length by omega))]
        rw [List.take_set_of_le (Nat.le_refl _)]
        simp
      · dsimp only
        rw [e2]
        unfold setAt
        rw [Int.toNat_natCast, List.drop_set_of_lt (by omega)]
        exact hd1
    · refine Ult.no rfl ?_
      have := next (m, a) (by omega) ⟨ha1, by dsimp only; omega, by dsimp only; rw [e2, ht1, hp, if_pos rfl, List.append_nil]; exact ha3, by dsimp only; rw [e2]; exact hd1⟩
      rw [e2] at this
      exact this
end Go.Proofs.YtonfimidgbppeaaGreatDoor.Ev

namespace Go.Proofs.YtonfimidgbppeaaGreatDoor.Ev
open Go Go.RowKit
set_option linter.unusedVariables false
set_option linter.unusedSimpArgs false
variable {ι R α X : Type} {l : ι → Nat}
theorem cmp_lt : ∀ a b : List UInt8, Lib.compareBytes a b < 0 ↔ a < b
  | [], [] => by simp [Lib.compareBytes]
  | [], b :: b' => by simp [Lib.compareBytes]
  | a :: a', [] => by simp [Lib.compareBytes]
  | a :: a', b :: b' => by
    rw [Lib.compareBytes, List.cons_lt_cons_iff]
    by_cases h1 : a < b
    · rw [if_pos h1]; simp [h1]
    · rw [if_neg h1]
      by_cases h2 : b < a
      · rw [if_pos h2]
        have : a ≠ b := fun e => by subst e; exact absurd h2 h1
        simp [h1, this]
      · rw [if_neg h2]
        have e : a = b := UInt8.le_antisymm (UInt8.not_lt.1 h2) (UInt8.not_lt.1 h1)
        subst e
        simp [h1, cmp_lt a' b']
theorem iwr_u64 {a : Int} (h0 : 0 ≤ a) (h1 : a < 18446744073709551616) : iwr .u64 a = a := by
  have hs : IntKind.u64.signed = false := rfl
  unfold iwr
  simp [IntKind.wrap, IntKind.bits, hs]
  omega
theorem iwr_i64 {a : Int} (h0 : 0 ≤ a) (h1 : a ≤ 9223372036854775807) : iwr .i64 a = a := by
  unfold iwr
  exact wrap64 (by omega) h1
theorem ishr1 {n : Nat} : ishr? .u64 (n : Int) 1 = some ((n / 2 : Nat) : Int) := by
  unfold ishr?
  rw [if_neg (by omega)]
  congr 1
  show (n : Int).fdiv (2 ^ (min 1 64)) = _
  rw [Int.fdiv_eq_ediv_of_nonneg _ (by decide)]
  rfl
def below (n : ByteArray) (p : Pair) : Bool := slt p.1 n
theorem below_iff {n : ByteArray} {p : Pair} : below n p = true ↔ lt p.1 n := by
  unfold below lt
  rw [slt_eq]; simp
def place (L : List Pair) (n : ByteArray) : Nat := (L.takeWhile (below n)).length
theorem place_le (L : List Pair) (n : ByteArray) : place L n ≤ L.length := by
  unfold place
  exact (List.takeWhile_prefix _).length_le
theorem place_split (L : List Pair) (n : ByteArray) : L.take (place L n) = L.takeWhile (below n) ∧ L.drop (place L n) = L.dropWhile (below n) := by
  have h := List.takeWhile_append_dropWhile (p := below n) (l := L)
  have h1 : L.take (place L n) = L.takeWhile (below n) := (List.prefix_iff_eq_take.1 (List.takeWhile_prefix _)).symm
  have h2 : L.drop (place L n) = L.dropWhile (below n) := by
    have := List.drop_left (l₁ := L.takeWhile (below n)) (l₂ := L.dropWhile (below n))
    rw [h] at this
    exact this
  exact ⟨h1, h2⟩
def Srt (L : List Pair) : Prop := L.Pairwise fun p q => lt p.1 q.1
theorem place_below {L : List Pair} {n : ByteArray} (hs : Srt L) {j : Nat} (hj : j < L.length) : lt L[j].1 n ↔ j < place L n := by
  obtain ⟨e1, e2⟩ := place_split L n
  constructor
  · intro h
    rcases Nat.lt_or_ge j (place L n) with q | q
    · exact q
    · exfalso
      have hlt : place L n < L.length := by omega
      have hd : L.dropWhile (below n) = L[place L n] :: L.drop (place L n + 1) := by rw [← e2]; exact List.drop_eq_getElem_cons hlt
      have hnot : ¬ below n L[place L n] = true := by
        have := List.head?_dropWhile_not (below n) L
        rw [hd] at this
        have this : below n L[place L n] = false := this
        rw [this]; simp
      rcases Nat.eq_or_lt_of_le q with q | q
      · subst q; exact hnot (below_iff.2 h)
      · exact hnot (below_iff.2 (lt_trans' (List.pairwise_iff_getElem.1 hs _ _ hlt hj q) h))
  · intro h
    have hm : L[j] ∈ L.take (place L n) := by
      rw [List.mem_take_iff_getElem]
      exact ⟨j, by omega, rfl⟩
    rw [e1] at hm
    have := List.all_takeWhile (p := below n) (l := L)
    rw [List.all_eq_true] at this
    exact below_iff.1 (this _ hm)
def searchAns (L : List Pair) (n : ByteArray) : Int × Bool := ((place L n : Int), match L[place L n]? with
  | some p => ieq (Lib.compareBytes p.1.data.toList n.data.toList) 0
  | none => false)
theorem S110_eq (k : Nat) (p : Pair) (n : ByteArray) : S110 k (p, n, ()) = some (Lib.compareBytes p.1.data.toList n.data.toList) := rfl
theorem S109_spec {kk : ι → Nat} (hk : ∀ i, l i ≤ kk i) (L : List Pair) (n : ByteArray) (hs : Srt L) (hL : L.length ≤ 140737488355328) :
    Ult l (fun i => S109 (kk i) (L, n, (fun a => S110 (kk i) (a.1, a.2, ())), ())) (searchAns L n) := by
  unfold S109
  have hp := place_le L n
  refine Ult.loopI hk (fun x => ∃ lo hi : Nat, x = ((lo : Int), (hi : Int)) ∧ lo ≤ place L n ∧ place L n ≤ hi ∧ hi ≤ L.length) (fun x => (x.2 - x.1).toNat) ⟨0, L.length, rfl, by omega, hp, Nat.le_refl _⟩ ?_
  rintro _ ⟨lo, hi, rfl, h1, h2, h3⟩ next
  dsimp only
  by_cases hlt : lo < hi
  · refine Ult.yes (by rw [ilt_eq]; exact decide_eq_true (by omega)) ?_
    rw [iadd64 (by omega) (by omega), iwr_u64 (by omega) (by omega), show (lo : Int) + (hi : Int) = ((lo + hi : Nat) : Int) by omega]
    refine Ult.bindc ishr1 ?_
    obtain ⟨m, hm⟩ : ∃ m, m = (lo + hi) / 2 := ⟨_, rfl⟩
    rw [← hm, iwr_i64 (by omega) (by omega)]
    have hmL : m < L.length := by omega
    refine Ult.bindc (at?_nat hmL) (Ult.bind ⟨0, fun _ _ => S110_eq _ _ _⟩ ?_)
    by_cases hb : lt L[m].1 n
    · refine Ult.yes (by rw [ilt_eq]; exact decide_eq_true ((cmp_lt _ _).2 hb)) ?_
      have := (place_below hs hmL).1 hb
      rw [isucc (show m < L.length from hmL) (by omega)]
      exact next _ ⟨m + 1, hi, rfl, by omega, h2, h3⟩ (by dsimp only; omega)
    · refine Ult.no (by rw [ilt_eq]; exact decide_eq_false (fun q => hb ((cmp_lt _ _).1 q))) ?_
      have : ¬ m < place L n := fun q => hb ((place_below hs hmL).2 q)
      exact next _ ⟨lo, m, rfl, h1, by omega, by omega⟩ (by dsimp only; omega)
  · refine Ult.no (by rw [ilt_eq]; exact decide_eq_false (by omega)) ?_
    obtain rfl : lo = place L n := by omega
    unfold searchAns
    rw [iltL]
    by_cases hend : place L n < L.length
    · rw [List.getElem?_eq_getElem hend]
      exact Ult.yes (decide_eq_true hend) (Ult.bindc (at?_nat hend) (Ult.bind ⟨0, fun _ _ => S110_eq _ _ _⟩ Ult.ret))
    · rw [List.getElem?_eq_none (by omega)]
      exact Ult.no (decide_eq_false hend) Ult.ret
end Go.Proofs.YtonfimidgbppeaaGreatDoor.Ev

namespace Go.Proofs.YtonfimidgbppeaaGreatDoor.Ev
open Go Go.RowKit
set_option linter.unusedVariables false
set_option linter.unusedSimpArgs false
variable {ι R α X : Type} {l : ι → Nat}
theorem srt_ext : ∀ {A B : List Pair}, Srt A → Srt B → (∀ p, p ∈ A ↔ p ∈ B) → A = B
  | [], [], _, _, _ => rfl
  | [], b :: B, _, _, h => absurd ((h b).2 (by simp)) (by simp)
  | a :: A, [], _, _, h => absurd ((h a).1 (by simp)) (by simp)
  | a :: A, b :: B, hA, hB, h => by
    obtain ⟨a1, a2⟩ := List.pairwise_cons.1 hA
    obtain ⟨b1, b2⟩ := List.pairwise_cons.1 hB
    have e : a = b := by
      rcases List.mem_cons.1 ((h a).1 (by simp)) with e | e
      · exact e
      rcases List.mem_cons.1 ((h b).2 (by simp)) with e' | e'
      · exact e'.symm
      exact absurd (lt_trans' (b1 a e) (a1 b e')) (lt_irr _)
    rw [← e] at b1 h
    rw [srt_ext a2 b2 fun p => ?_, e]
    have hp := h p
    simp only [List.mem_cons] at hp
    constructor
    · intro q
      rcases hp.1 (.inr q) with e1 | e1
      · rw [e1] at q; exact absurd (a1 a q) (lt_irr _)
      · exact e1
    · intro q
      rcases hp.2 (.inr q) with e1 | e1
      · rw [e1] at q; exact absurd (b1 a q) (lt_irr _)
      · exact e1
theorem look_mem {L : List Setting} {s : Setting} (h : s ∈ L) : ∃ t, look L s.1 = some t := by
  unfold look
  cases hf : L.find? fun t => decide (t.1 = s.1) with
  | some t => exact ⟨t, rfl⟩
  | none =>
    rw [List.find?_eq_none] at hf
    exact absurd (hf s h) (by simp)
def withVal (L : List Setting) (C : List Pair) (n v : ByteArray) (s : Setting) : ByteArray := if s.1 = n then v else (valOf L C s.1).getD ⟨#[]⟩
def withOne (L : List Setting) (C : List Pair) (n v : ByteArray) (s : Setting) : Option Pair := if s.2.head? = some (withVal L C n v s) then none else some (s.1, withVal L C n v s)
def withR (L : List Setting) (C : List Pair) (n v : ByteArray) : List Pair := L.filterMap (withOne L C n v)
def without (C : List Pair) (n : ByteArray) : List Pair := C.filter fun p => !decide (p.1 = n)
def withC (C : List Pair) (n v v0 : ByteArray) : List Pair := if v = v0 then without C n else (without C n).take (place (without C n) n) ++ [(n, v)] ++ (without C n).drop (place (without C n) n)
theorem S108_eq (k : Nat) (p : Pair) (n : ByteArray) : S108 k (p, n, ()) = some (decide (p.1 = n)) := by unfold S108; rw [seq_eq]
theorem without_len (C : List Pair) (n : ByteArray) : (without C n).length ≤ C.length := List.length_filter_le _ _
theorem without_srt {C : List Pair} {n : ByteArray} (h : Srt C) : Srt (without C n) := List.Pairwise.filter _ h
theorem S62_spec (L : List Setting) (C : List Pair) (n v v0 : ByteArray) {s : Setting} (hL : SetSz L) (hC : (C.length + 1) * 32 ≤ 140737488355328) (hs : Srt C) (hl : look L n = some s) (he : s.2.head? = some v0) : Ultk (fun k => S62 k (L, C, n, v, ())) (withC C n v v0) := by
  unfold S62 withC
  have hlen := hL.len
  have hwl := without_len C n
  refine Ult.bind (S7_spec C (by omega)) ?_
  have h87 := S107_spec (l := fun k : Nat => k) (kk := fun k => k) (fun _ => Nat.le_refl _) C (fun k a3 => S108 k (a3, n, ())) (fun p => decide (p.1 = n)) (fun a _ => ⟨0, fun k _ => S108_eq k a n⟩) (by omega)
  refine Ult.bind h87 (Ult.bind (S59_spec L n (by omega)) ?_)
  obtain ⟨i1, i2⟩ := idxF_at (p := fun s : Setting => decide (s.1 = n)) hl
  refine Ult.bindc i1 ?_
  refine Ult.bindc (show at? s.2 0 = some v0 by
    cases h : s.2 with
    | nil => rw [h] at he; cases he
    | cons a r => rw [h] at he; cases he; rfl) ?_
  refine Ult.ifS (seq_eq _ _) (fun _ => Ult.ret) fun hv => ?_
  have h108 := S109_spec (l := fun k : Nat => k) (kk := fun k => k) (fun _ => Nat.le_refl _) (without C n) n (without_srt hs) (by omega)
  refine Ult.bind h108 ?_
  have hp := place_le (without C n) n
  have h111 : Ultk (fun k => S112 k (without C n, (searchAns (without C n) n).1, [(n, v)], ())) ((without C n).take (place (without C n) n) ++ [(n, v)] ++ (without C n).drop (place (without C n) n)) := ⟨0, fun k _ => by
    unfold S112 insF searchAns
    rw [if_pos ⟨⟨by show (0 : Int) ≤ ((place (without C n) n : Nat) : Int); omega, by show ((place (without C n) n : Nat) : Int) ≤ ((without C n).length : Int); omega⟩, rfl, by show ((without C n).length + 1) * 32 ≤ _; omega⟩]
    rfl⟩
  exact Ult.bind h111 Ult.ret

theorem lt_of {a b : ByteArray} (h1 : ¬ lt a b) (h2 : a ≠ b) : lt b a := by
  unfold lt at *
  rcases Decidable.em (b.data.toList < a.data.toList) with q | q
  · exact q
  · exact absurd (bytes_ext (List.le_antisymm (List.not_lt.1 q) (List.not_lt.1 h1))) h2
/-! ### both are one list -/
theorem withR_srt {L : List Setting} {C : List Pair} {n v : ByteArray} (h : L.Pairwise fun s t => lt s.1 t.1) : Srt (withR L C n v) := by
  unfold Srt withR
  rw [List.pairwise_filterMap]
  refine h.imp fun {s t} hst a ha b hb => ?_
  have name : ∀ {s : Setting} {a : Pair}, withOne L C n v s = some a → a.1 = s.1 := fun {s a} h => by
    unfold withOne at h
    split at h
    · cases h
    · cases h; rfl
  rw [name ha, name hb]
  exact hst
theorem withC_srt {C : List Pair} {n v v0 : ByteArray} (h : Srt C) : Srt (withC C n v v0) := by
  unfold withC
  split
  · exact without_srt h
  · have hw := without_srt (n := n) h
    have hb := fun {j : Nat} (hj : j < (without C n).length) => place_below (n := n) hw hj
    have hno : ∀ p ∈ without C n, p.1 ≠ n := fun p hp => by
      have := (List.mem_filter.1 hp).2
      simpa using this
    unfold Srt
    rw [List.append_assoc, List.pairwise_append, List.pairwise_append]
    refine ⟨List.Pairwise.sublist (List.take_sublist _ _) hw, ⟨List.pairwise_singleton _ _, List.Pairwise.sublist (List.drop_sublist _ _) hw, fun a ha b hbm => ?_⟩, fun a ha b hbm => ?_⟩
    · rw [List.mem_singleton] at ha
      subst ha
      obtain ⟨j, hj, rfl⟩ := List.getElem_of_mem hbm
      rw [List.getElem_drop]
      have hjl : place (without C n) n + j < (without C n).length := by rw [List.length_drop] at hj; omega
      have h1 := mt (hb hjl).1 (by omega)
      have h2 := hno _ (List.getElem_mem hjl)
      exact lt_of h1 h2
    · obtain ⟨j, hj, rfl⟩ := List.getElem_of_mem ha
      rw [List.getElem_take]
      rw [List.length_take] at hj
      have h1 := (hb (show j < (without C n).length by omega)).2 (by omega)
      rcases List.mem_append.1 hbm with q | q
      · rw [List.mem_singleton] at q
        subst q
        exact h1
      · obtain ⟨i, hi, rfl⟩ := List.getElem_of_mem q
        rw [List.getElem_drop]
        rw [List.length_drop] at hi
        exact List.pairwise_iff_getElem.1 hw _ _ _ _ (by omega)
theorem sets_srt {L : List Setting} : ∀ {prev : Option ByteArray}, chkSets prev L = 0 → L.Pairwise (fun s t => lt s.1 t.1) ∧ ∀ m, prev = some m → ∀ s ∈ L, lt m s.1 := by
  induction L with
  | nil => intro prev _; exact ⟨List.Pairwise.nil, fun m _ s hs => by cases hs⟩
  | cons a L ih =>
    intro prev h
    rw [chkSets] at h
    split at h
    · cases h
    split at h
    · cases h
    split at h
    · cases h
    split at h
    · rename_i q; exact absurd h q
    split at h
    · cases h
    rename_i h5
    obtain ⟨i1, i2⟩ := ih h
    have hp := notAbove_false h5
    refine ⟨List.pairwise_cons.2 ⟨fun s hs => i2 _ rfl s hs, i1⟩, fun m hm s hs => ?_⟩
    rcases List.mem_cons.1 hs with rfl | hs
    · exact hp m hm
    · exact lt_trans' (hp m hm) (i2 _ rfl s hs)
theorem settings_srt {L : List Setting} (h : chkSettings L = 0) : L.Pairwise fun s t => lt s.1 t.1 := by
  unfold chkSettings at h
  split at h
  · cases h
  · exact (sets_srt h).1
theorem nm_inj {β : Type} {L : List (ByteArray × β)} (h : L.Pairwise fun s t => lt s.1 t.1) {s t : ByteArray × β} (hs : s ∈ L) (ht : t ∈ L) (e : s.1 = t.1) : s = t := by
  obtain ⟨i, hi, rfl⟩ := List.getElem_of_mem hs
  obtain ⟨j, hj, rfl⟩ := List.getElem_of_mem ht
  rcases Nat.lt_trichotomy i j with q | q | q
  · have := List.pairwise_iff_getElem.1 h i j hi hj q
    rw [e] at this; exact absurd this (lt_irr _)
  · subst q; rfl
  · have := List.pairwise_iff_getElem.1 h j i hj hi q
    rw [e] at this; exact absurd this (lt_irr _)
theorem look_self {β : Type} {L : List (ByteArray × β)} (h : L.Pairwise fun s t => lt s.1 t.1) {s : ByteArray × β} (hs : s ∈ L) : look L s.1 = some s := by
  cases hf : look L s.1 with
  | some t =>
    obtain ⟨m1, m2⟩ := look_name hf
    rw [nm_inj h m1 hs m2]
  | none =>
    unfold look at hf
    rw [List.find?_eq_none] at hf
    exact absurd (hf s hs) (by simp)
theorem mem_withC {C : List Pair} {n v v0 : ByteArray} {p : Pair} : p ∈ withC C n v v0 ↔ (p ∈ C ∧ p.1 ≠ n) ∨ (v ≠ v0 ∧ p = (n, v)) := by
  have hw : p ∈ without C n ↔ p ∈ C ∧ p.1 ≠ n := by unfold without; simp [List.mem_filter]
  unfold withC
  split
  · rename_i h; rw [hw]; simp [h]
  · rename_i h
    have hsp : p ∈ without C n ↔ p ∈ (without C n).take (place (without C n) n) ∨ p ∈ (without C n).drop (place (without C n) n) := by
      rw [← List.mem_append, List.take_append_drop]
    rw [← hw, List.mem_append, List.mem_append, List.mem_singleton, hsp]
    simp only [ne_eq, h, not_false_eq_true, true_and]
    constructor
    · rintro ((q | q) | q)
      · exact .inl (.inl q)
      · exact .inr q
      · exact .inl (.inr q)
    · rintro ((q | q) | q)
      · exact .inl (.inl q)
      · exact .inr q
      · exact .inl (.inr q)
theorem with_eq {L : List Setting} {C : List Pair} {n v v0 : ByteArray} {s : Setting} (hL : chkSettings L = 0) (hC : chkSet L true none C = 0) (hl : look L n = some s) (he : s.2.head? = some v0) : withC C n v v0 = withR L C n v := by
  obtain ⟨c1, c2⟩ := chkSet_ok hC
  have hs := settings_srt hL
  refine srt_ext (withC_srt c2) (withR_srt hs) fun p => ?_
  rw [mem_withC]
  unfold withR
  rw [List.mem_filterMap]
  obtain ⟨l1, l2⟩ := look_name hl
  constructor
  · rintro (⟨q1, q2⟩ | ⟨q1, rfl⟩)
    · obtain ⟨t, t1, t2, t3, _⟩ := c1 p q1
      obtain ⟨m1, m2⟩ := look_name t1
      refine ⟨t, m1, ?_⟩
      have hv : withVal L C n v t = p.2 := by
        unfold withVal
        rw [if_neg (by rw [m2]; exact q2), m2]
        unfold valOf
        rw [look_self c2 q1]; rfl
      unfold withOne
      rw [hv, if_neg (t3 rfl), m2]
    · refine ⟨s, l1, ?_⟩
      have hv : withVal L C n v s = v := by unfold withVal; rw [if_pos l2]
      unfold withOne
      rw [hv, he, if_neg (fun e => q1 (Option.some.inj e).symm), l2]
  · rintro ⟨t, m1, ho⟩
    unfold withOne at ho
    split at ho
    · cases ho
    rename_i hh
    cases ho
    by_cases hn : t.1 = n
    · have et : t = s := nm_inj hs m1 l1 (hn.trans l2.symm)
      have hv : withVal L C n v t = v := by unfold withVal; rw [if_pos hn]
      rw [hv] at hh ⊢
      rw [et, he] at hh
      exact .inr ⟨fun e => hh (by rw [e]), by rw [hn]⟩
    · have hv : withVal L C n v t = (valOf L C t.1).getD ⟨#[]⟩ := by unfold withVal; rw [if_neg hn]
      cases hc : look C t.1 with
      | some q =>
        obtain ⟨k1, k2⟩ := look_name hc
        have hq : valOf L C t.1 = some q.2 := by unfold valOf; rw [hc]
        rw [hv, hq]
        refine .inl ⟨?_, hn⟩
        rw [← k2]
        exact k1
      | none =>
        exfalso
        have hq : valOf L C t.1 = t.2.head? := by unfold valOf; rw [hc, look_self hs m1]; rfl
        rw [hv, hq] at hh
        have hne := ((chkSettings_ne hL).2 t m1).1
        cases ht : t.2 with
        | nil => exact hne ht
        | cons a r => rw [ht] at hh; exact hh rfl
end Go.Proofs.YtonfimidgbppeaaGreatDoor.Ev

namespace Go.Proofs.YtonfimidgbppeaaGreatDoor.Ev
open Go Go.RowKit
set_option linter.unusedVariables false
set_option linter.unusedSimpArgs false
theorem chkSet_intro {L : List Setting} : ∀ {C : List Pair} {prev : Option ByteArray}, (∀ p ∈ C, ∃ s, look L p.1 = some s ∧ p.2 ∈ s.2 ∧ s.2.head? ≠ some p.2) → Srt C → (∀ m, prev = some m → ∀ p ∈ C, lt m p.1) → chkSet L true prev C = 0
  | [], prev, _, _, _ => rfl
  | p :: C, prev, h, hs, hp => by
    obtain ⟨s, s1, s2, s3⟩ := h p (by simp)
    obtain ⟨a1, a2⟩ := List.pairwise_cons.1 hs
    have hna : ¬ notAbove prev p.1 = true := by
      cases prev with
      | none => simp [notAbove]
      | some m =>
        have := hp m rfl p (by simp)
        intro q
        have q : sle p.1 m = true := q
        rw [sle_eq] at q
        unfold lt at this
        simp [this] at q
    rw [chkSet, s1]
    dsimp only
    rw [if_neg (by rw [memB_iff.2 s2]; simp), if_neg (fun q => s3 q.2), if_neg hna]
    exact chkSet_intro (fun q hq => h q (by simp [hq])) a2 (fun m hm q hq => by cases hm; exact a1 q hq)
theorem withR_mem {L : List Setting} {C : List Pair} {n v : ByteArray} {p : Pair} : p ∈ withR L C n v ↔ ∃ t ∈ L, t.2.head? ≠ some (withVal L C n v t) ∧ p = (t.1, withVal L C n v t) := by
  unfold withR
  rw [List.mem_filterMap]
  constructor
  · rintro ⟨t, m, h⟩
    unfold withOne at h
    split at h
    · cases h
    · rename_i q; cases h; exact ⟨t, m, q, rfl⟩
  · rintro ⟨t, m, q, rfl⟩
    exact ⟨t, m, by unfold withOne; rw [if_neg q]⟩
variable {L : List Setting} {C : List Pair} {n v : ByteArray} {s : Setting}
theorem withVal_mem (hL : chkSettings L = 0) (hC : chkSet L true none C = 0) (hl : look L n = some s) (hv : v ∈ s.2) {t : Setting} (ht : t ∈ L) : withVal L C n v t ∈ t.2 := by
  have hs := settings_srt hL
  obtain ⟨l1, l2⟩ := look_name hl
  unfold withVal
  split
  · rename_i hn
    rw [nm_inj hs ht l1 (hn.trans l2.symm)]
    exact hv
  · unfold valOf
    cases hc : look C t.1 with
    | some q =>
      obtain ⟨k1, k2⟩ := look_name hc
      obtain ⟨u, u1, u2, _⟩ := (chkSet_ok hC).1 q k1
      rw [k2, look_self hs ht] at u1
      cases u1
      exact u2
    | none =>
      rw [look_self hs ht]
      have hne := ((chkSettings_ne hL).2 t ht).1
      cases h : t.2 with
      | nil => exact absurd h hne
      | cons a r =>
        show (t.2.head?).getD ⟨#[]⟩ ∈ _
        rw [h]; simp
theorem withR_ok (hL : chkSettings L = 0) (hC : chkSet L true none C = 0) (hl : look L n = some s) (hv : v ∈ s.2) : chkSet L true none (withR L C n v) = 0 := by
  have hs := settings_srt hL
  refine chkSet_intro (fun p hp => ?_) (withR_srt hs) (fun m hm => by cases hm)
  obtain ⟨t, t1, t2, rfl⟩ := withR_mem.1 hp
  exact ⟨t, look_self hs t1, withVal_mem hL hC hl hv t1, t2⟩
theorem withR_val (hL : chkSettings L = 0) {t : Setting} (ht : t ∈ L) : valOf L (withR L C n v) t.1 = some (withVal L C n v t) := by
  have hs := settings_srt hL
  have hr : Srt (withR L C n v) := withR_srt hs
  by_cases hh : t.2.head? = some (withVal L C n v t)
  · cases hc : look (withR L C n v) t.1 with
    | some q =>
      obtain ⟨k1, k2⟩ := look_name hc
      obtain ⟨u, u1, u2, rfl⟩ := withR_mem.1 k1
      rw [nm_inj hs u1 ht k2] at u2
      exact absurd hh u2
    | none =>
      unfold valOf
      rw [hc, look_self hs ht]
      exact hh
  · have hm : (t.1, withVal L C n v t) ∈ withR L C n v := withR_mem.2 ⟨t, ht, hh, rfl⟩
    have := look_self hr hm
    unfold valOf
    rw [this]
theorem withR_len : (withR L C n v).length ≤ L.length := List.length_filterMap_le _ _
def withAns (L : List Setting) (C : List Pair) (n v : ByteArray) : List Pair × Int := if chkConfig L C ≠ 0 then ([], chkConfig L C) else match look L n with
  | none => ([], 5)
  | some s => if memB s.2 v = false then ([], 1) else (withR L C n v, 0)
theorem S27_spec (L : List Setting) (C : List Pair) (n v : ByteArray) (hL : SetSz L) (hC : PairSz C) : Ultk (fun k => S27 k (L, C, n, v, ())) (withAns L C n v) := by
  unfold S27 withAns
  have lL := hL.len
  have lC := hC.len
  refine Ult.bind (S28_spec L C hL (by omega)) (Ult.ifS (ine_eq _ _) (fun _ => Ult.ret) fun h0 => ?_)
  obtain ⟨c1, c2⟩ := chkConfig_ok (Decidable.not_not.1 h0)
  have hcl := cfg_len c2
  have h30 := (chkSettings_ne c1).1
  refine Ult.bind (S59_spec L n (by omega)) ?_
  cases hl : look L n with
  | none => exact Ult.yes (by rw [ilt_eq]; exact decide_eq_true (idxF_neg.2 hl)) Ult.ret
  | some s =>
    obtain ⟨i1, i2⟩ := idxF_at (p := fun s : Setting => decide (s.1 = n)) hl
    have i2 : 0 ≤ idxN L n := i2
    refine Ult.no (by rw [ilt_eq]; exact decide_eq_false (by omega)) (Ult.bindc i1 ?_)
    obtain ⟨m1, m2⟩ := look_name hl
    have hs2 := len_big (hL.2 s m1).2.1 (by omega)
    refine Ult.bind (S61_spec s.2 v (by omega)) (Ult.ifS (not_false_eq _) (fun _ => Ult.ret) fun hm => ?_)
    obtain ⟨v0, r0, e0⟩ : ∃ v0 r0, s.2 = v0 :: r0 := by
      cases h : s.2 with
      | nil => exact absurd h ((chkSettings_ne c1).2 s m1).1
      | cons a r => exact ⟨a, r, rfl⟩
    have he : s.2.head? = some v0 := by rw [e0]; rfl
    refine Ult.bind (S62_spec L C n v v0 hL (by omega) (chkSet_ok c2).2 hl he) (Ult.ret.eq ?_)
    rw [with_eq c1 c2 hl he]
end Go.Proofs.YtonfimidgbppeaaGreatDoor.Ev

namespace Go.Proofs.YtonfimidgbppeaaGreatDoor.Ev
open Go Go.RowKit
set_option linter.unusedVariables false
set_option linter.unusedSimpArgs false
variable {ι R α X : Type} {l : ι → Nat}
theorem needsOk_ext {L : List Setting} {C D : List Pair} : ∀ {N : List Pair}, (∀ n ∈ N, valOf L C n.1 = valOf L D n.1) → needsOk L C N = needsOk L D N
  | [], _ => rfl
  | n :: N, h => by
    show (decide (valOf L C n.1 = some n.2) && needsOk L C N) = (decide (valOf L D n.1 = some n.2) && needsOk L D N)
    rw [h n (by simp), needsOk_ext (N := N) fun m hm => h m (by simp [hm])]
theorem held_ext {x : CWorld} {C D : List Pair} {p : Platform} {cs : List Case} (h : ∀ c ∈ cs, ∀ y ∈ needsC x.2.1 c, valOf x.1 C y = valOf x.1 D y) : held x C p cs = held x D p cs := by
  unfold held
  induction cs with
  | nil => rfl
  | cons c cs ih =>
    have e : holdC x C p c = holdC x D p c := by
      unfold holdC
      have hc := h c (by simp)
      unfold needsC condAns at hc
      cases hco : condOf x.2.1 c.1 with
      | none => rfl
      | some m =>
        rw [hco] at hc
        dsimp only at hc ⊢
        have : holdsB x.1 m C p = holdsB x.1 m D p := by
          unfold holdsB
          rw [needsOk_ext fun n hn => hc n.1 (List.mem_map_of_mem hn)]
        rw [this]
    rw [List.filterMap_cons, List.filterMap_cons, e, ih fun d hd => h d (by simp [hd])]
theorem chosen_ext {x : CWorld} {C D : List Pair} {p : Platform} {v : V1} (h : ∀ c ∈ v.2.2.2.2, ∀ y ∈ needsC x.2.1 c, valOf x.1 C y = valOf x.1 D y) : chosenA x v C p = chosenA x v D p := by
  unfold chosenA firstA
  rw [held_ext h]
theorem go_ext {x : CWorld} {C D : List Pair} {p : Platform} {n kd : ByteArray} : ∀ (A acc : List Attr), (∀ a ∈ A, chosenA x a.2 C p = chosenA x a.2 D p) → plainGo x C p n kd acc A = plainGo x D p n kd acc A
  | [], acc, _ => rfl
  | a :: A, acc, h => by
    rw [plainGo, plainGo, h a (by simp), go_ext A _ fun b hb => h b (by simp [hb])]
theorem plain_ext {x : CWorld} {t : Target} {C D : List Pair} {p : Platform} (hc : chkConfig x.1 C = 0) (hd : chkConfig x.1 D = 0) (h : ∀ y ∈ depL x.2.1 t.2.2, valOf x.1 C y = valOf x.1 D y) : plainAns x t C p = plainAns x t D p := by
  unfold plainAns
  have e : chkAsk x C p = chkAsk x D p := by unfold chkAsk; rw [hc, hd]
  rw [e, go_ext t.2.2 [] fun a ha => chosen_ext fun c hc y hy => h y (List.mem_flatMap.2 ⟨a, ha, List.mem_flatMap.2 ⟨c, hc, hy⟩⟩)]
theorem config_zero {L : List Setting} {C : List Pair} (h : chkConfig L C = 0) : chkSettings L = 0 ∧ chkSet L true none C = 0 := by
  unfold chkConfig at h
  split at h
  · rename_i q; exact absurd h q
  · rename_i q; exact ⟨Decidable.not_not.1 q, h⟩
theorem dep_look {L : List Setting} {M : List Condition} (h : CondsOk L M) {A : List Attr} : ∀ y ∈ depL M A, ∃ s, look L y = some s := fun y hy => by
  unfold depL at hy
  obtain ⟨a, _, hy⟩ := List.mem_flatMap.1 hy
  obtain ⟨c, _, hy⟩ := List.mem_flatMap.1 hy
  unfold needsC condAns at hy
  cases hc : condOf M c.1 with
  | none => rw [hc] at hy; simp at hy
  | some m =>
    rw [hc] at hy
    obtain ⟨n, hn, rfl⟩ := List.mem_map.1 hy
    obtain ⟨s, hs, _⟩ := (chkSet_ok (h.each m (condOf_mem hc).1).2).1 n hn
    exact ⟨s, hs⟩
/-- With: the setting has this value then, all others theirs -/
theorem with_vals {L : List Setting} {C : List Pair} {n v y : ByteArray} {s : Setting} (hL : chkSettings L = 0) (hy : look L y = some s) : valOf L (withR L C n v) y = if y = n then some v else valOf L C y := by
  obtain ⟨q1, q2⟩ := look_name hy
  have h := withR_val (C := C) (n := n) (v := v) hL q1
  rw [q2] at h
  rw [h]
  unfold withVal
  rw [q2]
  by_cases e : y = n
  · rw [if_pos e, if_pos e]
  · rw [if_neg e, if_neg e]
    obtain ⟨u, hu⟩ := valOf_some (C := C) hL hy
    rw [hu]; rfl
theorem withR_sz {L : List Setting} {C : List Pair} {n v : ByteArray} {s : Setting} (hL : chkSettings L = 0) (hC : chkSet L true none C = 0) (hl : look L n = some s) (hv : v ∈ s.2) : PairSz (withR L C n v) := by
  have h0 := withR_ok hL hC hl hv
  have h1 := withR_len (L := L) (C := C) (n := n) (v := v)
  have h2 := (chkSettings_ne hL).1
  refine ⟨by omega, fun p hp => ?_⟩
  obtain ⟨w1, w2⟩ := cfg_words hL h0 p hp
  have := isWord_size w1
  have := isWord_size w2
  omega
end Go.Proofs.YtonfimidgbppeaaGreatDoor.Ev

namespace Go.Proofs.YtonfimidgbppeaaGreatDoor.Ev
open Go Go.RowKit
set_option linter.unusedVariables false
set_option linter.unusedSimpArgs false
theorem pairSz_of {L : List Pair} (h : WfS 32 (fun x : Pair => x.1.size ≤ 140737488351232 ∧ x.2.size ≤ 140737488351232) L) : PairSz L := ⟨h.2.1, h.2.2⟩
theorem strsSz_of {L : List ByteArray} (h : WfS 16 (fun s : ByteArray => s.size ≤ 140737488351232) L) : StrsSz L := ⟨h.2.1, h.2.2⟩
theorem ConfigDependsIsEnoughPure : ConfigDependsIsEnoughStated := by
  intro W t C D p hW ht hC hD hp
  obtain ⟨a, b, c, d, e⟩ := W
  obtain ⟨ha, hb, hc, hd, he⟩ := hW
  dsimp only at ha hb hc hd he
  have ha : SetSz a := ⟨ha.2.1, fun s hs => ⟨(ha.2.2 s hs).1, (ha.2.2 s hs).2.2.1, (ha.2.2 s hs).2.2.2⟩⟩
  have hb : CondSz b := ⟨hb.2.1, fun s hs => ⟨(hb.2.2 s hs).1, pairSz_of (hb.2.2 s hs).2.1, pairSz_of (hb.2.2 s hs).2.2⟩⟩
  have hc : PlatSz c := ⟨hc.2.1, fun s hs => ⟨(hc.2.2 s hs).1, pairSz_of (hc.2.2 s hs).2⟩⟩
  have hd : ToolSz d := ⟨hd.2.1, fun s hs => ⟨(hd.2.2 s hs).1, (hd.2.2 s hs).2.1, pairSz_of (hd.2.2 s hs).2.2.1, pairSz_of (hd.2.2 s hs).2.2.2⟩⟩
  have he : TranSz e := ⟨he.2.1, fun s hs => ⟨(he.2.2 s hs).1, pairSz_of (he.2.2 s hs).2.1, strsSz_of (he.2.2 s hs).2.2⟩⟩
  have hx : WorldSz (a, b, c, d, e) := ⟨ha, hb, hc, hd, he⟩
  obtain ⟨t1, t2, t3⟩ := ht
  have ht : TgtSz t := ⟨t1, t2, t3.2.1, fun q hq => by
    obtain ⟨q1, hv⟩ := t3.2.2 q hq
    exact ⟨q1, hv.2.1, strsSz_of hv.2.2.2.1, hv.2.2.2.2.2.1, fun c hc => by
      have := hv.2.2.2.2.2.2 c hc
      exact ⟨this.1, this.2.2.1, strsSz_of this.2.2.2.2.1⟩⟩⟩
  have hC := pairSz_of hC
  have hD := pairSz_of hD
  obtain ⟨p1, p2⟩ := hp
  have p2 := pairSz_of p2
  have lC := hC.len
  have wk := S17_spec
  refine Ultk.some ?_
  unfold S5
  dsimp only
  refine Ult.bind (dep_prog (a, b, c, d, e) t hx ht) ?_
  by_cases h1 : chkConditions a b ≠ 0
  · have e1 : depAns (a, b, c, d, e) t = ([], chkConditions a b) := if_pos h1
    rw [e1]
    exact Ult.yes (by rw [ine_eq]; exact decide_eq_true h1) (Ult.yes rfl (Ult.bind wk Ult.ret))
  by_cases h2 : chkTarget t ≠ 0
  · have e1 : depAns (a, b, c, d, e) t = ([], chkTarget t) := by unfold depAns; rw [if_neg h1, if_pos h2]
    rw [e1]
    exact Ult.yes (by rw [ine_eq]; exact decide_eq_true h2) (Ult.yes rfl (Ult.bind wk Ult.ret))
  by_cases h3 : depE b t.2.2 ≠ 0
  · have e1 : depAns (a, b, c, d, e) t = ([], depE b t.2.2) := by unfold depAns; rw [if_neg h1, if_neg h2, if_pos h3]
    rw [e1]
    exact Ult.yes (by rw [ine_eq]; exact decide_eq_true h3) (Ult.yes rfl (Ult.bind wk Ult.ret))
  have e1 : depAns (a, b, c, d, e) t = (depS (depL b t.2.2), 0) := by unfold depAns; rw [if_neg h1, if_neg h2, if_neg h3]
  rw [e1]
  refine Ult.no rfl ?_
  have h1 := Decidable.not_not.1 h1
  have hok := CondsOk.of h1
  have hset := hok.set
  have hmem := (depS_facts (depL b t.2.2)).2
  have hlen : (depS (depL b t.2.2)).length ≤ 9223372036854775807 := by
    have := depAns_len (a, b, c, d, e) t
    rw [e1] at this
    exact this
  have hlk : ∀ y ∈ depS (depL b t.2.2), ∃ s, look a y = some s := fun y hy => dep_look hok y ((hmem y).1 hy)
  dsimp only
  generalize depS (depL b t.2.2) = N at hmem hlen hlk ⊢
  refine Ult.forA (A := List Pair) (fun _ => Nat.le_refl _) N.length (fun q j => (q, (j : Int))) (fun q j => PairSz q ∧ ∀ i (h : i < N.length), i < j → valOf a q N[i] = valOf a C N[i]) (fun _ _ => true) D ⟨hD, fun i _ h => by omega⟩ fun q j hj hI next => ?_
  obtain ⟨hq, hI⟩ := hI
  dsimp only
  rw [iltL]
  have wk' := Ult.lift (l := fun k : Nat => k) wk
  by_cases hlt' : ¬ j < N.length
  · refine Ult.no (decide_eq_false hlt') ?_
    have hin : PlIn (a, b, c, d, e) t C p := ⟨hx, ht, hC, p1, p2⟩
    have hin2 : PlIn (a, b, c, d, e) t q p := ⟨hx, ht, hq, p1, p2⟩
    refine Ult.lift (l := fun k : Nat => k) (f := fun k => bnd (S22 k ((a, b, c, d, e), t, C, p, ())) fun a5 => bnd (S22 k ((a, b, c, d, e), t, q, p, ())) fun a6 => jn (fun (a7 : Unit → Option Bool) => bnd (S28 k (a, C, ())) fun a8 => cnd (ine a8 0) (bnd (S17 k ()) fun a9 => some a9) (bnd (S28 k (a, q, ())) fun a9 => cnd (ine a9 0) (bnd (S17 k ()) fun a10 => some a10) (a7 ()))) fun _ => cnd (ieq a5.2.2 a6.2.2) (cnd (seq a5.2.1 a6.2.1) (bnd (S23 k (a5.1, a6.1, ())) fun a8 => cnd a8 (bnd (S17 k ()) fun a9 => some a9) (some false)) (some false)) (some false)) ?_
    refine Ult.bind (plain_prog (a, b, c, d, e) t C p hin) (Ult.bind (plain_prog (a, b, c, d, e) t q p hin2) (Ult.jn ?_))
    refine Ult.bind (S28_spec a C ha (by omega)) ?_
    by_cases hc0 : chkConfig a C = 0
    case neg => exact Ult.yes (by rw [ine_eq]; exact decide_eq_true hc0) (Ult.bind wk Ult.ret)
    refine Ult.no (by rw [ine_eq]; exact decide_eq_false (fun z => z hc0)) (Ult.bind (S28_spec a q ha (by have := hq.len; omega)) ?_)
    by_cases hd0 : chkConfig a q = 0
    case neg => exact Ult.yes (by rw [ine_eq]; exact decide_eq_true hd0) (Ult.bind wk Ult.ret)
    refine Ult.no (by rw [ine_eq]; exact decide_eq_false (fun z => z hd0)) ?_
    have ex : plainAns (a, b, c, d, e) t C p = plainAns (a, b, c, d, e) t q p := plain_ext hc0 hd0 fun y hy => by
      obtain ⟨i, hi, rfl⟩ := List.getElem_of_mem ((hmem y).2 hy)
      exact (hI i hi (by omega)).symm
    rw [← ex]
    have fl := plain_flat hin
    have same : Ultk (fun k => S23 k ((plainAns (a, b, c, d, e) t C p).1, (plainAns (a, b, c, d, e) t C p).1, ())) true := sameT_self _ (by have := fl.1; omega) fun z hz => by
      obtain ⟨f1, f2⟩ := fl.2 z hz
      have sz : V1Sz z.2 := ⟨(plain_text hin z hz), f1, by rw [f2]; simp, fun w hw => by rw [f2] at hw; cases hw⟩
      exact ⟨sz, fun w hw => by rw [f2] at hw; cases hw⟩
    exact Ult.yes (by rw [ieq_eq]; simp) (Ult.yes (by rw [seq_eq]; simp) (Ult.bind same (Ult.yes rfl (Ult.bind wk Ult.ret))))
  have hlt : j < N.length := Decidable.not_not.1 hlt'
  refine Ult.yes (decide_eq_true hlt) (Ult.bindc (at?_nat hlt) ?_)
  refine Ult.bind (Ult.call (f := fun k => S26 k (a, C, N[j], ())) (lp_le _ _ fun _ => Nat.le_refl _) (S26_spec a C N[j] ha (by omega))) ?_
  by_cases hv0 : (valueOf a C N[j]).2 ≠ 0
  · exact Ult.yes (by rw [ine_eq]; exact decide_eq_true hv0) (Ult.bind wk' Ult.ret)
  refine Ult.no (by rw [ine_eq]; exact decide_eq_false hv0) ?_
  refine Ult.bind (Ult.call (f := fun k => S27 k (a, q, N[j], (valueOf a C N[j]).1, ())) (lp_le _ _ fun _ => Nat.le_refl _) (S27_spec a q N[j] (valueOf a C N[j]).1 ha hq)) ?_
  by_cases hw0 : (withAns a q N[j] (valueOf a C N[j]).1).2 ≠ 0
  · exact Ult.yes (by rw [ine_eq]; exact decide_eq_true hw0) (Ult.bind wk' Ult.ret)
  refine Ult.no (by rw [ine_eq]; exact decide_eq_false hw0) ?_
  have hv0 := Decidable.not_not.1 hv0
  have hw0 := Decidable.not_not.1 hw0
  have ev : (valueOf a C N[j]).1 = (valOf a C N[j]).getD ⟨#[]⟩ := by
    unfold valueOf at hv0 ⊢
    split at hv0
    · rename_i z; exact absurd hv0 z
    rename_i z1
    split at hv0
    · cases hv0
    rename_i z2
    rw [if_neg z1, if_neg z2]
  have ew : ∃ s, chkConfig a q = 0 ∧ look a N[j] = some s ∧ (valueOf a C N[j]).1 ∈ s.2 ∧ withAns a q N[j] (valueOf a C N[j]).1 = (withR a q N[j] (valueOf a C N[j]).1, 0) := by
    unfold withAns at hw0 ⊢
    split at hw0
    · rename_i z; exact absurd hw0 z
    rename_i z1
    rw [if_neg z1]
    cases hs : look a N[j] with
    | none => rw [hs] at hw0; cases hw0
    | some s =>
      rw [hs] at hw0
      dsimp only at hw0 ⊢
      split at hw0
      · cases hw0
      rename_i z2
      rw [if_neg z2]
      exact ⟨s, Decidable.not_not.1 z1, rfl, memB_iff.1 (by simpa using z2), rfl⟩
  obtain ⟨s, w1, w2, w3, w4⟩ := ew
  obtain ⟨_, w1⟩ := config_zero w1
  rw [w4, isucc hlt hlen]
  refine next _ hlt ⟨withR_sz hset w1 w2 w3, fun i hi hij => ?_⟩
  obtain ⟨u, hu⟩ := hlk N[i] (List.getElem_mem hi)
  rw [with_vals hset hu]
  by_cases ei : N[i] = N[j]
  · rw [if_pos ei, ev, ei]
    obtain ⟨z, hz⟩ := valOf_some (C := C) hset w2
    rw [hz]; rfl
  · rw [if_neg ei]
    refine hI i hi ?_
    rcases Nat.lt_or_ge i j with z | z
    · exact z
    · have : i = j := by omega
      subst this
      exact absurd rfl ei
end Go.Proofs.YtonfimidgbppeaaGreatDoor.Ev
