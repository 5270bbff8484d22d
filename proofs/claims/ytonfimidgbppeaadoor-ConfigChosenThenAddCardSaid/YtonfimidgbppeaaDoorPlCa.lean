/- The plain laws (this session's own). No condition but those in the statements. -/
import Derived.Test.YtonfimidgbppeaaDoorFChd
import Derived.Test.YtonfimidgbppeaaDoorEv5
import Derived.Test.YtonfimidgbppeaaDoorEvD
import Derived.Test.YtonfimidgbppeaaDoorEvK
import Derived.Sort.Walk0
namespace Go.Proofs.YtonfimidgbppeaaDoor.Ev
open Go Go.RowKit
/-- THE ONE PURE STATEMENT. -/
def ConfigChosenThenAddStated : Prop := ∀ (x0 : (.agg (.pair (.slice (.agg (.pair (.str) (.slice (.str))))) (.pair (.slice (.agg (.pair (.str) (.pair (.slice (.agg (.pair (.str) (.str)))) (.slice (.agg (.pair (.str) (.str)))))))) (.pair (.slice (.agg (.pair (.str) (.slice (.agg (.pair (.str) (.str))))))) (.pair (.slice (.agg (.pair (.str) (.pair (.str) (.pair (.slice (.agg (.pair (.str) (.str)))) (.slice (.agg (.pair (.str) (.str))))))))) (.slice (.agg (.pair (.str) (.pair (.slice (.agg (.pair (.str) (.str)))) (.slice (.str)))))))))) : Kd).T) (x1 : (.agg (.pair (.int .i64) (.pair (.str) (.pair (.int .i64) (.pair (.slice (.str)) (.slice (.agg (.pair (.str) (.agg (.pair (.int .i64) (.pair (.str) (.pair (.int .i64) (.pair (.slice (.str)) (.oslice 0))))))))))))) : Kd).T) (x2 : (.agg (.pair (.int .i64) (.pair (.str) (.pair (.int .i64) (.pair (.slice (.str)) (.slice (.agg (.pair (.str) (.agg (.pair (.int .i64) (.pair (.str) (.pair (.int .i64) (.pair (.slice (.str)) (.oslice 0))))))))))))) : Kd).T) (x3 : (.slice (.agg (.pair (.str) (.str))) : Kd).T) (x4 : (.agg (.pair (.str) (.slice (.agg (.pair (.str) (.str))))) : Kd).T), (fun x => (WfS 40 (fun x => (fun s => s.size ≤ 140737488351232) x.1 ∧ (WfS 16 (fun s => s.size ≤ 140737488351232)) x.2)) x.1 ∧ (fun x => (WfS 64 (fun x => (fun s => s.size ≤ 140737488351232) x.1 ∧ (fun x => (WfS 32 (fun x => (fun s => s.size ≤ 140737488351232) x.1 ∧ (fun s => s.size ≤ 140737488351232) x.2)) x.1 ∧ (WfS 32 (fun x => (fun s => s.size ≤ 140737488351232) x.1 ∧ (fun s => s.size ≤ 140737488351232) x.2)) x.2) x.2)) x.1 ∧ (fun x => (WfS 40 (fun x => (fun s => s.size ≤ 140737488351232) x.1 ∧ (WfS 32 (fun x => (fun s => s.size ≤ 140737488351232) x.1 ∧ (fun s => s.size ≤ 140737488351232) x.2)) x.2)) x.1 ∧ (fun x => (WfS 80 (fun x => (fun s => s.size ≤ 140737488351232) x.1 ∧ (fun x => (fun s => s.size ≤ 140737488351232) x.1 ∧ (fun x => (WfS 32 (fun x => (fun s => s.size ≤ 140737488351232) x.1 ∧ (fun s => s.size ≤ 140737488351232) x.2)) x.1 ∧ (WfS 32 (fun x => (fun s => s.size ≤ 140737488351232) x.1 ∧ (fun s => s.size ≤ 140737488351232) x.2)) x.2) x.2) x.2)) x.1 ∧ (WfS 64 (fun x => (fun s => s.size ≤ 140737488351232) x.1 ∧ (fun x => (WfS 32 (fun x => (fun s => s.size ≤ 140737488351232) x.1 ∧ (fun s => s.size ≤ 140737488351232) x.2)) x.1 ∧ (WfS 16 (fun s => s.size ≤ 140737488351232)) x.2) x.2)) x.2) x.2) x.2) x.2) x0 → (fun x => (fun n => (Lit.int .i64 n).wf = true) x.1 ∧ (fun x => (fun s => s.size ≤ 140737488351232) x.1 ∧ (fun x => (fun n => (Lit.int .i64 n).wf = true) x.1 ∧ (fun x => (WfS 16 (fun s => s.size ≤ 140737488351232)) x.1 ∧ (WfS 96 (fun x => (fun s => s.size ≤ 140737488351232) x.1 ∧ (fun x => (fun n => (Lit.int .i64 n).wf = true) x.1 ∧ (fun x => (fun s => s.size ≤ 140737488351232) x.1 ∧ (fun x => (fun n => (Lit.int .i64 n).wf = true) x.1 ∧ (fun x => (WfS 16 (fun s => s.size ≤ 140737488351232)) x.1 ∧ (fun _ => True) x.2) x.2) x.2) x.2) x.2)) x.2) x.2) x.2) x.2) x1 → (fun x => (fun n => (Lit.int .i64 n).wf = true) x.1 ∧ (fun x => (fun s => s.size ≤ 140737488351232) x.1 ∧ (fun x => (fun n => (Lit.int .i64 n).wf = true) x.1 ∧ (fun x => (WfS 16 (fun s => s.size ≤ 140737488351232)) x.1 ∧ (WfS 96 (fun x => (fun s => s.size ≤ 140737488351232) x.1 ∧ (fun x => (fun n => (Lit.int .i64 n).wf = true) x.1 ∧ (fun x => (fun s => s.size ≤ 140737488351232) x.1 ∧ (fun x => (fun n => (Lit.int .i64 n).wf = true) x.1 ∧ (fun x => (WfS 16 (fun s => s.size ≤ 140737488351232)) x.1 ∧ (fun _ => True) x.2) x.2) x.2) x.2) x.2)) x.2) x.2) x.2) x.2) x2 → (WfS 32 (fun x => (fun s => s.size ≤ 140737488351232) x.1 ∧ (fun s => s.size ≤ 140737488351232) x.2)) x3 → (fun x => (fun s => s.size ≤ 140737488351232) x.1 ∧ (WfS 32 (fun x => (fun s => s.size ≤ 140737488351232) x.1 ∧ (fun s => s.size ≤ 140737488351232) x.2)) x.2) x4 → ∃ k, S4 k (x0, x1, x2, x3, x4, ()) = some true
end Go.Proofs.YtonfimidgbppeaaDoor.Ev

namespace Go.Proofs.YtonfimidgbppeaaDoor.Ev
open Go.RowKit
set_option linter.unusedVariables false

/-- from some number of rounds on; l: the least of all numbers of rounds that matter -/
def Ult {ι R : Type} (l : ι → Nat) (f : ι → Option R) (r : R) : Prop := ∃ K, ∀ i, K ≤ l i → f i = some r
variable {ι R α : Type} {l : ι → Nat}
theorem Ult.ret {r : R} : Ult l (fun _ => some r) r := ⟨0, fun _ _ => rfl⟩
theorem Ult.congr {f g : ι → Option R} {r : R} (h : Ult l f r) (e : ∀ i, g i = f i) : Ult l g r := by
  obtain ⟨K, h⟩ := h
  exact ⟨K, fun i hi => (e i).trans (h i hi)⟩
theorem Ult.bind {f : ι → Option α} {g : ι → α → Option R} {a : α} {r : R} (h : Ult l f a) (k : Ult l (fun i => g i a) r) : Ult l (fun i => bnd (f i) (g i)) r := by
  obtain ⟨K, h⟩ := h
  obtain ⟨L, k⟩ := k
  refine ⟨max K L, fun i hi => ?_⟩
  show Option.bind (f i) (g i) = some r
  rw [h i (by omega)]
  exact k i (by omega)
theorem Ult.bindc {m : Option α} {g : ι → α → Option R} {a : α} {r : R} (h : m = some a) (k : Ult l (fun i => g i a) r) : Ult l (fun i => bnd m (g i)) r := Ult.bind ⟨0, fun _ _ => h⟩ k
theorem Ult.yes {c : Bool} {f g : ι → Option R} {r : R} (hc : c = true) (h : Ult l f r) : Ult l (fun i => cnd c (f i) (g i)) r := by subst hc; exact h
theorem Ult.no {c : Bool} {f g : ι → Option R} {r : R} (hc : c = false) (h : Ult l g r) : Ult l (fun i => cnd c (f i) (g i)) r := by subst hc; exact h
theorem Ult.ite {c : Bool} {f g : ι → Option R} {r : R} (h : c = true → Ult l f r) (k : c = false → Ult l g r) : Ult l (fun i => cnd c (f i) (g i)) r := by
  cases c
  · exact Ult.no rfl (k rfl)
  · exact Ult.yes rfl (h rfl)
/-- a function's own number of rounds -/
abbrev Ultk (f : Nat → Option R) (r : R) : Prop := Ult (fun k : Nat => k) f r
theorem Ult.call {f : Nat → Option R} {r : R} {k : ι → Nat} (hk : ∀ i, l i ≤ k i) (h : Ultk f r) : Ult l (fun i => f (k i)) r := by
  obtain ⟨K, h⟩ := h
  exact ⟨K, fun i hi => h (k i) (Nat.le_trans hi (hk i))⟩
theorem Ultk.call {f : Nat → Option R} {r : R} (h : Ultk f r) : Ultk (fun k => f k) r := h
/-- the rounds of a loop, told by a number of their own -/
def lp (l : ι → Nat) (p : ι × Nat) : Nat := min (l p.1) p.2
theorem lp_le (l : ι → Nat) (k : ι → Nat) (hk : ∀ i, l i ≤ k i) : ∀ p : ι × Nat, lp l p ≤ k p.1 := fun p => Nat.le_trans (Nat.min_le_left _ _) (hk _)
variable {X : Type}
theorem Ult.loop {st : ι → (X → Option R) → X → Option R} {x : X} {r : R} {k : ι → Nat} (hk : ∀ i, l i ≤ k i) (h : Ult (lp l) (fun p => loopN p.2 (st p.1) x) r) : Ult l (fun i => loopN (k i) (st i) x) r := by
  obtain ⟨K, h⟩ := h
  refine ⟨K, fun i hi => h (i, k i) ?_⟩
  have := hk i
  show K ≤ min (l i) (k i)
  omega
theorem Ult.round {st : ι → (X → Option R) → X → Option R} {x : X} {r : R} (h : Ult (lp l) (fun p => st p.1 (loopN p.2 (st p.1)) x) r) : Ult (lp l) (fun p => loopN p.2 (st p.1) x) r := by
  obtain ⟨K, h⟩ := h
  refine ⟨K + 1, fun p hp => ?_⟩
  obtain ⟨i, n⟩ := p
  have h1 : K + 1 ≤ min (l i) n := hp
  cases n with
  | zero => omega
  | succ n =>
    have h2 := h (i, n) (show K ≤ min (l i) n by omega)
    exact h2
/-- rounds by a measure -/
theorem Ult.rounds {st : ι → (X → Option R) → X → Option R} {r : R} (I : X → Prop) (μ : X → Nat) (h : ∀ x, I x → (∀ y, I y → μ y < μ x → Ult (lp l) (fun p => loopN p.2 (st p.1) y) r) → Ult (lp l) (fun p => st p.1 (loopN p.2 (st p.1)) x) r) :
    ∀ x, I x → Ult (lp l) (fun p => loopN p.2 (st p.1) x) r := by
  intro x
  generalize hn : μ x = n
  induction n using Nat.strongRecOn generalizing x with
  | _ n ih =>
    intro hI
    refine Ult.round (h x hI fun y hy hlt => ih (μ y) (by omega) y rfl hy)

/-- a loop by an invariant and a measure -/
theorem Ult.loopI {st : ι → (X → Option R) → X → Option R} {x : X} {r : R} {k : ι → Nat} (hk : ∀ i, l i ≤ k i) (I : X → Prop) (μ : X → Nat) (h0 : I x)
    (h : ∀ x, I x → (∀ y, I y → μ y < μ x → Ult (lp l) (fun p => loopN p.2 (st p.1) y) r) → Ult (lp l) (fun p => st p.1 (loopN p.2 (st p.1)) x) r) : Ult l (fun i => loopN (k i) (st i) x) r :=
  Ult.loop hk (Ult.rounds I μ h x h0)

/-! ### total correctness: it ends, and with what is wanted -/
def Fin {ι R : Type} (l : ι → Nat) (f : ι → Option R) (Q : R → Prop) : Prop := ∃ r, Q r ∧ Ult l f r
abbrev Fink {R : Type} (f : Nat → Option R) (Q : R → Prop) : Prop := Fin (fun k : Nat => k) f Q
variable {Q : R → Prop}
theorem Fin.ret {r : R} (h : Q r) : Fin l (fun _ => some r) Q := ⟨r, h, Ult.ret⟩
theorem Fin.bind {f : ι → Option α} {g : ι → α → Option R} {Qa : α → Prop} (h : Fin l f Qa) (k : ∀ a, Qa a → Fin l (fun i => g i a) Q) : Fin l (fun i => bnd (f i) (g i)) Q := by
  obtain ⟨a, ha, h⟩ := h
  obtain ⟨r, hr, k⟩ := k a ha
  exact ⟨r, hr, Ult.bind h k⟩
theorem Fin.bindu {f : ι → Option α} {g : ι → α → Option R} {a : α} (h : Ult l f a) (k : Fin l (fun i => g i a) Q) : Fin l (fun i => bnd (f i) (g i)) Q := by
  obtain ⟨r, hr, k⟩ := k
  exact ⟨r, hr, Ult.bind h k⟩
theorem Fin.bindc {m : Option α} {g : ι → α → Option R} {a : α} (h : m = some a) (k : Fin l (fun i => g i a) Q) : Fin l (fun i => bnd m (g i)) Q := Fin.bindu ⟨0, fun _ _ => h⟩ k
theorem Fin.ite {c : Bool} {f g : ι → Option R} (h : c = true → Fin l f Q) (k : c = false → Fin l g Q) : Fin l (fun i => cnd c (f i) (g i)) Q := by
  cases c
  · exact k rfl
  · exact h rfl
theorem Fin.mono {Q' : R → Prop} {f : ι → Option R} (h : Fin l f Q) (k : ∀ r, Q r → Q' r) : Fin l f Q' := by
  obtain ⟨r, hr, h⟩ := h
  exact ⟨r, k r hr, h⟩
theorem Fin.of {f : ι → Option R} {r : R} (h : Ult l f r) (hq : Q r) : Fin l f Q := ⟨r, hq, h⟩
theorem Fin.ult {f : ι → Option R} {r : R} (h : Fin l f (fun x => x = r)) : Ult l f r := by
  obtain ⟨_, rfl, h⟩ := h
  exact h
theorem Fin.call {f : Nat → Option R} {k : ι → Nat} (hk : ∀ i, l i ≤ k i) (h : Fink f Q) : Fin l (fun i => f (k i)) Q := by
  obtain ⟨r, hr, h⟩ := h
  exact ⟨r, hr, Ult.call hk h⟩
/-- a loop by an invariant and a measure -/
theorem Fin.loopI {st : ι → (X → Option R) → X → Option R} {x : X} {k : ι → Nat} (hk : ∀ i, l i ≤ k i) (I : X → Prop) (μ : X → Nat) (h0 : I x)
    (h : ∀ x, I x → (∀ y, I y → μ y < μ x → Fin (lp l) (fun p => loopN p.2 (st p.1) y) Q) → Fin (lp l) (fun p => st p.1 (loopN p.2 (st p.1)) x) Q) : Fin l (fun i => loopN (k i) (st i) x) Q := by
  have key : ∀ (n : Nat) (x : X), μ x = n → I x → Fin (lp l) (fun p => loopN p.2 (st p.1) x) Q := by
    intro n
    induction n using Nat.strongRecOn with
    | _ n ih =>
      intro x hn hI
      obtain ⟨r, hr, hu⟩ := h x hI fun y hy hlt => ih (μ y) (by omega) y rfl hy
      exact ⟨r, hr, Ult.round hu⟩
  obtain ⟨r, hr, hu⟩ := key _ x rfl h0
  exact ⟨r, hr, Ult.loop hk hu⟩
theorem Ult.lift {f : ι → Option R} {r : R} (h : Ult l f r) : Ult (lp l) (fun q => f q.1) r := by
  obtain ⟨K, h⟩ := h
  exact ⟨K, fun q hq => h q.1 (Nat.le_trans hq (Nat.min_le_left _ _))⟩
theorem Fin.lift {f : ι → Option R} (h : Fin l f Q) : Fin (lp l) (fun q => f q.1) Q := by
  obtain ⟨r, hr, h⟩ := h
  exact ⟨r, hr, h.lift⟩
theorem Ultk.unique {f : Nat → Option R} {a b : R} (h : Ultk f a) (k : Ultk f b) : a = b := by
  obtain ⟨K, h⟩ := h
  obtain ⟨L, k⟩ := k
  have h1 := h (max K L) (Nat.le_max_left _ _)
  rw [k (max K L) (Nat.le_max_right _ _)] at h1
  exact (Option.some.inj h1).symm

/-! ### the operations -/
theorem wrap64 {n : Int} (h0 : -9223372036854775808 ≤ n) (h1 : n ≤ 9223372036854775807) : IntKind.i64.wrap n = n := by
  rw [IntKind.wrap_i64]; omega
theorem iadd64 {a b : Int} (h0 : -9223372036854775808 ≤ a + b) (h1 : a + b ≤ 9223372036854775807) : iadd .i64 a b = a + b := wrap64 h0 h1
theorem isub64 {a b : Int} (h0 : -9223372036854775808 ≤ a - b) (h1 : a - b ≤ 9223372036854775807) : isub .i64 a b = a - b := wrap64 h0 h1
theorem at?_nat {l : List α} {i : Nat} (h : i < l.length) : at? l (i : Int) = some l[i] := by
  unfold at?
  rw [if_pos (Int.natCast_nonneg _), Int.toNat_natCast, List.getElem?_eq_getElem h]
theorem bt?_nat {s : ByteArray} {i : Nat} (h : i < s.size) : bt? s (i : Int) = some (bt s (i : Int)) := by
  unfold bt?
  rw [if_pos ⟨Int.natCast_nonneg _, by omega⟩]
theorem len_def {l : List α} : len l = (l.length : Int) := rfl

end Go.Proofs.YtonfimidgbppeaaDoor.Ev

namespace Go.Proofs.YtonfimidgbppeaaDoor.Ev
open Go Go.RowKit
set_option linter.unusedVariables false
set_option linter.unusedSimpArgs false
variable {ι R X A α β : Type} {l : ι → Nat}

/-- a loop by an index and what is gathered; 'res': what comes of it from there on -/
theorem Ult.forA {st : ι → (X → Option R) → X → Option R} {k : ι → Nat} (hk : ∀ i, l i ≤ k i) (n : Nat) (mk : A → Nat → X) (I : A → Nat → Prop) (res : A → Nat → R) (a0 : A) (h0 : I a0 0)
    (h : ∀ a j, j ≤ n → I a j → (∀ a', j < n → I a' (j + 1) → Ult (lp l) (fun p => loopN p.2 (st p.1) (mk a' (j + 1))) (res a' (j + 1))) → Ult (lp l) (fun p => st p.1 (loopN p.2 (st p.1)) (mk a j)) (res a j)) :
    Ult l (fun i => loopN (k i) (st i) (mk a0 0)) (res a0 0) := by
  have key : ∀ (d j : Nat) (a : A), n - j = d → j ≤ n → I a j → Ult (lp l) (fun p => loopN p.2 (st p.1) (mk a j)) (res a j) := by
    intro d
    induction d with
    | zero => intro j a hd hj hI; exact Ult.round (h a j hj hI fun a' hlt _ => by omega)
    | succ d ih => intro j a hd hj hI; exact Ult.round (h a j hj hI fun a' hlt hI' => ih (j + 1) a' (by omega) (by omega) hI')
  exact Ult.loop hk (key n 0 a0 (by omega) (Nat.zero_le _) h0)
theorem Ult.forI {st : ι → (Int → Option R) → Int → Option R} {k : ι → Nat} (hk : ∀ i, l i ≤ k i) (n : Nat) (res : Nat → R)
    (h : ∀ j, j ≤ n → (j < n → Ult (lp l) (fun p => loopN p.2 (st p.1) ((j + 1 : Nat) : Int)) (res (j + 1))) → Ult (lp l) (fun p => st p.1 (loopN p.2 (st p.1)) (j : Int)) (res j)) :
    Ult l (fun i => loopN (k i) (st i) 0) (res 0) :=
  Ult.forA (A := Unit) hk n (fun _ j => (j : Int)) (fun _ _ => True) (fun _ j => res j) () trivial fun _ j hj _ hn => h j hj fun hlt => hn () hlt trivial
theorem Ult.jn {f : ι → (X → Option R) → Option R} {g : ι → X → Option R} {r : R} (h : Ult l (fun i => f i (g i)) r) : Ult l (fun i => jn (f i) (g i)) r := h
theorem Ult.eq {f : ι → Option R} {r r' : R} (h : Ult l f r) (e : r = r') : Ult l f r' := e ▸ h
theorem Ult.iteS {c : Bool} {f g : ι → Option R} {r r' : R} (h : c = true → Ult l f r) (k : c = false → Ult l g r') : Ult l (fun i => cnd c (f i) (g i)) (if c then r else r') := by
  cases c
  · exact Ult.no rfl (k rfl)
  · exact Ult.yes rfl (h rfl)
theorem Ult.ifS {c : Bool} {p : Prop} [Decidable p] (e : c = decide p) {f g : ι → Option R} {r r' : R} (h : p → Ult l f r) (k : ¬ p → Ult l g r') : Ult l (fun i => cnd c (f i) (g i)) (if p then r else r') := by
  subst e
  by_cases hp : p
  · rw [if_pos hp]; exact Ult.yes (decide_eq_true hp) (h hp)
  · rw [if_neg hp]; exact Ult.no (decide_eq_false hp) (k hp)

/-! ### operations -/
theorem seq_eq (a b : ByteArray) : seq a b = decide (a = b) := by
  unfold seq
  by_cases h : a = b
  · subst h; simp
  · rw [decide_eq_false h, beq_eq_false_iff_ne]
    intro e
    refine h ?_
    rw [ByteArray.toList_eq, ByteArray.toList_eq] at e
    obtain ⟨⟨x⟩⟩ := a
    obtain ⟨⟨y⟩⟩ := b
    simpa using e
theorem sne_eq (a b : ByteArray) : sne a b = decide (a ≠ b) := by
  have := seq_eq a b
  unfold seq at this
  unfold sne
  rw [this]
  by_cases h : a = b <;> simp [h]
theorem ieq_eq (a b : Int) : ieq a b = decide (a = b) := by
  unfold ieq
  by_cases h : a = b <;> simp [h]
theorem ine_eq (a b : Int) : ine a b = decide (a ≠ b) := by
  unfold ine
  by_cases h : a = b <;> simp [h]
theorem igt_eq (a b : Int) : igt a b = decide (b < a) := rfl
theorem ige_eq (a b : Int) : ige a b = decide (b ≤ a) := rfl
theorem ilt_eq (a b : Int) : ilt a b = decide (a < b) := rfl
theorem ile_eq (a b : Int) : ile a b = decide (a ≤ b) := rfl
theorem bnot_eq (a : Bool) : bnot a = !a := rfl
theorem iltL (j : Nat) (l : List α) : ilt (j : Int) (len l) = decide (j < l.length) := by
  unfold ilt len
  by_cases h : j < l.length
  · rw [decide_eq_true h, decide_eq_true (by omega)]
  · rw [decide_eq_false h, decide_eq_false (by omega)]
theorem igt0 (j : Nat) : igt (j : Int) 0 = decide (0 < j) := by
  unfold igt
  by_cases h : 0 < j
  · rw [decide_eq_true h, decide_eq_true (by omega)]
  · rw [decide_eq_false h, decide_eq_false (by omega)]
theorem isucc {j n : Nat} (h : j < n) (hn : n ≤ 9223372036854775807) : iadd .i64 (j : Int) 1 = ((j + 1 : Nat) : Int) := by rw [iadd64 (by omega) (by omega)]; rfl
theorem ipred {j n : Nat} (h0 : 0 < j) (h : j ≤ n) (hn : n ≤ 9223372036854775807) : isub .i64 (j : Int) 1 = ((j - 1 : Nat) : Int) := by rw [isub64 (by omega) (by omega)]; omega
theorem app?_ok {b : Nat} {l r : List α} (h : (l.length + r.length) * (max b 1) ≤ 140737488355328) : app? b l r = some (l ++ r) := by unfold app?; rw [if_pos h]
theorem cat?_ok {a b : ByteArray} (h : a.size + b.size ≤ 9223372036854775807) : cat? a b = some (a ++ b) := by unfold cat?; rw [if_pos h]
theorem cut?_take {l : List α} {j : Nat} (h : j ≤ l.length) : cut? l 0 (j : Int) = some (l.take j) := by
  unfold cut?
  rw [if_pos ⟨Int.le_refl _, by omega, by omega⟩]
  simp
theorem kbeq_pair (a b : ByteArray × ByteArray) : kbeq (.agg (.pair .str .str)) a b = decide (a = b) := by
  show (seq a.1 b.1 && seq a.2 b.2) = _
  rw [seq_eq, seq_eq]
  by_cases h1 : a.1 = b.1 <;> by_cases h2 : a.2 = b.2 <;> simp [h1, h2, Prod.ext_iff]
theorem drop_cons {l : List α} {j : Nat} (h : j < l.length) : l.drop j = l[j] :: l.drop (j + 1) := List.drop_eq_getElem_cons h

/-! ### strings in order -/
def lt (a b : ByteArray) : Prop := a.data.toList < b.data.toList
theorem slt_eq (a b : ByteArray) : slt a b = decide (a.data.toList < b.data.toList) := by
  unfold slt
  rw [ByteArray.toList_eq, ByteArray.toList_eq]
  exact bytesLess_eq _ _
theorem bytes_ext {a b : ByteArray} (h : a.data.toList = b.data.toList) : a = b := by
  obtain ⟨⟨x⟩⟩ := a
  obtain ⟨⟨y⟩⟩ := b
  simpa using h
theorem sle_eq (a b : ByteArray) : sle a b = decide (¬ b.data.toList < a.data.toList) := by
  have h : sle a b = (Op.bytesLess a.toList b.toList || a.toList == b.toList) := rfl
  rw [h, ByteArray.toList_eq, ByteArray.toList_eq, bytesLess_eq]
  by_cases h1 : a.data.toList < b.data.toList
  · simp [h1, List.lt_asymm h1]
  · by_cases h2 : a.data.toList = b.data.toList
    · rw [h2]; simp [List.lt_irrefl]
    · have h3 : b.data.toList < a.data.toList := by
        rcases List.le_total a.data.toList b.data.toList with q | q
        · rcases List.le_iff_lt_or_eq.1 q with q | q
          · exact absurd q h1
          · exact absurd q h2
        · rcases List.le_iff_lt_or_eq.1 q with q | q
          · exact q
          · exact absurd q.symm h2
      have h4 : ¬ a.data = b.data := fun e => h2 (by rw [e])
      simp [h1, h4, h3]
end Go.Proofs.YtonfimidgbppeaaDoor.Ev

namespace Go.Proofs.YtonfimidgbppeaaDoor.Ev
open Go Go.RowKit
set_option linter.unusedVariables false
set_option linter.unusedSimpArgs false
theorem bt_get {s : ByteArray} {j : Nat} (h : j < s.size) : bt s (j : Int) = ((s.data.toList[j]'(by simpa using h)).toNat : Int) := by
  unfold bt
  rw [dif_pos (by simpa using h)]
  simp [ByteArray.getElem_eq_getElem_data]
theorem bt?_get {s : ByteArray} {j : Nat} (h : j < s.size) : bt? s (j : Int) = some (bt s (j : Int)) := by unfold bt?; rw [if_pos ⟨Int.natCast_nonneg _, by omega⟩]
theorem toList_len (s : ByteArray) : s.data.toList.length = s.size := by simp
theorem iltS (j : Nat) (s : ByteArray) : ilt (j : Int) (ssz s) = decide (j < s.size) := by
  unfold ilt ssz
  by_cases h : j < s.size
  · rw [decide_eq_true h, decide_eq_true (by omega)]
  · rw [decide_eq_false h, decide_eq_false (by omega)]
/-- a byte of a word -/
def wc (c : Int) : Bool := decide (97 ≤ c ∧ c ≤ 122) || decide (48 ≤ c ∧ c ≤ 57) || decide (c = 45) || decide (c = 95)
def allW (l : List UInt8) : Bool := l.all fun b => wc (b.toNat : Int)
def isWord (s : ByteArray) : Bool := decide (1 ≤ s.size ∧ s.size ≤ 40) && (decide (97 ≤ bt s 0 ∧ bt s 0 ≤ 122) && allW s.data.toList)
theorem isWord_size {s : ByteArray} (h : isWord s = true) : 1 ≤ s.size ∧ s.size ≤ 40 := by
  simp only [isWord, Bool.and_eq_true, decide_eq_true_eq] at h
  exact h.1
theorem isWord_all {s : ByteArray} (h : isWord s = true) : allW s.data.toList = true := by
  simp only [isWord, Bool.and_eq_true, decide_eq_true_eq] at h
  exact h.2.2
def wset : List UInt8 := [97, 98, 99, 100, 101, 102, 103, 104, 105, 106, 107, 108, 109, 110, 111, 112, 113, 114, 115, 116, 117, 118, 119, 120, 121, 122, 48, 49, 50, 51, 52, 53, 54, 55, 56, 57, 95, 45]
theorem wset_mem (b : UInt8) : wset.contains b = wc (b.toNat : Int) := by
  have key : ∀ n : _root_.Fin 256, wset.contains (UInt8.ofNat n.1) = wc ((UInt8.ofNat n.1).toNat : Int) := by decide +kernel
  have := key ⟨b.toNat, b.toNat_lt⟩
  simpa using this
theorem dropWhile_nil {α : Type} {p : α → Bool} : ∀ {l : List α}, l.dropWhile p = [] ↔ ∀ x ∈ l, p x = true
  | [] => by simp
  | a :: l => by
    cases h : p a with
    | true => simp [List.dropWhile, h, dropWhile_nil (l := l)]
    | false => simp [List.dropWhile, h]
theorem trimS_nil (l cs : List UInt8) : (Lib.trimS l cs = []) ↔ ∀ b ∈ l, cs.contains b = true := by
  unfold Lib.trimS Lib.trimLeftS Lib.trimRightS
  constructor
  · intro h
    rw [dropWhile_nil] at h
    have h2 : l.reverse.dropWhile (cs.contains ·) = [] := by
      cases hd : l.reverse.dropWhile (cs.contains ·) with
      | nil => rfl
      | cons a r =>
        have h3 := h a (by rw [hd]; simp)
        have h4 : ((l.reverse.dropWhile (cs.contains ·)).head?).all (fun x => !(cs.contains x)) = true := by
          have := List.head?_dropWhile_not (cs.contains ·) l.reverse
          rw [hd] at this ⊢
          simpa using this
        rw [hd] at h4
        simp only [List.head?_cons, Option.all_some, Bool.not_eq_true'] at h4
        rw [h4] at h3; cases h3
    rw [dropWhile_nil] at h2
    intro b hb
    exact h2 b (by simpa using hb)
  · intro h
    have h2 : l.reverse.dropWhile (cs.contains ·) = [] := by
      rw [dropWhile_nil]
      intro b hb
      exact h b (by simpa using hb)
    rw [h2]; rfl
theorem all_contains (l : List UInt8) : (∀ b ∈ l, wset.contains b = true) ↔ allW l = true := by
  unfold allW
  rw [List.all_eq_true]
  exact ⟨fun h b hb => by rw [← wset_mem]; exact h b hb, fun h b hb => by rw [wset_mem]; exact h b hb⟩
/-- config.IsWord -/
theorem S40_spec (s : ByteArray) (hs : s.size ≤ 9223372036854775807) : Ultk (fun k => S40 k (s, ())) (isWord s) := by
  unfold S40 isWord
  refine Ult.jn ?_
  dsimp only
  by_cases h1 : s.size < 1
  · refine Ult.yes (by simp only [ilt_eq, ssz, decide_eq_true_eq]; omega) (Ult.yes rfl (Ult.ret.eq ?_))
    rw [decide_eq_false (by omega)]; rfl
  refine Ult.no (by simp only [ilt_eq, ssz, decide_eq_false_iff_not]; omega) ?_
  by_cases h2 : 40 < s.size
  · refine Ult.yes (by simp only [igt_eq, ssz, decide_eq_true_eq]; omega) (Ult.yes rfl (Ult.ret.eq ?_))
    rw [decide_eq_false (by omega)]; rfl
  refine Ult.no (by simp only [igt_eq, ssz, decide_eq_false_iff_not]; omega) ?_
  have h0 : bt? s 0 = some (bt s 0) := bt?_get (j := 0) (by omega)
  rw [decide_eq_true (show 1 ≤ s.size ∧ s.size ≤ 40 by omega), Bool.true_and]
  refine Ult.bindc h0 ?_
  by_cases h3 : bt s 0 < 97
  · refine Ult.yes (decide_eq_true h3) (Ult.yes rfl (Ult.ret.eq ?_))
    rw [decide_eq_false (by omega)]; rfl
  refine Ult.no (decide_eq_false h3) (Ult.bindc h0 ?_)
  by_cases h4 : 122 < bt s 0
  · refine Ult.yes (decide_eq_true h4) (Ult.ret.eq ?_)
    rw [decide_eq_false (by omega)]; rfl
  refine Ult.no (decide_eq_false h4) ?_
  rw [decide_eq_true (show 97 ≤ bt s 0 ∧ bt s 0 ≤ 122 by omega), Bool.true_and]
  have hc : (⟨#[97, 98, 99, 100, 101, 102, 103, 104, 105, 106, 107, 108, 109, 110, 111, 112, 113, 114, 115, 116, 117, 118, 119, 120, 121, 122, 48, 49, 50, 51, 52, 53, 54, 55, 56, 57, 95, 45]⟩ : ByteArray).data.toList = wset := rfl
  have ht : ∀ k, S62 k (s, (⟨#[97, 98, 99, 100, 101, 102, 103, 104, 105, 106, 107, 108, 109, 110, 111, 112, 113, 114, 115, 116, 117, 118, 119, 120, 121, 122, 48, 49, 50, 51, 52, 53, 54, 55, 56, 57, 95, 45]⟩ : ByteArray), ()) = some ⟨(Lib.trimS s.data.toList wset).toArray⟩ := fun k => by
    show trimF s (⟨#[97, 98, 99, 100, 101, 102, 103, 104, 105, 106, 107, 108, 109, 110, 111, 112, 113, 114, 115, 116, 117, 118, 119, 120, 121, 122, 48, 49, 50, 51, 52, 53, 54, 55, 56, 57, 95, 45]⟩ : ByteArray) = _
    unfold trimF
    rw [if_pos ⟨hs, by decide, by decide⟩, hc]
  refine Ult.bind ⟨0, fun k _ => ht k⟩ (Ult.ret.eq ?_)
  rw [seq_eq]
  by_cases h5 : allW s.data.toList = true
  · rw [h5]
    refine decide_eq_true ?_
    rw [(trimS_nil _ _).2 ((all_contains _).2 h5)]
  · rw [Bool.not_eq_true] at h5
    rw [h5]
    refine decide_eq_false fun e => ?_
    have : Lib.trimS s.data.toList wset = [] := by
      have := congrArg (fun b : ByteArray => b.data.toList) e
      simpa using this
    rw [trimS_nil, all_contains, h5] at this
    cases this
theorem wc_tree {R : Type} (c : Int) (J : Bool → Option R) : cnd (ilt c 97) (cnd (ilt c 48) (cnd (ine c 45) (J (ine c 95)) (J false)) (cnd (igt c 57) (cnd (ine c 45) (J (ine c 95)) (J false)) (J false))) (cnd (igt c 122) (cnd (ilt c 48) (cnd (ine c 45) (J (ine c 95)) (J false)) (cnd (igt c 57) (cnd (ine c 45) (J (ine c 95)) (J false)) (J false))) (J false)) = J (!wc c) := by
  rcases (by omega : c = 95 ∨ c = 45 ∨ (c < 48 ∧ c ≠ 45) ∨ (48 ≤ c ∧ c ≤ 57) ∨ (58 ≤ c ∧ c < 97 ∧ c ≠ 95) ∨ (97 ≤ c ∧ c ≤ 122) ∨ 122 < c) with h | h | h | h | h | h | h <;>
    simp (disch := omega) only [ilt_eq, igt_eq, ine_eq, wc, cnd, decide_eq_true, decide_eq_false, cond_true, cond_false, Bool.or_true, Bool.or_false, Bool.not_true, Bool.not_false, Bool.true_or, Bool.false_or]
end Go.Proofs.YtonfimidgbppeaaDoor.Ev

namespace Go.Proofs.YtonfimidgbppeaaDoor.Ev
open Go Go.RowKit
set_option linter.unusedVariables false
set_option linter.unusedSimpArgs false
variable {ι : Type} {l : ι → Nat} {α : Type}
abbrev Setting : Type := ByteArray × List ByteArray
abbrev Pair : Type := ByteArray × ByteArray

/-! ### searches -/
/-- the place of the first that is wanted, or -1 -/
def idxF (p : α → Bool) : Nat → List α → Int
  | _, [] => -1
  | j, a :: r => if p a = true then (j : Int) else idxF p (j + 1) r
theorem idxF_cases (p : α → Bool) : ∀ (j : Nat) (L : List α), (idxF p j L = -1 ∧ L.find? p = none) ∨ ∃ (i : Nat) (h : i < L.length), idxF p j L = ((j + i : Nat) : Int) ∧ L.find? p = some L[i] ∧ p L[i] = true
  | j, [] => .inl ⟨rfl, rfl⟩
  | j, a :: r => by
    cases h : p a with
    | true => exact .inr ⟨0, by simp, by simp [idxF, h], by simp [h], by simpa using h⟩
    | false =>
      rcases idxF_cases p (j + 1) r with ⟨h1, h2⟩ | ⟨i, hi, h1, h2, h3⟩
      · exact .inl ⟨by simp [idxF, h, h1], by simp [h, h2]⟩
      · exact .inr ⟨i + 1, by simpa using hi, by simp only [idxF, h, Bool.false_eq_true, if_false, h1]; congr 1; omega, by simp [h, h2], by simpa using h3⟩
theorem idxF_neg {p : α → Bool} {L : List α} : idxF p 0 L < 0 ↔ L.find? p = none := by
  rcases idxF_cases p 0 L with ⟨h1, h2⟩ | ⟨i, hi, h1, h2, h3⟩
  · simp [h1, h2]
  · rw [h1, h2]
    constructor
    · intro h; omega
    · intro h; cases h
theorem idxF_at {p : α → Bool} {L : List α} {a : α} (h : L.find? p = some a) : at? L (idxF p 0 L) = some a ∧ 0 ≤ idxF p 0 L := by
  rcases idxF_cases p 0 L with ⟨h1, h2⟩ | ⟨i, hi, h1, h2, h3⟩
  · rw [h2] at h; cases h
  · rw [h1, Nat.zero_add, at?_nat hi, ← h2, h]
    exact ⟨rfl, Int.natCast_nonneg _⟩
theorem len_big {b : Nat} {L : List α} (h : L.length * b ≤ 140737488351232) (hb : 0 < b) : L.length ≤ 140737488351232 := by
  have : L.length * 1 ≤ L.length * b := Nat.mul_le_mul_left _ hb
  omega
theorem S69_spec (L : List ByteArray) (x : ByteArray) (hL : L.length ≤ 9223372036854775807) : Ultk (fun k => S69 k (L, x, ())) (idxF (fun a => decide (x = a)) 0 L) := by
  unfold S69
  refine (Ult.forI (fun _ => Nat.le_refl _) L.length (fun j => idxF (fun a => decide (x = a)) j (L.drop j)) fun j hj next => ?_).eq (by rw [List.drop_zero])
  dsimp only
  rw [iltL]
  by_cases hlt' : ¬ j < L.length
  · refine Ult.no (decide_eq_false hlt') (Ult.ret.eq ?_)
    rw [List.drop_eq_nil_of_le (by omega)]; rfl
  have hlt : j < L.length := Decidable.not_not.1 hlt'
  refine Ult.yes (decide_eq_true hlt) (Ult.bindc (at?_nat hlt) ?_)
  rw [drop_cons hlt, idxF, isucc hlt hL]
  exact Ult.ifS (by rw [seq_eq]; simp) (fun h => Ult.ret) (fun h => next hlt)
theorem any_mem (L : List ByteArray) (x : ByteArray) : (L.find? (fun a => decide (x = a)) = none) ↔ x ∉ L := by
  rw [List.find?_eq_none]
  constructor
  · intro h hx; exact h x hx (by simp)
  · intro h a ha e
    have e := of_decide_eq_true e
    exact h (e ▸ ha)
def memB (L : List ByteArray) (x : ByteArray) : Bool := L.any fun a => decide (x = a)
theorem memB_iff {L : List ByteArray} {x : ByteArray} : memB L x = true ↔ x ∈ L := by
  unfold memB
  rw [List.any_eq_true]
  exact ⟨fun ⟨a, ha, e⟩ => of_decide_eq_true e ▸ ha, fun h => ⟨x, h, decide_eq_true rfl⟩⟩
theorem S59_spec (L : List ByteArray) (x : ByteArray) (hL : L.length ≤ 9223372036854775807) : Ultk (fun k => S59 k (L, x, ())) (memB L x) := by
  unfold S59
  refine Ult.bind (S69_spec L x hL) (Ult.ret.eq ?_)
  rw [ige_eq]
  by_cases h : x ∈ L
  · rw [memB_iff.2 h]
    refine decide_eq_true ?_
    rcases Int.lt_or_le (idxF (fun a => decide (x = a)) 0 L) 0 with q | q
    · exact absurd h ((any_mem _ _).1 (idxF_neg.1 q))
    · exact q
  · have h' : memB L x = false := by
      cases hb : memB L x with
      | false => rfl
      | true => exact absurd (memB_iff.1 hb) h
    rw [h']
    have := idxF_neg.2 ((any_mem L x).2 h)
    exact decide_eq_false (by omega)
/-- slices.IndexFunc at settings -/
theorem S71_spec {kk : ι → Nat} (hk : ∀ i, l i ≤ kk i) (L : List Setting) (f : ι → Setting → Option Bool) (p : Setting → Bool) (hf : ∀ a, Ult l (fun i => f i a) (p a)) (hL : L.length ≤ 9223372036854775807) :
    Ult l (fun i => S71 (kk i) (L, f i, ())) (idxF p 0 L) := by
  unfold S71
  refine (Ult.forI hk L.length (fun j => idxF p j (L.drop j)) fun j hj next => ?_).eq (by rw [List.drop_zero])
  dsimp only
  rw [iltL]
  by_cases hlt' : ¬ j < L.length
  · refine Ult.no (decide_eq_false hlt') (Ult.ret.eq ?_)
    rw [List.drop_eq_nil_of_le (by omega)]; rfl
  have hlt : j < L.length := Decidable.not_not.1 hlt'
  refine Ult.yes (decide_eq_true hlt) (Ult.bindc (at?_nat hlt) (Ult.bind (hf _).lift ?_))
  rw [drop_cons hlt, idxF, isucc hlt hL]
  exact Ult.ifS (by simp) (fun h => Ult.ret) (fun h => next hlt)
/-- the first setting of a name -/
def look (L : List (ByteArray × α)) (n : ByteArray) : Option (ByteArray × α) := L.find? fun s => decide (s.1 = n)
theorem look_name {L : List (ByteArray × α)} {n : ByteArray} {s : ByteArray × α} (h : look L n = some s) : s ∈ L ∧ s.1 = n := by
  unfold look at h
  exact ⟨List.mem_of_find?_eq_some h, of_decide_eq_true (List.find?_some (p := fun s : ByteArray × α => decide (s.1 = n)) h)⟩
def idxN (L : List (ByteArray × α)) (n : ByteArray) : Int := idxF (fun s => decide (s.1 = n)) 0 L
theorem S61_spec (L : List Setting) (n : ByteArray) (hL : L.length ≤ 9223372036854775807) : Ultk (fun k => S61 k (L, n, ())) (idxN L n) := by
  unfold S61
  have h := S71_spec (l := fun k => k) (fun _ => Nat.le_refl _) L (fun k a => S72 k (a, n, ())) (fun s => decide (s.1 = n)) (fun a => Ult.ret.eq (seq_eq _ _)) hL
  exact Ult.bind h Ult.ret
def lookS (L : List Setting) (n : ByteArray) : Setting × Bool := match look L n with
  | some s => (s, true)
  | none => ((⟨#[]⟩, []), false)
def lookV (L : List Pair) (n : ByteArray) : ByteArray × Bool := match look L n with
  | some s => (s.2, true)
  | none => (⟨#[]⟩, false)
theorem S64_spec (L : List Pair) (n : ByteArray) (hL : L.length ≤ 9223372036854775807) : Ultk (fun k => S64 k (L, n, ())) (lookV L n) := by
  unfold S64
  refine (Ult.forI (fun _ => Nat.le_refl _) L.length (fun j => lookV (L.drop j) n) fun j hj next => ?_).eq (by rw [List.drop_zero])
  dsimp only
  rw [iltL]
  by_cases hlt' : ¬ j < L.length
  · refine Ult.no (decide_eq_false hlt') (Ult.ret.eq ?_)
    rw [List.drop_eq_nil_of_le (by omega)]; rfl
  have hlt : j < L.length := Decidable.not_not.1 hlt'
  refine Ult.yes (decide_eq_true hlt) (Ult.bindc (at?_nat hlt) ?_)
  have e : lookV (L.drop j) n = if L[j].1 = n then (L[j].2, true) else lookV (L.drop (j + 1)) n := by
    rw [drop_cons hlt]
    unfold lookV look
    by_cases h : L[j].1 = n
    · rw [if_pos h, List.find?_cons_of_pos (by simpa using h)]
    · rw [if_neg h, List.find?_cons_of_neg (by simpa using h)]
  rw [e, isucc hlt hL]
  exact Ult.ifS (seq_eq _ _) (fun h => Ult.ret) (fun h => next hlt)

/-! ### settings -/
/-- not above the one before -/
def notAbove (prev : Option ByteArray) (n : ByteArray) : Bool := match prev with
  | none => false
  | some m => sle n m
def chkVals : List ByteArray → List ByteArray → Int
  | _, [] => 0
  | seen, v :: r => if isWord v = false then 5 else if memB seen v = true then 7 else chkVals (seen ++ [v]) r
def chkSets : Option ByteArray → List Setting → Int
  | _, [] => 0
  | prev, s :: r => if isWord s.1 = false then 5 else if s.2 = [] then 9 else if 20 < s.2.length then 2 else if chkVals [] s.2 ≠ 0 then chkVals [] s.2 else if notAbove prev s.1 = true then 8 else chkSets (some s.1) r
def chkSettings (L : List Setting) : Int := if 30 < L.length then 2 else chkSets none L
def prevOf (L : List (ByteArray × α)) (j : Nat) : Option ByteArray := if h : 0 < j ∧ j - 1 < L.length then some (L[j - 1]'h.2).1 else none
theorem prevOf_zero (L : List (ByteArray × α)) : prevOf L 0 = none := rfl
theorem prevOf_succ {L : List (ByteArray × α)} {j : Nat} (h : j < L.length) : prevOf L (j + 1) = some L[j].1 := by unfold prevOf; rw [dif_pos ⟨Nat.succ_pos _, by simpa using h⟩]; simp
/-- sizes of settings as they come -/
def SetSz (L : List Setting) : Prop := L.length * 40 ≤ 140737488351232 ∧ ∀ s ∈ L, s.1.size ≤ 140737488351232 ∧ s.2.length * 16 ≤ 140737488351232 ∧ ∀ v ∈ s.2, v.size ≤ 140737488351232
theorem SetSz.len {L : List Setting} (h : SetSz L) : L.length ≤ 140737488351232 := len_big h.1 (by omega)
def PairSz (L : List Pair) : Prop := L.length * 32 ≤ 140737488351232 ∧ ∀ s ∈ L, s.1.size ≤ 140737488351232 ∧ s.2.size ≤ 140737488351232
theorem PairSz.len {L : List Pair} (h : PairSz L) : L.length ≤ 140737488351232 := len_big h.1 (by omega)

end Go.Proofs.YtonfimidgbppeaaDoor.Ev

namespace Go.Proofs.YtonfimidgbppeaaDoor.Ev
open Go Go.RowKit
set_option linter.unusedVariables false
set_option linter.unusedSimpArgs false
theorem dec_true (b : Bool) : b = decide (b = true) := by cases b <;> rfl
theorem chkVals_step {L : List ByteArray} {j : Nat} (h : j < L.length) : chkVals (L.take j) (L.drop j) = if isWord L[j] = false then 5 else if memB (L.take j) L[j] = true then 7 else chkVals (L.take (j + 1)) (L.drop (j + 1)) := by
  rw [drop_cons h, chkVals, List.take_succ_eq_append_getElem h]
theorem chkSets_step {L : List Setting} {j : Nat} (h : j < L.length) : chkSets (prevOf L j) (L.drop j) = if isWord L[j].1 = false then 5 else if L[j].2 = [] then 9 else if 20 < L[j].2.length then 2 else if chkVals [] L[j].2 ≠ 0 then chkVals [] L[j].2 else if notAbove (prevOf L j) L[j].1 = true then 8 else chkSets (prevOf L (j + 1)) (L.drop (j + 1)) := by
  rw [drop_cons h, chkSets, prevOf_succ h]
/-- config.CheckSettings -/
theorem S35_spec (L : List Setting) (hL : SetSz L) : Ultk (fun k => S35 k (L, ())) (chkSettings L) := by
  unfold S35 chkSettings
  refine Ult.ifS (by rw [igt_eq]; unfold len; simp only [decide_eq_decide]; omega) (fun _ => Ult.ret) fun h30 => ?_
  have hlen := hL.len
  refine (Ult.forI (fun _ => Nat.le_refl _) L.length (fun j => chkSets (prevOf L j) (L.drop j)) fun j hj next => ?_).eq (by rw [List.drop_zero, prevOf_zero])
  dsimp only
  rw [iltL]
  by_cases hlt' : ¬ j < L.length
  · refine Ult.no (decide_eq_false hlt') (Ult.ret.eq ?_)
    rw [List.drop_eq_nil_of_le (by omega)]
    cases prevOf L j <;> rfl
  have hlt : j < L.length := Decidable.not_not.1 hlt'
  refine Ult.yes (decide_eq_true hlt) (Ult.bindc (at?_nat hlt) ?_)
  rw [chkSets_step hlt, isucc hlt (by omega)]
  obtain ⟨hs1, hs2, hs3⟩ := hL.2 _ (List.getElem_mem hlt)
  have hs2' := len_big hs2 (by omega)
  have next' := next hlt
  clear next
  generalize chkSets (prevOf L (j + 1)) (L.drop (j + 1)) = rest at next' ⊢
  have hw := S40_spec L[j].1 (by omega)
  refine Ult.bind (Ult.call (f := fun k => S40 k (L[j].1, ())) (lp_le _ _ fun _ => Nat.le_refl _) hw) ?_
  refine Ult.ifS (by rw [bnot_eq]; cases isWord L[j].1 <;> rfl) (fun _ => Ult.ret) fun _ => ?_
  refine Ult.ifS (by rw [ieq_eq]; unfold len; simp only [decide_eq_decide]; rw [← List.length_eq_zero_iff]; omega) (fun _ => Ult.ret) fun _ => ?_
  refine Ult.ifS (by rw [igt_eq]; unfold len; simp only [decide_eq_decide]; omega) (fun _ => Ult.ret) fun _ => ?_
  refine (Ult.forI (lp_le _ _ fun _ => Nat.le_refl _) L[j].2.length (fun i => if chkVals (L[j].2.take i) (L[j].2.drop i) ≠ 0 then chkVals (L[j].2.take i) (L[j].2.drop i) else if notAbove (prevOf L j) L[j].1 = true then 8 else rest) fun i hi nexti => ?_).eq (by rw [List.drop_zero, List.take_zero])
  try dsimp only
  rw [iltL]
  by_cases hit' : ¬ i < L[j].2.length
  · refine Ult.no (decide_eq_false hit') ?_
    rw [List.drop_eq_nil_of_le (by omega), chkVals, if_neg (by simp)]
    have nx := next'.lift
    rw [igt0]
    by_cases h0 : 0 < j
    · refine Ult.yes (decide_eq_true h0) ?_
      rw [ipred (n := L.length) h0 (by omega) (by omega)]
      refine Ult.bindc (at?_nat (show j - 1 < L.length by omega)) ?_
      have hp : prevOf L j = some L[j - 1].1 := by unfold prevOf; rw [dif_pos ⟨h0, by omega⟩]
      rw [hp]
      exact Ult.ifS (dec_true _) (fun _ => Ult.ret) fun _ => nx
    · refine Ult.no (decide_eq_false h0) ?_
      have : j = 0 := by omega
      subst this
      rw [prevOf_zero, if_neg (by simp [notAbove])]
      exact nx
  have hit : i < L[j].2.length := Decidable.not_not.1 hit'
  refine Ult.yes (decide_eq_true hit) (Ult.bindc (at?_nat hit) ?_)
  rw [isucc hit (by omega)]
  have hwv := S40_spec L[j].2[i] (by have := hs3 _ (List.getElem_mem hit); omega)
  refine Ult.bind (Ult.call (f := fun k => S40 k (L[j].2[i], ())) (lp_le _ _ (lp_le _ _ fun _ => Nat.le_refl _)) hwv) ?_
  have nexti' := nexti hit
  clear nexti
  rw [chkVals_step hit]
  by_cases h1 : isWord L[j].2[i] = false
  · rw [h1]
    exact Ult.yes rfl (Ult.ret.eq (by simp))
  rw [if_neg h1]
  rw [Bool.not_eq_false] at h1
  rw [h1]
  refine Ult.no rfl (Ult.bindc (cut?_take (by omega)) ?_)
  have hm := S59_spec (L[j].2.take i) L[j].2[i] (by rw [List.length_take]; omega)
  refine Ult.bind (Ult.call (f := fun k => S59 k (L[j].2.take i, L[j].2[i], ())) (lp_le _ _ (lp_le _ _ fun _ => Nat.le_refl _)) hm) ?_
  cases h2 : memB (L[j].2.take i) L[j].2[i]
  · exact Ult.no rfl (nexti'.eq (by simp))
  · exact Ult.yes rfl (Ult.ret.eq (by simp))
end Go.Proofs.YtonfimidgbppeaaDoor.Ev

namespace Go.Proofs.YtonfimidgbppeaaDoor.Ev
open Go Go.RowKit
set_option linter.unusedVariables false
set_option linter.unusedSimpArgs false
def chkSet (L : List Setting) (plain : Bool) : Option ByteArray → List Pair → Int
  | _, [] => 0
  | prev, p :: r => match look L p.1 with
    | none => 5
    | some s => if memB s.2 p.2 = false then 1 else if plain = true ∧ s.2.head? = some p.2 then 3 else if notAbove prev p.1 = true then 8 else chkSet L plain (some p.1) r
theorem chkSet_none {L : List Setting} {b : Bool} {C : List Pair} {j : Nat} (h : j < C.length) (hl : look L C[j].1 = none) : chkSet L b (prevOf C j) (C.drop j) = 5 := by
  rw [drop_cons h, chkSet, hl]
theorem chkSet_some {L : List Setting} {b : Bool} {C : List Pair} {j : Nat} (h : j < C.length) {s : Setting} (hl : look L C[j].1 = some s) : chkSet L b (prevOf C j) (C.drop j) =
    if memB s.2 C[j].2 = false then 1 else if b = true ∧ s.2.head? = some C[j].2 then 3 else if notAbove (prevOf C j) C[j].1 = true then 8 else chkSet L b (prevOf C (j + 1)) (C.drop (j + 1)) := by
  rw [drop_cons h, chkSet, hl, prevOf_succ h]
theorem not_false_eq (b : Bool) : bnot b = decide (b = false) := by cases b <;> rfl
theorem head_of_mem {l : List ByteArray} {x : ByteArray} (h : memB l x = true) : ∃ v r, l = v :: r := by
  cases l with
  | nil => cases memB_iff.1 h
  | cons v r => exact ⟨v, r, rfl⟩
/-- the order of names, and what comes then -/
theorem order_step {ι : Type} {l : ι → Nat} {C : List Pair} {j : Nat} (hlt : j < C.length) (hC : C.length ≤ 9223372036854775807) {rest : Int} {f : ι → Option Int} (nx : Ult l f rest) :
    Ult l (fun i => cnd (igt (j : Int) 0) (bnd (at? C (isub .i64 (j : Int) 1)) fun a => cnd (sle C[j].1 a.1) (some 8) (f i)) (f i)) (if notAbove (prevOf C j) C[j].1 = true then 8 else rest) := by
  rw [igt0]
  by_cases h0 : 0 < j
  · refine Ult.yes (decide_eq_true h0) ?_
    rw [ipred (n := C.length) h0 (by omega) (by omega)]
    refine Ult.bindc (at?_nat (show j - 1 < C.length by omega)) ?_
    have hp : prevOf C j = some C[j - 1].1 := by unfold prevOf; rw [dif_pos ⟨h0, by omega⟩]
    rw [hp]
    exact Ult.ifS (dec_true _) (fun _ => Ult.ret) fun _ => nx
  · refine Ult.no (decide_eq_false h0) ?_
    have : j = 0 := by omega
    subst this
    rw [prevOf_zero, if_neg (by simp [notAbove])]
    exact nx
theorem S38_spec (L : List Setting) (C : List Pair) (b : Bool) (hL : SetSz L) (hC : C.length ≤ 140737488355328) : Ultk (fun k => S38 k (L, C, b, ())) (chkSet L b none C) := by
  unfold S38
  have hlen := hL.len
  refine (Ult.forI (fun _ => Nat.le_refl _) C.length (fun j => chkSet L b (prevOf C j) (C.drop j)) fun j hj next => ?_).eq (by rw [List.drop_zero, prevOf_zero])
  dsimp only
  rw [iltL]
  by_cases hlt' : ¬ j < C.length
  · refine Ult.no (decide_eq_false hlt') (Ult.ret.eq ?_)
    rw [List.drop_eq_nil_of_le (by omega)]
    cases prevOf C j <;> rfl
  have hlt : j < C.length := Decidable.not_not.1 hlt'
  refine Ult.yes (decide_eq_true hlt) (Ult.bindc (at?_nat hlt) ?_)
  rw [isucc hlt (by omega)]
  have next' := next hlt
  clear next
  refine Ult.bind (Ult.call (f := fun k => S61 k (L, C[j].1, ())) (lp_le _ _ fun _ => Nat.le_refl _) (S61_spec L C[j].1 (by omega))) ?_
  cases hl : look L C[j].1 with
  | none =>
    rw [chkSet_none hlt hl]
    exact Ult.yes (by rw [ilt_eq]; exact decide_eq_true (idxF_neg.2 hl)) Ult.ret
  | some s =>
    rw [chkSet_some hlt hl]
    obtain ⟨i1, i2⟩ := idxF_at (p := fun s : Setting => decide (s.1 = C[j].1)) hl
    have i1 : at? L (idxN L C[j].1) = some s := i1
    have i2 : 0 ≤ idxN L C[j].1 := i2
    refine Ult.no (by rw [ilt_eq]; exact decide_eq_false (by omega)) (Ult.bindc i1 ?_)
    obtain ⟨m1, m2⟩ := look_name hl
    obtain ⟨hs1, hs2, hs3⟩ := hL.2 s m1
    have hs2' := len_big hs2 (by omega)
    refine Ult.bind (Ult.call (f := fun k => S59 k (s.2, C[j].2, ())) (lp_le _ _ fun _ => Nat.le_refl _) (S59_spec s.2 C[j].2 (by omega))) ?_
    refine Ult.ifS (not_false_eq _) (fun _ => Ult.ret) fun hm => ?_
    rw [Bool.not_eq_false] at hm
    obtain ⟨v0, r0, e0⟩ := head_of_mem hm
    refine Ult.jn ?_
    refine Ult.ite (fun hb => ?_) (fun hb => ?_)
    · refine Ult.bindc i1 (Ult.bindc (show at? s.2 0 = some v0 by rw [e0]; rfl) (Ult.ifS ?_ (fun _ => Ult.ret) fun _ => order_step hlt (by omega) next'))
      rw [seq_eq, e0]
      have hb : b = true := hb
      simp only [decide_eq_decide, hb, true_and, List.head?_cons, Option.some.injEq]
      exact eq_comm
    · exact Ult.ifS (by have hb : b = false := hb; rw [hb]; simp) (fun _ => Ult.ret) fun _ => order_step hlt (by omega) next'
/-- config.CheckConfig -/
def chkConfig (L : List Setting) (C : List Pair) : Int := if chkSettings L ≠ 0 then chkSettings L else chkSet L true none C
theorem S17_spec (L : List Setting) (C : List Pair) (hL : SetSz L) (hC : C.length ≤ 140737488355328) : Ultk (fun k => S17 k (L, C, ())) (chkConfig L C) := by
  unfold S17 chkConfig
  refine Ult.bind (S35_spec L hL) (Ult.ifS (ine_eq _ _) (fun _ => Ult.ret) fun _ => Ult.bind (S38_spec L C true hL hC) Ult.ret)
theorem chkSets_ne {L : List Setting} : ∀ {prev : Option ByteArray}, chkSets prev L = 0 → ∀ s ∈ L, s.2 ≠ [] ∧ isWord s.1 = true ∧ chkVals [] s.2 = 0 := by
  induction L with
  | nil => intro prev _ s hs; cases hs
  | cons t L ih =>
    intro prev h s hs
    rw [chkSets] at h
    split at h
    · cases h
    · rename_i h1
      split at h
      · cases h
      · rename_i h2
        split at h
        · cases h
        · split at h
          · rename_i h4; exact absurd h h4
          · rename_i h4
            split at h
            · cases h
            · rcases List.mem_cons.1 hs with rfl | hs
              · exact ⟨h2, by simpa using h1, by simpa using h4⟩
              · exact ih h s hs
theorem chkSettings_ne {L : List Setting} (h : chkSettings L = 0) : L.length ≤ 30 ∧ ∀ s ∈ L, s.2 ≠ [] ∧ isWord s.1 = true ∧ chkVals [] s.2 = 0 := by
  unfold chkSettings at h
  split at h
  · cases h
  · exact ⟨by omega, chkSets_ne h⟩
theorem chkConfig_ok {L : List Setting} {C : List Pair} (h : chkConfig L C = 0) : chkSettings L = 0 ∧ chkSet L true none C = 0 := by
  unfold chkConfig at h
  split at h
  · rename_i q; exact absurd h q
  · rename_i q; exact ⟨Decidable.not_not.1 q, h⟩
/-- the value of a setting that there is -/
def valOf (L : List Setting) (C : List Pair) (n : ByteArray) : Option ByteArray := match look C n with
  | some p => some p.2
  | none => (look L n).bind fun s => s.2.head?
theorem S51_spec (L : List Setting) (C : List Pair) (n v : ByteArray) (hL : L.length ≤ 9223372036854775807) (hC : C.length ≤ 9223372036854775807) (hv : valOf L C n = some v) : Ultk (fun k => S51 k (L, C, n, ())) v := by
  unfold S51
  refine Ult.bind (S64_spec C n hC) ?_
  unfold valOf at hv
  unfold lookV
  cases hc : look C n with
  | some p =>
    rw [hc] at hv
    cases hv
    exact Ult.yes rfl Ult.ret
  | none =>
    rw [hc] at hv
    refine Ult.no rfl (Ult.bind (S61_spec L n hL) ?_)
    cases hl : look L n with
    | none => rw [hl] at hv; cases hv
    | some s =>
      rw [hl] at hv
      obtain ⟨i1, i2⟩ := idxF_at (p := fun s : Setting => decide (s.1 = n)) hl
      refine Ult.bindc i1 ?_
      have hv : s.2.head? = some v := hv
      cases hs : s.2 with
      | nil => rw [hs] at hv; cases hv
      | cons a r =>
        rw [hs] at hv
        cases hv
        exact Ult.bindc (show at? (v :: r) 0 = some v from rfl) Ult.ret
theorem valOf_some {L : List Setting} {C : List Pair} {n : ByteArray} (hL : chkSettings L = 0) {s : Setting} (hl : look L n = some s) : ∃ v, valOf L C n = some v := by
  unfold valOf
  cases look C n with
  | some p => exact ⟨_, rfl⟩
  | none =>
    rw [hl]
    have := ((chkSettings_ne hL).2 s (look_name hl).1).1
    cases hs : s.2 with
    | nil => exact absurd hs this
    | cons a r => exact ⟨a, by simp [hs]⟩
/-- config.ValueOf -/
def valueOf (L : List Setting) (C : List Pair) (n : ByteArray) : ByteArray × Int := if chkConfig L C ≠ 0 then (⟨#[]⟩, chkConfig L C) else if look L n = none then (⟨#[]⟩, 5) else ((valOf L C n).getD ⟨#[]⟩, 0)
end Go.Proofs.YtonfimidgbppeaaDoor.Ev

namespace Go.Proofs.YtonfimidgbppeaaDoor.Ev
open Go Go.RowKit
set_option linter.unusedVariables false
set_option linter.unusedSimpArgs false
theorem S47_spec (L : List ByteArray) (h : L.length * 16 ≤ 140737488355328) : Ultk (fun k => S47 k (L, ())) L := ⟨0, fun k _ => if_pos h⟩
theorem S13_self (L : List ByteArray) (hL : L.length ≤ 9223372036854775807) : Ultk (fun k => S13 k (L, L, ())) true := by
  unfold S13
  refine Ult.no (by rw [ine_eq]; simp) ?_
  refine Ult.forI (fun _ => Nat.le_refl _) L.length (fun _ => true) fun j hj next => ?_
  dsimp only
  rw [iltL]
  by_cases hlt' : ¬ j < L.length
  · exact Ult.no (decide_eq_false hlt') Ult.ret
  have hlt : j < L.length := Decidable.not_not.1 hlt'
  refine Ult.yes (decide_eq_true hlt) (Ult.bindc (at?_nat hlt) (Ult.bindc (at?_nat hlt) (Ult.no (by rw [sne_eq]; simp) ?_)))
  rw [isucc hlt hL]
  exact next hlt
theorem chkVals_ok {L : List ByteArray} : ∀ {seen : List ByteArray}, chkVals seen L = 0 → (∀ v ∈ L, isWord v = true ∧ v ∉ seen) ∧ L.Nodup := by
  induction L with
  | nil => intro seen _; exact ⟨fun v h => (by cases h), List.nodup_nil⟩
  | cons a L ih =>
    intro seen h
    rw [chkVals] at h
    split at h
    · cases h
    · rename_i h1
      split at h
      · cases h
      · rename_i h2
        obtain ⟨i1, i2⟩ := ih h
        refine ⟨fun v hv => ?_, List.nodup_cons.2 ⟨fun hm => (i1 a hm).2 (by simp), i2⟩⟩
        rcases List.mem_cons.1 hv with rfl | hv
        · exact ⟨by simpa using h1, fun hm => h2 (memB_iff.2 hm)⟩
        · exact ⟨(i1 v hv).1, fun hm => (i1 v hv).2 (by simp [hm])⟩
theorem notAbove_false {prev : Option ByteArray} {n : ByteArray} (h : ¬ notAbove prev n = true) : ∀ m, prev = some m → lt m n := by
  intro m hm
  subst hm
  have h : ¬ sle n m = true := h
  rw [sle_eq] at h
  unfold lt
  simpa using h
theorem lt_trans' {a b c : ByteArray} (h : lt a b) (h' : lt b c) : lt a c := List.lt_trans h h'
theorem lt_irr (a : ByteArray) : ¬ lt a a := List.lt_irrefl _
theorem chkSet_ok {L : List Setting} {b : Bool} : ∀ {C : List Pair} {prev : Option ByteArray}, chkSet L b prev C = 0 →
    (∀ p ∈ C, ∃ s, look L p.1 = some s ∧ p.2 ∈ s.2 ∧ (b = true → s.2.head? ≠ some p.2) ∧ ∀ m, prev = some m → lt m p.1) ∧ C.Pairwise (fun p q => lt p.1 q.1)
  | [], prev, _ => ⟨fun p h => (by cases h), List.Pairwise.nil⟩
  | p :: C, prev, h => by
    rw [chkSet] at h
    split at h
    · cases h
    · rename_i s hs
      split at h
      · cases h
      · rename_i h1
        split at h
        · cases h
        · rename_i h2
          split at h
          · cases h
          · rename_i h3
            obtain ⟨i1, i2⟩ := chkSet_ok h
            have hp := notAbove_false h3
            refine ⟨fun q hq => ?_, List.pairwise_cons.2 ⟨fun q hq => ?_, i2⟩⟩
            · rcases List.mem_cons.1 hq with rfl | hq
              · exact ⟨s, hs, memB_iff.1 (by simpa using h1), fun hb e => h2 ⟨hb, e⟩, hp⟩
              · obtain ⟨t, t1, t2, t3, t4⟩ := i1 q hq
                exact ⟨t, t1, t2, t3, fun m hm => lt_trans' (hp m hm) (t4 _ rfl)⟩
            · obtain ⟨t, t1, t2, t3, t4⟩ := i1 q hq
              exact t4 _ rfl
theorem pigeon {α : Type} : ∀ {A B : List α}, A.Nodup → (∀ a ∈ A, a ∈ B) → A.length ≤ B.length
  | [], _, _, _ => Nat.zero_le _
  | a :: A, B, hn, hs => by
    obtain ⟨s, t, rfl⟩ := List.append_of_mem (hs a (by simp))
    obtain ⟨h1, h2⟩ := List.nodup_cons.1 hn
    have := pigeon (B := s ++ t) h2 fun x hx => by
      have := hs x (by simp [hx])
      rcases List.mem_append.1 this with q | q
      · exact List.mem_append_left _ q
      · rcases List.mem_cons.1 q with rfl | q
        · exact absurd hx h1
        · exact List.mem_append_right _ q
    simp only [List.length_append, List.length_cons] at this ⊢
    omega
theorem cfg_len {L : List Setting} {b : Bool} {prev : Option ByteArray} {C : List Pair} (h : chkSet L b prev C = 0) : C.length ≤ L.length := by
  obtain ⟨h1, h2⟩ := chkSet_ok h
  have := pigeon (A := C.map (·.1)) (B := L.map (·.1)) (by
      unfold List.Nodup
      rw [List.pairwise_map]
      exact h2.imp fun {p q} (h : lt p.1 q.1) (e : p.1 = q.1) => lt_irr q.1 (e ▸ h)) fun a ha => by
    obtain ⟨p, hp, rfl⟩ := List.mem_map.1 ha
    obtain ⟨s, hs, _⟩ := h1 p hp
    obtain ⟨m1, m2⟩ := look_name hs
    exact List.mem_map.2 ⟨s, m1, m2⟩
  simpa using this
theorem cfg_words {L : List Setting} {b : Bool} {prev : Option ByteArray} {C : List Pair} (hL : chkSettings L = 0) (h : chkSet L b prev C = 0) : ∀ p ∈ C, isWord p.1 = true ∧ isWord p.2 = true := by
  intro p hp
  obtain ⟨s, hs, h2, _⟩ := (chkSet_ok h).1 p hp
  obtain ⟨m1, m2⟩ := look_name hs
  obtain ⟨_, w1, w2⟩ := (chkSettings_ne hL).2 s m1
  exact ⟨m2 ▸ w1, ((chkVals_ok w2).1 _ h2).1⟩
end Go.Proofs.YtonfimidgbppeaaDoor.Ev

namespace Go.Proofs.YtonfimidgbppeaaDoor.Ev
open Go Go.RowKit
set_option linter.unusedVariables false
set_option linter.unusedSimpArgs false
def partOf (p : Pair) : ByteArray := p.1 ++ (⟨#[61]⟩ : ByteArray) ++ p.2
def joinB (l : List ByteArray) : ByteArray := ⟨(Lib.join (l.map (·.data.toList)) [44]).toArray⟩
def cfgText (L : List Setting) (C : List Pair) : ByteArray × Int := if chkConfig L C ≠ 0 then (⟨#[]⟩, chkConfig L C) else if C = [] then (⟨#[45]⟩, 0) else (joinB (C.map partOf), 0)
theorem joinTail_len (sep : List UInt8) (m : Nat) : ∀ (l : List (List UInt8)), (∀ x ∈ l, x.length ≤ m) → (Lib.joinTail sep l).length ≤ l.length * (m + sep.length)
  | [], _ => by simp [Lib.joinTail]
  | x :: l, h => by
    have ih := joinTail_len sep m l fun y hy => h y (by simp [hy])
    have hx := h x (by simp)
    unfold Lib.joinTail at ih ⊢
    simp only [List.map_cons, List.flatten_cons, List.length_append, List.length_cons]
    rw [Nat.add_mul]
    omega
theorem join_len (sep : List UInt8) (m : Nat) (l : List (List UInt8)) (h : ∀ x ∈ l, x.length ≤ m) : (Lib.join l sep).length ≤ l.length * (m + sep.length) := by
  cases l with
  | nil => simp [Lib.join_nil]
  | cons x l =>
    rw [Lib.join_cons, List.length_append, List.length_cons, Nat.add_mul]
    have h1 := joinTail_len sep m l fun y hy => h y (by simp [hy])
    have h2 := h x (by simp)
    omega
theorem partOf_size (p : Pair) : (partOf p).size = p.1.size + 1 + p.2.size := by
  unfold partOf
  rw [ByteArray.size_append, ByteArray.size_append]; rfl
theorem part_small {L : List Setting} {C : List Pair} (h : chkConfig L C = 0) : C.length ≤ 30 ∧ ∀ p ∈ C, p.1.size ≤ 40 ∧ p.2.size ≤ 40 := by
  obtain ⟨h1, h2⟩ := chkConfig_ok h
  have := cfg_len h2
  have := (chkSettings_ne h1).1
  exact ⟨by omega, fun p hp => ⟨(isWord_size (cfg_words h1 h2 p hp).1).2, (isWord_size (cfg_words h1 h2 p hp).2).2⟩⟩
theorem joinF_ok {l : List ByteArray} (h1 : l.length ≤ 30) (h2 : ∀ x ∈ l, x.size ≤ 81) : joinF l ⟨#[44]⟩ = some (joinB l) := by
  unfold joinF
  have hs : (⟨#[44]⟩ : ByteArray).data.toList = [44] := rfl
  rw [hs]
  have := join_len [44] 81 (l.map (·.data.toList)) fun x hx => by
    obtain ⟨y, hy, rfl⟩ := List.mem_map.1 hx
    have := h2 y hy
    simpa using this
  rw [List.length_map] at this
  have h3 : l.length * (81 + 1) ≤ 30 * 82 := Nat.mul_le_mul_right _ h1
  rw [if_pos ⟨by omega, Nat.le_trans this (Nat.le_trans h3 (by decide))⟩]
  rfl
theorem S12_spec (L : List Setting) (C : List Pair) (hL : SetSz L) (hC : C.length ≤ 140737488355328) : Ultk (fun k => S12 k (L, C, ())) (cfgText L C) := by
  unfold S12 cfgText
  refine Ult.bind (S17_spec L C hL hC) (Ult.ifS (ine_eq _ _) (fun _ => Ult.ret) fun h0 => ?_)
  obtain ⟨h30, hp⟩ := part_small (Decidable.not_not.1 h0)
  refine Ult.ifS (by rw [ieq_eq]; unfold len; simp only [decide_eq_decide]; rw [← List.length_eq_zero_iff]; omega) (fun _ => Ult.ret) fun hne => ?_
  refine Ult.forA (A := List ByteArray) (fun _ => Nat.le_refl _) C.length (fun a j => (a, (j : Int))) (fun a j => a = (C.take j).map partOf) (fun _ _ => (joinB (C.map partOf), 0)) [] (by simp) fun a j hj ha next => ?_
  subst ha
  dsimp only
  rw [iltL]
  by_cases hlt' : ¬ j < C.length
  · refine Ult.no (decide_eq_false hlt') ?_
    rw [List.take_of_length_le (by omega)]
    have hjn : ∀ k, S32 k (C.map partOf, (⟨#[44]⟩ : ByteArray), ()) = some (joinB (C.map partOf)) := fun k => joinF_ok (by rw [List.length_map]; exact h30) fun x hx => by
      obtain ⟨p, hpm, rfl⟩ := List.mem_map.1 hx
      have := hp p hpm
      rw [partOf_size]; omega
    exact Ult.bind ⟨0, fun i _ => hjn _⟩ Ult.ret
  have hlt : j < C.length := Decidable.not_not.1 hlt'
  have hpj := hp _ (List.getElem_mem hlt)
  refine Ult.yes (decide_eq_true hlt) (Ult.bindc (at?_nat hlt) ?_)
  refine Ult.bindc (cat?_ok (show C[j].1.size + (⟨#[61]⟩ : ByteArray).size ≤ _ by rw [show (⟨#[61]⟩ : ByteArray).size = 1 from rfl]; omega)) ?_
  refine Ult.bindc (cat?_ok (show (C[j].1 ++ (⟨#[61]⟩ : ByteArray)).size + C[j].2.size ≤ _ by rw [ByteArray.size_append, show (⟨#[61]⟩ : ByteArray).size = 1 from rfl]; omega)) ?_
  refine Ult.bindc (app?_ok (by simp only [List.length_map, List.length_take, List.length_cons, List.length_nil]; have := Nat.min_le_left j C.length; show (min j C.length + (0 + 1)) * 16 ≤ _; omega)) ?_
  rw [isucc hlt (by omega)]
  exact next _ hlt (by rw [List.take_succ_eq_append_getElem hlt, List.map_append]; rfl)
theorem S6_spec : Ultk (fun k => S6 k ()) true := by
  unfold S6
  have h : cfgText [((⟨#[109]⟩ : ByteArray), [(⟨#[97]⟩ : ByteArray), (⟨#[98]⟩ : ByteArray)])] [((⟨#[109]⟩ : ByteArray), (⟨#[98]⟩ : ByteArray))] = (⟨#[109, 61, 98]⟩, 0) := by decide +kernel
  have hs := S12_spec [((⟨#[109]⟩ : ByteArray), [(⟨#[97]⟩ : ByteArray), (⟨#[98]⟩ : ByteArray)])] [((⟨#[109]⟩ : ByteArray), (⟨#[98]⟩ : ByteArray))] ⟨by decide, fun s hs => by
    obtain rfl : s = ((⟨#[109]⟩ : ByteArray), [(⟨#[97]⟩ : ByteArray), (⟨#[98]⟩ : ByteArray)]) := by simpa using hs
    refine ⟨by decide, by decide, fun v hv => ?_⟩
    rcases List.mem_cons.1 hv with rfl | hv
    · decide
    · obtain rfl : v = (⟨#[98]⟩ : ByteArray) := by simpa using hv
      decide⟩ (by decide)
  rw [h] at hs
  refine Ult.bind hs (Ult.yes rfl (Ult.ret.eq ?_))
  rw [seq_eq]
  exact decide_eq_true rfl
end Go.Proofs.YtonfimidgbppeaaDoor.Ev

namespace Go.Proofs.YtonfimidgbppeaaDoor.Ev
open Go Go.RowKit
set_option linter.unusedVariables false
set_option linter.unusedSimpArgs false
abbrev Platform : Type := ByteArray × List Pair
abbrev Tool : Type := ByteArray × ByteArray × List Pair × List Pair
abbrev Condition : Type := ByteArray × List Pair × List Pair
abbrev Transition : Type := ByteArray × List Pair × List ByteArray
abbrev CWorld : Type := List Setting × List Condition × List Platform × List Tool × List Transition
def PlatSz (L : List Platform) : Prop := L.length * 40 ≤ 140737488351232 ∧ ∀ p ∈ L, p.1.size ≤ 140737488351232 ∧ PairSz p.2
def ToolSz (L : List Tool) : Prop := L.length * 80 ≤ 140737488351232 ∧ ∀ p ∈ L, p.1.size ≤ 140737488351232 ∧ p.2.1.size ≤ 140737488351232 ∧ PairSz p.2.2.1 ∧ PairSz p.2.2.2
def CondSz (L : List Condition) : Prop := L.length * 64 ≤ 140737488351232 ∧ ∀ p ∈ L, p.1.size ≤ 140737488351232 ∧ PairSz p.2.1 ∧ PairSz p.2.2
def StrsSz (L : List ByteArray) : Prop := L.length * 16 ≤ 140737488351232 ∧ ∀ s ∈ L, s.size ≤ 140737488351232
def TranSz (L : List Transition) : Prop := L.length * 64 ≤ 140737488351232 ∧ ∀ p ∈ L, p.1.size ≤ 140737488351232 ∧ PairSz p.2.1 ∧ StrsSz p.2.2
def WorldSz (x : CWorld) : Prop := SetSz x.1 ∧ CondSz x.2.1 ∧ PlatSz x.2.2.1 ∧ ToolSz x.2.2.2.1 ∧ TranSz x.2.2.2.2
variable {ι R α : Type} {l : ι → Nat}

/-! ### loops that only look -/
theorem idx_loop {kk : ι → Nat} (hk : ∀ i, l i ≤ kk i) (L : List α) (f : ι → α → Option Bool) (p : α → Bool) (hf : ∀ a ∈ L, Ult l (fun i => f i a) (p a)) (hL : L.length ≤ 9223372036854775807) :
    Ult l (fun i => loopN (kk i) (fun (next : Int → Option Int) (j : Int) => cnd (ilt j (len L)) (bnd (at? L j) fun a => bnd (f i a) fun b => cnd b (some j) (next (iadd .i64 j 1))) (some (-1))) 0) (idxF p 0 L) := by
  refine (Ult.forI hk L.length (fun j => idxF p j (L.drop j)) fun j hj next => ?_).eq (by rw [List.drop_zero])
  rw [iltL]
  by_cases hlt' : ¬ j < L.length
  · refine Ult.no (decide_eq_false hlt') (Ult.ret.eq ?_)
    rw [List.drop_eq_nil_of_le (by omega)]; rfl
  have hlt : j < L.length := Decidable.not_not.1 hlt'
  refine Ult.yes (decide_eq_true hlt) (Ult.bindc (at?_nat hlt) (Ult.bind (hf _ (List.getElem_mem hlt)).lift ?_))
  rw [drop_cons hlt, idxF, isucc hlt hL]
  exact Ult.ifS (by simp) (fun h => Ult.ret) (fun h => next hlt)
theorem any_loop {kk : ι → Nat} (hk : ∀ i, l i ≤ kk i) (L : List α) (g : α → Bool) {r1 r2 : R} {y n : ι → Option R} (hy : Ult l y r1) (hn : Ult l n r2) (hL : L.length ≤ 9223372036854775807) :
    Ult l (fun i => loopN (kk i) (fun (next : Int → Option R) (j : Int) => cnd (ilt j (len L)) (bnd (at? L j) fun a => cnd (g a) (y i) (next (iadd .i64 j 1))) (n i)) 0) (if L.any g = true then r1 else r2) := by
  refine (Ult.forI hk L.length (fun j => if (L.drop j).any g = true then r1 else r2) fun j hj next => ?_).eq (by rw [List.drop_zero])
  rw [iltL]
  by_cases hlt' : ¬ j < L.length
  · refine Ult.no (decide_eq_false hlt') (hn.lift.eq ?_)
    rw [List.drop_eq_nil_of_le (by omega)]; rfl
  have hlt : j < L.length := Decidable.not_not.1 hlt'
  refine Ult.yes (decide_eq_true hlt) (Ult.bindc (at?_nat hlt) ?_)
  rw [drop_cons hlt, List.any_cons, isucc hlt hL]
  cases hg : g L[j]
  · exact Ult.no rfl (next hlt)
  · exact Ult.yes rfl (hy.lift.eq (by simp))
theorem all_loop {kk : ι → Nat} (hk : ∀ i, l i ≤ kk i) (L : List α) (f : ι → α → Option Bool) (p : α → Bool) {r1 r2 : R} {y n : ι → Option R} (hy : Ult l y r1) (hn : Ult l n r2) (hf : ∀ a ∈ L, Ult l (fun i => f i a) (p a)) (hL : L.length ≤ 9223372036854775807) :
    Ult l (fun i => loopN (kk i) (fun (next : Int → Option R) (j : Int) => cnd (ilt j (len L)) (bnd (at? L j) fun a => bnd (f i a) fun b => cnd (bnot b) (n i) (next (iadd .i64 j 1))) (y i)) 0) (if L.all p = true then r1 else r2) := by
  refine (Ult.forI hk L.length (fun j => if (L.drop j).all p = true then r1 else r2) fun j hj next => ?_).eq (by rw [List.drop_zero])
  rw [iltL]
  by_cases hlt' : ¬ j < L.length
  · refine Ult.no (decide_eq_false hlt') (hy.lift.eq ?_)
    rw [List.drop_eq_nil_of_le (by omega)]; rfl
  have hlt : j < L.length := Decidable.not_not.1 hlt'
  refine Ult.yes (decide_eq_true hlt) (Ult.bindc (at?_nat hlt) (Ult.bind (hf _ (List.getElem_mem hlt)).lift ?_))
  rw [drop_cons hlt, List.all_cons, isucc hlt hL]
  cases hg : p L[j]
  · exact Ult.yes rfl (hn.lift.eq (by simp))
  · exact Ult.no rfl (next hlt)
theorem idxF_any {p : α → Bool} {L : List α} : ige (idxF p 0 L) 0 = L.any p := by
  rw [ige_eq]
  rcases idxF_cases p 0 L with ⟨h1, h2⟩ | ⟨i, hi, h1, h2, h3⟩
  · rw [h1]
    rw [List.find?_eq_none] at h2
    have : L.any p = false := by
      rw [List.any_eq_false]
      intro a ha; exact h2 a ha
    rw [this]; rfl
  · rw [h1, decide_eq_true (Int.natCast_nonneg _)]
    exact (List.any_eq_true.2 ⟨L[i], List.getElem_mem hi, h3⟩).symm

/-! ### pairs -/
def chkPairs : Option ByteArray → List Pair → Int
  | _, [] => 0
  | prev, p :: r => if isWord p.1 = false then 5 else if isWord p.2 = false then 1 else if notAbove prev p.1 = true then 8 else chkPairs (some p.1) r
def chkPairsL (L : List Pair) : Int := if 30 < L.length then 2 else chkPairs none L
theorem S39_spec (L : List Pair) (hL : PairSz L) : Ultk (fun k => S39 k (L, ())) (chkPairsL L) := by
  unfold S39 chkPairsL
  have hlen := hL.len
  refine Ult.ifS (by rw [igt_eq]; unfold len; simp only [decide_eq_decide]; omega) (fun _ => Ult.ret) fun h30 => ?_
  refine (Ult.forI (fun _ => Nat.le_refl _) L.length (fun j => chkPairs (prevOf L j) (L.drop j)) fun j hj next => ?_).eq (by rw [List.drop_zero, prevOf_zero])
  dsimp only
  rw [iltL]
  by_cases hlt' : ¬ j < L.length
  · refine Ult.no (decide_eq_false hlt') (Ult.ret.eq ?_)
    rw [List.drop_eq_nil_of_le (by omega)]
    cases prevOf L j <;> rfl
  have hlt : j < L.length := Decidable.not_not.1 hlt'
  refine Ult.yes (decide_eq_true hlt) (Ult.bindc (at?_nat hlt) ?_)
  obtain ⟨s1, s2⟩ := hL.2 _ (List.getElem_mem hlt)
  rw [drop_cons hlt, chkPairs, ← prevOf_succ hlt, isucc hlt (by omega)]
  refine Ult.bind (Ult.call (f := fun k => S40 k (L[j].1, ())) (lp_le _ _ fun _ => Nat.le_refl _) (S40_spec L[j].1 (by omega))) (Ult.ifS (not_false_eq _) (fun _ => Ult.ret) fun _ => ?_)
  refine Ult.bind (Ult.call (f := fun k => S40 k (L[j].2, ())) (lp_le _ _ fun _ => Nat.le_refl _) (S40_spec L[j].2 (by omega))) (Ult.ifS (not_false_eq _) (fun _ => Ult.ret) fun _ => ?_)
  exact order_step hlt (by omega) (next hlt)
def chkPlats : List Platform → List Platform → Int
  | _, [] => 0
  | seen, p :: r => if isWord p.1 = false then 5 else if chkPairsL p.2 ≠ 0 then chkPairsL p.2 else if (seen.any fun q => decide (q.1 = p.1)) = true then 7 else chkPlats (seen ++ [p]) r
def chkPlatforms (L : List Platform) : Int := if 50 < L.length then 2 else chkPlats [] L
theorem S63_spec {kk : ι → Nat} (hk : ∀ i, l i ≤ kk i) (L : List Platform) (f : ι → Platform → Option Bool) (p : Platform → Bool) (hf : ∀ a ∈ L, Ult l (fun i => f i a) (p a)) (hL : L.length ≤ 9223372036854775807) : Ult l (fun i => S63 (kk i) (L, f i, ())) (idxF p 0 L) := by
  unfold S63
  exact idx_loop hk L f p hf hL
theorem S41_spec {kk : ι → Nat} (hk : ∀ i, l i ≤ kk i) (L : List Platform) (f : ι → Platform → Option Bool) (p : Platform → Bool) (hf : ∀ a ∈ L, Ult l (fun i => f i a) (p a)) (hL : L.length ≤ 9223372036854775807) : Ult l (fun i => S41 (kk i) (L, f i, ())) (L.any p) := by
  unfold S41
  exact Ult.bind (S63_spec hk L f p hf hL) (Ult.ret.eq idxF_any)
theorem S18_spec (L : List Platform) (hL : PlatSz L) : Ultk (fun k => S18 k (L, ())) (chkPlatforms L) := by
  unfold S18 chkPlatforms
  have hlen := len_big hL.1 (by omega)
  refine Ult.ifS (by rw [igt_eq]; unfold len; simp only [decide_eq_decide]; omega) (fun _ => Ult.ret) fun h30 => ?_
  refine (Ult.forI (fun _ => Nat.le_refl _) L.length (fun j => chkPlats (L.take j) (L.drop j)) fun j hj next => ?_).eq (by rw [List.drop_zero, List.take_zero])
  dsimp only
  rw [iltL]
  by_cases hlt' : ¬ j < L.length
  · refine Ult.no (decide_eq_false hlt') (Ult.ret.eq ?_)
    rw [List.drop_eq_nil_of_le (by omega)]; rfl
  have hlt : j < L.length := Decidable.not_not.1 hlt'
  refine Ult.yes (decide_eq_true hlt) (Ult.bindc (at?_nat hlt) ?_)
  obtain ⟨s1, s2⟩ := hL.2 _ (List.getElem_mem hlt)
  rw [drop_cons hlt, chkPlats, ← List.take_succ_eq_append_getElem hlt, isucc hlt (by omega)]
  have hsp := S39_spec L[j].2 s2
  refine Ult.bind (Ult.call (f := fun k => S40 k (L[j].1, ())) (lp_le _ _ fun _ => Nat.le_refl _) (S40_spec L[j].1 (by omega))) (Ult.ifS (not_false_eq _) (fun _ => Ult.ret) fun _ => ?_)
  refine Ult.bind (Ult.call (f := fun k => S39 k (L[j].2, ())) (lp_le _ _ fun _ => Nat.le_refl _) hsp) (Ult.ifS (ine_eq _ _) (fun _ => Ult.ret) fun _ => ?_)
  refine Ult.bindc (cut?_take (by omega)) ?_
  have ha := S41_spec (l := lp fun k => k) (kk := fun p => p.1) (lp_le _ _ fun _ => Nat.le_refl _) (L.take j) (fun p a => S42 p.1 (a, (L[j].1, L[j].2), ())) (fun q => decide (q.1 = L[j].1)) (fun a _ => Ult.ret.eq (seq_eq _ _)) (by rw [List.length_take]; omega)
  exact Ult.bind ha (Ult.ifS (dec_true _) (fun _ => Ult.ret) fun _ => next hlt)
def chkTls : List Tool → List Tool → Int
  | _, [] => 0
  | seen, p :: r => if isWord p.1 = false then 5 else if isWord p.2.1 = false then 5 else if chkPairsL p.2.2.1 ≠ 0 then chkPairsL p.2.2.1 else if chkPairsL p.2.2.2 ≠ 0 then chkPairsL p.2.2.2 else if (seen.any fun q => decide (q.1 = p.1)) = true then 7 else chkTls (seen ++ [p]) r
def chkTools (L : List Tool) : Int := if 100 < L.length then 2 else chkTls [] L
def chkKinds : Option ByteArray → List ByteArray → Int
  | _, [] => 0
  | prev, p :: r => if isWord p = false then 5 else if notAbove prev p = true then 8 else chkKinds (some p) r
def prevK (L : List ByteArray) (j : Nat) : Option ByteArray := if h : 0 < j ∧ j - 1 < L.length then some (L[j - 1]'h.2) else none
theorem prevK_succ {L : List ByteArray} {j : Nat} (h : j < L.length) : prevK L (j + 1) = some L[j] := by unfold prevK; rw [dif_pos ⟨Nat.succ_pos _, by simpa using h⟩]; simp
theorem order_stepK {C : List ByteArray} {j : Nat} (hlt : j < C.length) (hC : C.length ≤ 9223372036854775807) {e rest : R} {y f : ι → Option R} (he : Ult l y e) (nx : Ult l f rest) :
    Ult l (fun i => cnd (igt (j : Int) 0) (bnd (at? C (isub .i64 (j : Int) 1)) fun a => cnd (sle C[j] a) (y i) (f i)) (f i)) (if notAbove (prevK C j) C[j] = true then e else rest) := by
  rw [igt0]
  by_cases h0 : 0 < j
  · refine Ult.yes (decide_eq_true h0) ?_
    rw [ipred (n := C.length) h0 (by omega) (by omega)]
    refine Ult.bindc (at?_nat (show j - 1 < C.length by omega)) ?_
    have hp : prevK C j = some C[j - 1] := by unfold prevK; rw [dif_pos ⟨h0, by omega⟩]
    rw [hp]
    exact Ult.ifS (dec_true _) (fun _ => he) fun _ => nx
  · refine Ult.no (decide_eq_false h0) ?_
    have : j = 0 := by omega
    subst this
    rw [show prevK C 0 = none from rfl, if_neg (by simp [notAbove])]
    exact nx
def hasP (L : List Pair) (p : Pair) : Bool := L.any fun q => decide (p = q)
theorem S80_spec (L : List Pair) (p : Pair) (hL : L.length ≤ 9223372036854775807) : Ultk (fun k => S80 k (L, p, ())) (idxF (fun q => decide (p = q)) 0 L) := by
  unfold S80
  have h := idx_loop (l := fun k : Nat => k) (fun _ => Nat.le_refl _) L (fun _ a => some (kbeq (Kd.agg (Kd.pair Kd.str Kd.str)) (p.1, p.2) a)) (fun q => decide (p = q)) (fun a _ => Ult.ret.eq (kbeq_pair _ _)) hL
  exact h
theorem S65_spec (L : List Pair) (p : Pair) (hL : L.length ≤ 9223372036854775807) : Ultk (fun k => S65 k (L, p, ())) (hasP L p) := by
  unfold S65
  exact Ult.bind (S80_spec L p hL) (Ult.ret.eq idxF_any)
def fitP (A B : List Pair) : Bool := A.all fun p => hasP B p
theorem if_all (b : Bool) : (if b = true then true else false) = b := by cases b <;> rfl
theorem S52_spec (A B : List Pair) (hA : A.length ≤ 9223372036854775807) (hB : B.length ≤ 9223372036854775807) : Ultk (fun k => S52 k (A, B, ())) (fitP A B) := by
  unfold S52
  have h := all_loop (l := fun k : Nat => k) (fun _ => Nat.le_refl _) A (fun k a => S65 k (B, (a.1, a.2), ())) (fun p => hasP B p) (Ult.ret (r := true)) (Ult.ret (r := false)) (fun a _ => S65_spec B a hB) hA
  exact h.eq (if_all _)
end Go.Proofs.YtonfimidgbppeaaDoor.Ev

namespace Go.Proofs.YtonfimidgbppeaaDoor.Ev
open Go Go.RowKit
set_option linter.unusedVariables false
set_option linter.unusedSimpArgs false
variable {ι R α X : Type} {l : ι → Nat}
theorem Ult.copyI {st : ι → (X → Option R) → X → Option R} {k : ι → Nat} (hk : ∀ i, l i ≤ k i) (L : List α) (mk : List α → Nat → X) (r : R)
    (hd : Ult (lp l) (fun p => st p.1 (loopN p.2 (st p.1)) (mk L L.length)) r)
    (hs : ∀ j, (h : j < L.length) → Ult (lp l) (fun p => loopN p.2 (st p.1) (mk (L.take j ++ [L[j]]) (j + 1))) r → Ult (lp l) (fun p => st p.1 (loopN p.2 (st p.1)) (mk (L.take j) j)) r) :
    Ult l (fun i => loopN (k i) (st i) (mk [] 0)) r := by
  refine Ult.forA (A := List α) hk L.length mk (fun v j => v = L.take j) (fun _ _ => r) [] (by simp) fun v j hj hv next => ?_
  subst hv
  by_cases hlt' : ¬ j < L.length
  · have : j = L.length := by omega
    subst this
    rw [List.take_of_length_le (Nat.le_refl _)]
    exact hd
  have hlt : j < L.length := Decidable.not_not.1 hlt'
  refine hs j hlt ?_
  rw [show L.take j ++ [L[j]] = L.take (j + 1) by rw [List.take_succ_eq_append_getElem hlt]]
  exact next _ hlt rfl
theorem iltE (L : List α) : ilt (L.length : Int) (len L) = false := by rw [iltL]; simp
theorem takeL {L : List α} {j : Nat} (h : j < L.length) : (L.take j).length = j := by rw [List.length_take]; omega

end Go.Proofs.YtonfimidgbppeaaDoor.Ev

namespace Go.Proofs.YtonfimidgbppeaaDoor.Ev
open Go Go.RowKit
set_option linter.unusedVariables false
set_option linter.unusedSimpArgs false
variable {ι R α X : Type} {l : ι → Nat}
def fitT (kd : ByteArray) (p q : Platform) (t : Tool) : Bool := if t.2.1 = kd then (if fitP t.2.2.1 p.2 = true then fitP t.2.2.2 q.2 else false) else false
def toolsOn (T : List Tool) (p q : Platform) : List ByteArray → List ByteArray → List ByteArray × Bool
  | acc, [] => (acc, true)
  | acc, kd :: r => match T.find? (fitT kd p q) with
    | none => ([], false)
    | some t => toolsOn T p q (acc ++ [t.1]) r
abbrev Ans : Type := ByteArray × List ByteArray × Bool × Int
def orErr (n : Int) (r : Ans) : Ans := if n ≠ 0 then (⟨#[]⟩, [], false, n) else r
theorem orErr_ite {P : Prop} [Decidable P] {x y : Int} {r : Ans} : orErr (if P then x else y) r = if P then orErr x r else orErr y r := by split <;> rfl
theorem orErr_zero {r : Ans} : orErr 0 r = r := rfl
def kindsChk (K : List ByteArray) : Int := if 30 < K.length then 2 else chkKinds none K
def firstPlat (T : List Tool) (K : List ByteArray) (q : Platform) : List Platform → Ans
  | [] => (⟨#[]⟩, [], false, 0)
  | p :: r => if (toolsOn T p q [] K).2 = true then (p.1, (toolsOn T p q [] K).1, true, 0) else firstPlat T K q r
def toolsAns (P : List Platform) (T : List Tool) (K : List ByteArray) (q : Platform) : Ans :=
  orErr (chkPlatforms P) (orErr (chkTools T) (orErr (kindsChk K) (orErr (chkPlatforms [q]) (firstPlat T K q P))))
theorem PlatSz.one {q : Platform} (h1 : q.1.size ≤ 140737488351232) (h2 : PairSz q.2) : PlatSz [q] :=
  ⟨by show 1 * 40 ≤ _; omega, fun p hp => by rw [List.mem_singleton] at hp; subst hp; exact ⟨h1, h2⟩⟩
theorem first_loop {kk : ι → Nat} (hk : ∀ i, l i ≤ kk i) (T : List Tool) (K : List ByteArray) (q : Platform) (P : List Platform) (f : ι → Platform → Option (List ByteArray × Bool)) (hf : ∀ p ∈ P, Ult l (fun i => f i p) (toolsOn T p q [] K)) (hP : P.length ≤ 9223372036854775807) :
    Ult l (fun i => loopN (kk i) (fun (a6 : Int → Option Ans) (a7 : Int) => cnd (ilt a7 (len P)) (bnd (at? P a7) fun a8 => bnd (f i a8) fun a9 => cnd a9.2 (some (a8.1, a9.1, true, 0)) (a6 (iadd .i64 a7 1))) (some ((⟨#[]⟩ : ByteArray), ([] : List ByteArray), false, 0))) 0) (firstPlat T K q P) := by
  refine (Ult.forI hk P.length (fun j => firstPlat T K q (P.drop j)) fun j hj next => ?_).eq (by rw [List.drop_zero])
  rw [iltL]
  by_cases hlt' : ¬ j < P.length
  · refine Ult.no (decide_eq_false hlt') (Ult.ret.eq ?_)
    rw [List.drop_eq_nil_of_le (by omega)]; rfl
  have hlt : j < P.length := Decidable.not_not.1 hlt'
  refine Ult.yes (decide_eq_true hlt) (Ult.bindc (at?_nat hlt) (Ult.bind (hf _ (List.getElem_mem hlt)).lift ?_))
  rw [drop_cons hlt, firstPlat, isucc hlt hP]
  exact Ult.ifS (dec_true _) (fun _ => Ult.ret) (fun _ => next hlt)
theorem toolsOn_len {T : List Tool} {p q : Platform} : ∀ {K acc : List ByteArray}, (toolsOn T p q acc K).1.length ≤ acc.length + K.length
  | [], acc => Nat.le_refl _
  | kd :: r, acc => by
    rw [toolsOn]
    split
    · exact Nat.zero_le _
    · have := toolsOn_len (T := T) (p := p) (q := q) (K := r) (acc := acc ++ [(‹Tool›).1])
      simp only [List.length_append, List.length_cons, List.length_nil] at this ⊢
      omega
theorem firstPlat_len {T : List Tool} {K : List ByteArray} {q : Platform} : ∀ {P : List Platform}, (firstPlat T K q P).2.1.length ≤ K.length
  | [] => Nat.zero_le _
  | p :: r => by
    rw [firstPlat]
    split
    · have := toolsOn_len (T := T) (p := p) (q := q) (K := K) (acc := [])
      simpa using this
    · exact firstPlat_len
theorem orErr_len {n : Int} {r : Ans} {m : Nat} (h : r.2.1.length ≤ m) : (orErr n r).2.1.length ≤ m := by
  unfold orErr
  split
  · exact Nat.zero_le _
  · exact h
theorem toolsAns_len {P : List Platform} {T : List Tool} {K : List ByteArray} {q : Platform} : (toolsAns P T K q).2.1.length ≤ K.length := orErr_len (orErr_len (orErr_len (orErr_len firstPlat_len)))
end Go.Proofs.YtonfimidgbppeaaDoor.Ev

namespace Go.Proofs.YtonfimidgbppeaaDoor.Ev
open Go Go.RowKit
set_option linter.unusedVariables false
set_option linter.unusedSimpArgs false
variable {ι R α X : Type} {l : ι → Nat}
def okB (b : UInt8) : Bool := decide (32 ≤ b.toNat ∧ b.toNat ≤ 126)
def dflt : ByteArray := ⟨#[100, 101, 102, 97, 117, 108, 116]⟩
def isCond (s : ByteArray) : Bool := s.data.toList.all okB && (decide (1 ≤ s.size ∧ s.size ≤ 1000) && decide (s ≠ dflt))
theorem S36_78 (k k' : Nat) (s : ByteArray) : S36 k (s, (fun a => S37 k' (a, ())), ()) = some (!(s.data.toList.all okB)) := by
  have hv : ∀ n : Nat, S37 k' ((n : Int), ()) = some (decide (n < 32 ∨ 126 < n)) := fun n => by
    unfold S37
    dsimp only
    rw [ilt_eq, igt_eq]
    by_cases h : n < 32
    · rw [decide_eq_true (show (n : Int) < 32 by omega), decide_eq_true (Or.inl h)]; rfl
    · rw [decide_eq_false (show ¬ (n : Int) < 32 by omega)]
      show some (decide ((126 : Int) < n)) = _
      congr 1
      simp only [decide_eq_decide]
      omega
  unfold S36 containsF
  rw [if_pos (show Runes _ from fun n _ => ⟨_, hv n⟩)]
  congr 1
  rw [show (fun x : Nat => (S37 k' ((x : Int), ())).getD false) = fun n => decide (n < 32 ∨ 126 < n) from funext fun n => by rw [hv n]; rfl]
  unfold Lib.idxFunc
  rw [idxFrom_any _ (fun r hr => by simp; omega) s s.size 0 (by omega), List.drop_zero]
  rw [List.not_all_eq_any_not]
  congr 1
  funext b
  unfold okB
  rw [← decide_not]
  simp only [decide_eq_decide]
  omega
theorem isCond_join {l : ι → Nat} (s : ByteArray) {k k' : ι → Nat} {g : ι → Bool → Option R} {r : R} (h : Ult l (fun i => g i (!isCond s)) r) :
    Ult l (fun i => jn (fun a6 => cnd (ilt (ssz s) 1) (a6 true) (cnd (igt (ssz s) 1000) (a6 true) (cnd (seq s (⟨#[100, 101, 102, 97, 117, 108, 116]⟩ : ByteArray)) (a6 true) (bnd (S36 (k i) (s, (fun a => S37 (k' i) (a, ())), ())) (fun a7 => a6 a7))))) (g i)) r := by
  refine Ult.jn ?_
  by_cases h1 : s.size < 1
  · refine Ult.yes (by simp only [ilt_eq, ssz, decide_eq_true_eq]; omega) ?_
    rw [show isCond s = false by unfold isCond; rw [decide_eq_false (by omega : ¬ (1 ≤ s.size ∧ s.size ≤ 1000)), Bool.false_and, Bool.and_false]] at h
    exact h
  refine Ult.no (by simp only [ilt_eq, ssz, decide_eq_false_iff_not]; omega) ?_
  by_cases h2 : 1000 < s.size
  · refine Ult.yes (by simp only [igt_eq, ssz, decide_eq_true_eq]; omega) ?_
    rw [show isCond s = false by unfold isCond; rw [decide_eq_false (by omega : ¬ (1 ≤ s.size ∧ s.size ≤ 1000)), Bool.false_and, Bool.and_false]] at h
    exact h
  refine Ult.no (by simp only [igt_eq, ssz, decide_eq_false_iff_not]; omega) ?_
  by_cases h3 : s = dflt
  · refine Ult.yes (by rw [seq_eq]; exact decide_eq_true h3) ?_
    rw [show isCond s = false by unfold isCond; rw [decide_eq_false (by simpa using h3 : ¬ (s ≠ dflt)), Bool.and_false, Bool.and_false]] at h
    exact h
  refine Ult.no (by rw [seq_eq]; exact decide_eq_false h3) ?_
  rw [show isCond s = s.data.toList.all okB by unfold isCond; rw [decide_eq_true h3, decide_eq_true (by omega : 1 ≤ s.size ∧ s.size ≤ 1000)]; simp] at h
  exact h.congr fun i => by rw [S36_78]; rfl

/-- the order of names, and what comes then -/
theorem order_stepG {C : List (ByteArray × α)} {j : Nat} (hlt : j < C.length) (hC : C.length ≤ 9223372036854775807) {e rest : R} {f : ι → Option R} (nx : Ult l f rest) :
    Ult l (fun i => cnd (igt (j : Int) 0) (bnd (at? C (isub .i64 (j : Int) 1)) fun a => cnd (sle C[j].1 a.1) (some e) (f i)) (f i)) (if notAbove (prevOf C j) C[j].1 = true then e else rest) := by
  rw [igt0]
  by_cases h0 : 0 < j
  · refine Ult.yes (decide_eq_true h0) ?_
    rw [ipred (n := C.length) h0 (by omega) (by omega)]
    refine Ult.bindc (at?_nat (show j - 1 < C.length by omega)) ?_
    have hp : prevOf C j = some C[j - 1].1 := by unfold prevOf; rw [dif_pos ⟨h0, by omega⟩]
    rw [hp]
    exact Ult.ifS (dec_true _) (fun _ => Ult.ret) fun _ => nx
  · refine Ult.no (decide_eq_false h0) ?_
    have : j = 0 := by omega
    subst this
    rw [prevOf_zero, if_neg (by simp [notAbove])]
    exact nx
def chkConds (L : List Setting) : Option ByteArray → List Condition → Int
  | _, [] => 0
  | prev, x :: r => if isCond x.1 = false then 3 else if 30 < x.2.1.length then 2 else if 30 < x.2.2.length then 2 else if chkSet L false none x.2.1 ≠ 0 then chkSet L false none x.2.1 else if chkPairsL x.2.2 ≠ 0 then chkPairsL x.2.2 else if notAbove prev x.1 = true then 8 else chkConds L (some x.1) r
def chkConditions (L : List Setting) (M : List Condition) : Int := if chkSettings L ≠ 0 then chkSettings L else if 100 < M.length then 2 else chkConds L none M
theorem S16_spec (L : List Setting) (M : List Condition) (hL : SetSz L) (hM : CondSz M) : Ultk (fun k => S16 k (L, M, ())) (chkConditions L M) := by
  unfold S16 chkConditions
  have hlen := len_big hM.1 (by omega)
  refine Ult.bind (S35_spec L hL) (Ult.ifS (ine_eq _ _) (fun _ => Ult.ret) fun _ => ?_)
  refine Ult.ifS (by rw [igt_eq]; unfold len; simp only [decide_eq_decide]; omega) (fun _ => Ult.ret) fun h30 => ?_
  refine (Ult.forI (fun _ => Nat.le_refl _) M.length (fun j => chkConds L (prevOf M j) (M.drop j)) fun j hj next => ?_).eq (by rw [List.drop_zero, prevOf_zero])
  dsimp only
  rw [iltL]
  by_cases hlt' : ¬ j < M.length
  · refine Ult.no (decide_eq_false hlt') (Ult.ret.eq ?_)
    rw [List.drop_eq_nil_of_le (by omega)]
    cases prevOf M j <;> rfl
  have hlt : j < M.length := Decidable.not_not.1 hlt'
  refine Ult.yes (decide_eq_true hlt) (Ult.bindc (at?_nat hlt) ?_)
  obtain ⟨s1, s2, s3⟩ := hM.2 _ (List.getElem_mem hlt)
  have l2 := s2.len
  have l3 := s3.len
  rw [drop_cons hlt, chkConds, ← prevOf_succ hlt, isucc hlt (by omega)]
  refine (isCond_join _ (Ult.ifS (by cases isCond M[j].1 <;> rfl) (fun _ => Ult.ret) fun _ => Ult.jn ?_))
  refine Ult.ifS (by rw [igt_eq]; unfold len; simp only [decide_eq_decide]; omega) (fun _ => Ult.ret) fun _ => ?_
  refine Ult.ifS (by rw [igt_eq]; unfold len; simp only [decide_eq_decide]; omega) (fun _ => Ult.ret) fun _ => ?_
  refine Ult.bind (Ult.call (f := fun k => S38 k (L, M[j].2.1, false, ())) (lp_le _ _ fun _ => Nat.le_refl _) (S38_spec L M[j].2.1 false hL (by omega))) (Ult.ifS (ine_eq _ _) (fun _ => Ult.ret) fun _ => ?_)
  refine Ult.bind (Ult.call (f := fun k => S39 k (M[j].2.2, ())) (lp_le _ _ fun _ => Nat.le_refl _) (S39_spec M[j].2.2 s3)) (Ult.ifS (ine_eq _ _) (fun _ => Ult.ret) fun _ => ?_)
  exact order_stepG hlt (by omega) (next hlt)
def needsOk (L : List Setting) (C : List Pair) (N : List Pair) : Bool := N.all fun n => decide (valOf L C n.1 = some n.2)
def holdsB (L : List Setting) (x : Condition) (C : List Pair) (p : Platform) : Bool := if needsOk L C x.2.1 = true then fitP x.2.2 p.2 else false
theorem holds_loop {kk : ι → Nat} (hk : ∀ i, l i ≤ kk i) (L : List Setting) (C N : List Pair) (f : ι → ByteArray → Option ByteArray) (hf : ∀ n ∈ N, ∃ v, valOf L C n.1 = some v ∧ Ult l (fun i => f i n.1) v) (hN : N.length ≤ 9223372036854775807) {y : ι → Option Bool} {r : Bool} (hy : Ult l y r) :
    Ult l (fun i => loopN (kk i) (fun (a2 : Int → Option Bool) (a3 : Int) => cnd (ilt a3 (len N)) (bnd (at? N a3) fun a4 => bnd (f i a4.1) fun a5 => cnd (sne a5 a4.2) (some false) (a2 (iadd .i64 a3 1))) (y i)) 0) (if needsOk L C N = true then r else false) := by
  refine (Ult.forI hk N.length (fun j => if needsOk L C (N.drop j) = true then r else false) fun j hj next => ?_).eq (by rw [List.drop_zero])
  rw [iltL]
  by_cases hlt' : ¬ j < N.length
  · refine Ult.no (decide_eq_false hlt') (hy.lift.eq ?_)
    rw [List.drop_eq_nil_of_le (by omega)]; rfl
  have hlt : j < N.length := Decidable.not_not.1 hlt'
  obtain ⟨v, v1, v2⟩ := hf _ (List.getElem_mem hlt)
  refine Ult.yes (decide_eq_true hlt) (Ult.bindc (at?_nat hlt) (Ult.bind v2.lift ?_))
  have nx := next hlt
  have e : needsOk L C (N.drop j) = (decide (valOf L C N[j].1 = some N[j].2) && needsOk L C (N.drop (j + 1))) := by rw [drop_cons hlt]; rfl
  rw [e, isucc hlt hN, v1]
  by_cases hv : v = N[j].2
  · refine Ult.no (by rw [sne_eq]; simpa using hv) ?_
    rw [decide_eq_true (by rw [hv]), Bool.true_and]
    exact nx
  · refine Ult.yes (by rw [sne_eq]; exact decide_eq_true hv) (Ult.ret.eq ?_)
    rw [decide_eq_false (by simpa using hv), Bool.false_and]; rfl
theorem S27_spec (L : List Setting) (x : Condition) (C : List Pair) (p : Platform) (hL : L.length ≤ 9223372036854775807) (hC : C.length ≤ 9223372036854775807) (h1 : PairSz x.2.1) (h2 : PairSz x.2.2) (h3 : PairSz p.2) (hv : ∀ n ∈ x.2.1, ∃ v, valOf L C n.1 = some v) : Ultk (fun k => S27 k (L, x, C, p, ())) (holdsB L x C p) := by
  unfold S27 holdsB
  have l1 := h1.len
  have l2 := h2.len
  have l3 := h3.len
  exact holds_loop (l := fun k : Nat => k) (fun _ => Nat.le_refl _) L C x.2.1 (fun k n => S51 k (L, C, n, ())) (fun n hn => by
    obtain ⟨v, hv⟩ := hv n hn
    exact ⟨v, hv, S51_spec L C n.1 v hL hC hv⟩) (by omega) (Ult.bind (S52_spec x.2.2 p.2 (by omega) (by omega)) Ult.ret)
def holdsAns (L : List Setting) (x : Condition) (C : List Pair) (p : Platform) : Bool × Int :=
  if chkConfig L C ≠ 0 then (false, chkConfig L C) else if chkConditions L [x] ≠ 0 then (false, chkConditions L [x]) else if chkPlatforms [p] ≠ 0 then (false, chkPlatforms [p]) else (holdsB L x C p, 0)
theorem chkConditions_one {L : List Setting} {x : Condition} (h : chkConditions L [x] = 0) : chkSettings L = 0 ∧ chkSet L false none x.2.1 = 0 := by
  unfold chkConditions at h
  split at h
  · rename_i q; exact absurd h q
  · rename_i q
    refine ⟨Decidable.not_not.1 q, ?_⟩
    rw [if_neg (by simp), chkConds] at h
    split at h
    · cases h
    split at h
    · cases h
    split at h
    · cases h
    split at h
    · rename_i q4; exact absurd h q4
    · rename_i q4; exact Decidable.not_not.1 q4
theorem CondSz.one {x : Condition} (h0 : x.1.size ≤ 140737488351232) (h1 : PairSz x.2.1) (h2 : PairSz x.2.2) : CondSz [x] :=
  ⟨by show 1 * 64 ≤ _; omega, fun p hp => by rw [List.mem_singleton] at hp; subst hp; exact ⟨h0, h1, h2⟩⟩
theorem holds_vals {L : List Setting} {x : Condition} {C : List Pair} (h : chkConditions L [x] = 0) : ∀ n ∈ x.2.1, ∃ v, valOf L C n.1 = some v := fun n hn => by
  obtain ⟨h1, h2⟩ := chkConditions_one h
  obtain ⟨s, hs, _⟩ := (chkSet_ok h2).1 n hn
  exact valOf_some h1 hs
end Go.Proofs.YtonfimidgbppeaaDoor.Ev

namespace Go.Proofs.YtonfimidgbppeaaDoor.Ev
open Go Go.RowKit
set_option linter.unusedVariables false
set_option linter.unusedSimpArgs false
variable {ι R α X : Type} {l : ι → Nat}
abbrev V0 : Type := Int × ByteArray × Int × List ByteArray × Nat
abbrev Case : Type := ByteArray × V0
abbrev V1 : Type := Int × ByteArray × Int × List ByteArray × List Case
theorem jn_and (c d : Bool) (g : Bool → Option R) : jn (fun a => cnd c (a d) (a false)) g = g (c && d) := by cases c <;> rfl
theorem jn_or (c d : Bool) (g : Bool → Option R) : jn (fun a => cnd c (a true) (a d)) g = g (c || d) := by cases c <;> rfl
/-! ### texts -/
def okT (b : UInt8) : Bool := decide (b.toNat = 10 ∨ 32 ≤ b.toNat ∧ b.toNat ≤ 126)
def isTxt (s : ByteArray) : Bool := s.data.toList.all okT
theorem txt_loop {kk : ι → Nat} (hk : ∀ i, l i ≤ kk i) (s : ByteArray) (hs : s.size ≤ 9223372036854775807) : Ult l (fun i => loopN (kk i) (fun (a2 : (Int → (Option Bool))) (a3 : Int) => cnd (ilt a3 (ssz s)) (bnd (bt? s a3) (fun (a4 : Int) => cnd (ine a4 10) (bnd (bt? s a3) (fun (a5 : Int) => cnd (ilt a5 32) (some false) (bnd (bt? s a3) (fun (a6 : Int) => cnd (igt a6 126) (some false) (a2 (iadd Go.IntKind.i64 a3 1)))))) (a2 (iadd Go.IntKind.i64 a3 1)))) (some true)) 0) (isTxt s) := by
  have hl : s.data.toList.length = s.size := by simp
  refine (Ult.forI hk s.size (fun j => (s.data.toList.drop j).all okT) fun j hj next => ?_).eq (by rw [List.drop_zero]; rfl)
  by_cases hlt' : ¬ j < s.size
  · refine Ult.no (by rw [iltS]; exact decide_eq_false hlt') (Ult.ret.eq ?_)
    rw [List.drop_eq_nil_of_le (by omega), List.all_nil]
  have hlt : j < s.size := Decidable.not_not.1 hlt'
  have hb := bt?_nat hlt
  have e := bt_get hlt
  refine Ult.yes (by rw [iltS]; exact decide_eq_true hlt) (Ult.bindc hb ?_)
  rw [drop_cons (by omega : j < s.data.toList.length), List.all_cons, isucc hlt hs, e]
  have nx := next hlt
  generalize hbb : s.data.toList[j]'(by omega) = b at e ⊢
  have step : okT b = true → Ult (lp l) (fun p => loopN p.2 _ ((j + 1 : Nat) : Int)) (okT b && (s.data.toList.drop (j + 1)).all okT) := fun h => by rw [h, Bool.true_and]; exact nx
  by_cases h10 : b.toNat = 10
  · refine Ult.no (by rw [ine_eq]; simp only [decide_eq_false_iff_not]; omega) ?_
    exact step (by unfold okT; rw [decide_eq_true (by omega)])
  refine Ult.yes (by rw [ine_eq]; exact decide_eq_true (by omega)) (Ult.bindc hb ?_)
  rw [e]
  by_cases h32 : b.toNat < 32
  · refine Ult.yes (by rw [ilt_eq]; exact decide_eq_true (by omega)) (Ult.ret.eq ?_)
    unfold okT; rw [decide_eq_false (by omega), Bool.false_and]
  refine Ult.no (by rw [ilt_eq]; exact decide_eq_false (by omega)) (Ult.bindc hb ?_)
  rw [e]
  by_cases h126 : 126 < b.toNat
  · refine Ult.yes (by rw [igt_eq]; exact decide_eq_true (by omega)) (Ult.ret.eq ?_)
    unfold okT; rw [decide_eq_false (by omega), Bool.false_and]
  refine Ult.no (by rw [igt_eq]; exact decide_eq_false (by omega)) ?_
  exact step (by unfold okT; rw [decide_eq_true (by omega)])
theorem txtP (s : ByteArray) (hs : s.size ≤ 9223372036854775807) : Ultk (fun k => S21 k (s, ())) (isTxt s) := by
  unfold S21
  exact txt_loop (l := fun k : Nat => k) (fun _ => Nat.le_refl _) s hs
/-! ### the check of a value; n: how many cases it has, r: what is said of them -/
def badV (kd : Int) (tx : ByteArray) (nm : Int) (ls : List ByteArray) (n : Int) : Bool := (sne tx ⟨#[]⟩ && ine kd 1) || ((ine nm 0 && ine kd 2) || ((igt (len ls) 0 && ine kd 3) || (igt n 0 && ine kd 4)))
def bigV (tx : ByteArray) (ls : List ByteArray) (n : Int) : Bool := igt (ssz tx) 1000 || (igt (len ls) 1000 || (ls.any (fun s => igt (ssz s) 1000) || igt n 50))
def badT (tx : ByteArray) (ls : List ByteArray) : Bool := bnot (isTxt tx) || ls.any (fun s => bnot (isTxt s))
def chkVal (kd : Int) (tx : ByteArray) (nm : Int) (ls : List ByteArray) (n r : Int) : Int :=
  if (ilt kd 1 || igt kd 4) = true then 4 else if badV kd tx nm ls n = true then 3 else if bigV tx ls n = true then 2 else if badT tx ls = true then 3 else if (ilt nm 0 || igt nm 999999999) = true then 1 else if kd = 4 then r else 0
theorem strs_any {kk : ι → Nat} (hk : ∀ i, l i ≤ kk i) (L : List ByteArray) (f : ι → ByteArray → Option Bool) (p : ByteArray → Bool) (hf : ∀ a ∈ L, Ult l (fun i => f i a) (p a)) (hL : L.length ≤ 9223372036854775807) : Ult l (fun i => S19 (kk i) (L, f i, ())) (L.any p) := by
  unfold S19
  refine Ult.bind ?_ (Ult.ret.eq idxF_any)
  unfold S43
  exact idx_loop hk L f p hf hL
theorem chkVal_prog (kd : Int) (tx : ByteArray) (nm : Int) (ls : List ByteArray) (n r : Int) (y : Nat → Option Int) (h1 : tx.size ≤ 140737488351232) (h2 : StrsSz ls) (hy : kd = 4 → Ultk y r) :
    Ultk (fun k => jn (fun (a2 : (Bool → (Option Int))) => cnd (ilt kd 1) (a2 true) (a2 (igt kd 4))) (fun (a2 : Bool) => cnd a2 (some 4) (jn (fun (a3 : (Bool → (Option Int))) => jn (fun (a4 : (Bool → (Option Int))) => cnd (sne tx (⟨#[]⟩ : ByteArray)) (a4 (ine kd 1)) (a4 false)) (fun (a4 : Bool) => cnd a4 (a3 a4) (jn (fun (a5 : (Bool → (Option Int))) => cnd (ine nm 0) (a5 (ine kd 2)) (a5 false)) (fun (a5 : Bool) => cnd a5 (a3 a5) (jn (fun (a6 : (Bool → (Option Int))) => cnd (igt (len ls) 0) (a6 (ine kd 3)) (a6 false)) (fun (a6 : Bool) => cnd a6 (a3 a6) (cnd (igt n 0) (a3 (ine kd 4)) (a3 false)))))))) (fun (a3 : Bool) => cnd a3 (some 3) (jn (fun (a4 : (Bool → (Option Int))) => cnd (igt (ssz tx) 1000) (a4 true) (cnd (igt (len ls) 1000) (a4 true) (bnd (S19 k (ls, fun (a5 : ByteArray) => S20 k (a5, ()), ())) (fun (a5 : Bool) => cnd a5 (a4 true) (a4 (igt n 50)))))) (fun (a4 : Bool) => cnd a4 (some 2) (jn (fun (a5 : (Bool → (Option Int))) => bnd (S21 k (tx, ())) (fun (a6 : Bool) => cnd (bnot a6) (a5 true) (bnd (S19 k (ls, fun (a7 : ByteArray) => S22 k (a7, ()), ())) (fun (a7 : Bool) => a5 a7)))) (fun (a5 : Bool) => cnd a5 (some 3) (jn (fun (a6 : (Bool → (Option Int))) => cnd (ilt nm 0) (a6 true) (a6 (igt nm 999999999))) (fun (a6 : Bool) => cnd a6 (some 1) (cnd (ieq kd 4) (y k) (some 0)))))))))))) (chkVal kd tx nm ls n r) := by
  have hlen := len_big h2.1 (by omega)
  simp only [jn_and, jn_or]
  unfold chkVal
  refine Ult.ifS (dec_true _) (fun _ => Ult.ret) fun _ => ?_
  unfold badV
  have tail : Ultk (fun k => jn (fun (a4 : (Bool → (Option Int))) => cnd (igt (ssz tx) 1000) (a4 true) (cnd (igt (len ls) 1000) (a4 true) (bnd (S19 k (ls, fun (a5 : ByteArray) => S20 k (a5, ()), ())) (fun (a5 : Bool) => cnd a5 (a4 true) (a4 (igt n 50)))))) (fun (a4 : Bool) => cnd a4 (some 2) (jn (fun (a5 : (Bool → (Option Int))) => bnd (S21 k (tx, ())) (fun (a6 : Bool) => cnd (bnot a6) (a5 true) (bnd (S19 k (ls, fun (a7 : ByteArray) => S22 k (a7, ()), ())) (fun (a7 : Bool) => a5 a7)))) (fun (a5 : Bool) => cnd a5 (some 3) (cnd (ilt nm 0 || igt nm 999999999) (some 1) (cnd (ieq kd 4) (y k) (some 0))))))) (if bigV tx ls n = true then 2 else if badT tx ls = true then 3 else if (ilt nm 0 || igt nm 999999999) = true then 1 else if kd = 4 then r else 0) := by
    have last : Ultk (fun k => jn (fun (a5 : (Bool → (Option Int))) => bnd (S21 k (tx, ())) (fun (a6 : Bool) => cnd (bnot a6) (a5 true) (bnd (S19 k (ls, fun (a7 : ByteArray) => S22 k (a7, ()), ())) (fun (a7 : Bool) => a5 a7)))) (fun (a5 : Bool) => cnd a5 (some 3) (cnd (ilt nm 0 || igt nm 999999999) (some 1) (cnd (ieq kd 4) (y k) (some 0))))) (if badT tx ls = true then 3 else if (ilt nm 0 || igt nm 999999999) = true then 1 else if kd = 4 then r else 0) := by
      have fin : Ultk (fun k => cnd (ilt nm 0 || igt nm 999999999) (some 1) (cnd (ieq kd 4) (y k) (some 0))) (if (ilt nm 0 || igt nm 999999999) = true then 1 else if kd = 4 then r else 0) :=
        Ult.ifS (dec_true _) (fun _ => Ult.ret) fun _ => Ult.ifS (ieq_eq _ _) (fun h => hy h) fun _ => Ult.ret
      refine Ult.jn (Ult.bind (txtP tx (by omega)) ?_)
      unfold badT
      cases isTxt tx with
      | false => exact Ult.yes rfl (Ult.yes rfl Ult.ret)
      | true =>
        refine Ult.no rfl (Ult.bind (strs_any (l := fun k : Nat => k) (fun _ => Nat.le_refl _) ls (fun k a => S22 k (a, ())) (fun s => bnot (isTxt s)) (fun a ha => ?_) (by omega)) ?_)
        · unfold S22
          exact Ult.bind (txtP a (by have := h2.2 a ha; omega)) Ult.ret
        · show Ultk _ (if (false || ls.any fun s => bnot (isTxt s)) = true then _ else _)
          rw [Bool.false_or]
          exact Ult.ifS (dec_true _) (fun _ => Ult.ret) fun _ => fin
    refine Ult.jn ?_
    unfold bigV
    cases igt (ssz tx) 1000 with
    | true => exact Ult.yes rfl (Ult.yes rfl Ult.ret)
    | false =>
      refine Ult.no rfl ?_
      cases igt (len ls) 1000 with
      | true => exact Ult.yes rfl (Ult.yes rfl Ult.ret)
      | false =>
        refine Ult.no rfl (Ult.bind (strs_any (l := fun k : Nat => k) (fun _ => Nat.le_refl _) ls (fun k a => S20 k (a, ())) (fun s => igt (ssz s) 1000) (fun a _ => Ult.ret) (by omega)) ?_)
        cases ls.any (fun s => igt (ssz s) 1000) with
        | true => exact Ult.yes rfl (Ult.yes rfl Ult.ret)
        | false =>
          refine Ult.no rfl ?_
          cases igt n 50 with
          | true => exact Ult.yes rfl Ult.ret
          | false => exact Ult.no rfl last
  cases hb1 : (sne tx (⟨#[]⟩ : ByteArray) && ine kd 1) with
  | true => exact Ult.jn (Ult.yes rfl (Ult.yes rfl Ult.ret))
  | false =>
    refine Ult.jn (Ult.no rfl ?_)
    cases hb2 : (ine nm 0 && ine kd 2) with
    | true => exact Ult.yes rfl (Ult.yes rfl Ult.ret)
    | false =>
      refine Ult.no rfl ?_
      cases hb3 : (igt (len ls) 0 && ine kd 3) with
      | true => exact Ult.yes rfl (Ult.yes rfl Ult.ret)
      | false =>
        refine Ult.no rfl ?_
        cases hb4 : igt n 0 with
        | false => exact Ult.no rfl (Ult.no rfl tail)
        | true =>
          refine Ult.yes rfl ?_
          cases ine kd 4 with
          | true => exact Ult.yes rfl Ult.ret
          | false => exact Ult.no rfl tail
end Go.Proofs.YtonfimidgbppeaaDoor.Ev

namespace Go.Proofs.YtonfimidgbppeaaDoor.Ev
open Go Go.RowKit
set_option linter.unusedVariables false
set_option linter.unusedSimpArgs false
variable {ι R α X : Type} {l : ι → Nat}
theorem jn_u {c d : Bool} {a : Option R} {g : Unit → Option R} : jn (fun (next : Unit → Option R) => cnd c a (cnd d a (next ()))) g = cnd (c || d) a (g ()) := by cases c <;> rfl
theorem all_any (p : α → Bool) : ∀ L : List α, L.all p = bnot (L.any fun s => bnot (p s))
  | [] => rfl
  | a :: L => by
    rw [List.all_cons, List.any_cons, all_any p L]
    cases p a <;> rfl
theorem isPlain_eq (kd : Int) (tx : ByteArray) (nm : Int) (ls : List ByteArray) (n : Int) (hn : 0 ≤ n) : (cnd (seq tx (⟨#[]⟩ : ByteArray)) (cnd (ieq nm 0) (cnd (ieq (len ls) 0) (cnd (ieq n 0) (some true) (some (ieq kd 4))) (cnd (ieq kd 3) (cnd (ieq n 0) (some true) (some (ieq kd 4))) (some false))) (cnd (ieq kd 2) (cnd (ieq (len ls) 0) (cnd (ieq n 0) (some true) (some (ieq kd 4))) (cnd (ieq kd 3) (cnd (ieq n 0) (some true) (some (ieq kd 4))) (some false))) (some false))) (cnd (ieq kd 1) (cnd (ieq nm 0) (cnd (ieq (len ls) 0) (cnd (ieq n 0) (some true) (some (ieq kd 4))) (cnd (ieq kd 3) (cnd (ieq n 0) (some true) (some (ieq kd 4))) (some false))) (cnd (ieq kd 2) (cnd (ieq (len ls) 0) (cnd (ieq n 0) (some true) (some (ieq kd 4))) (cnd (ieq kd 3) (cnd (ieq n 0) (some true) (some (ieq kd 4))) (some false))) (some false))) (some false))) = some (bnot (badV kd tx nm ls n)) := by
  have hl : (0 : Int) ≤ len ls := by unfold len; exact Int.natCast_nonneg _
  have e1 : igt (len ls) 0 = !(ieq (len ls) 0) := by rw [igt_eq, ieq_eq]; by_cases h : len ls = 0 <;> simp only [h] <;> simp <;> omega
  have e2 : igt n 0 = !(ieq n 0) := by rw [igt_eq, ieq_eq]; by_cases h : n = 0 <;> simp only [h] <;> simp <;> omega
  have s1 : sne tx (⟨#[]⟩ : ByteArray) = !(seq tx ⟨#[]⟩) := by rw [sne_eq, seq_eq]; simp
  have i1 : ∀ a b : Int, ine a b = !(ieq a b) := fun a b => by rw [ine_eq, ieq_eq]; simp
  unfold badV
  rw [e1, e2, s1, i1, i1, i1, i1, i1]
  generalize seq tx (⟨#[]⟩ : ByteArray) = b1
  generalize ieq nm 0 = b2
  generalize ieq (len ls) 0 = b3
  generalize ieq n 0 = b4
  generalize ieq kd 1 = k1
  generalize ieq kd 2 = k2
  generalize ieq kd 3 = k3
  generalize ieq kd 4 = k4
  cases b1 <;> cases b2 <;> cases b3 <;> cases b4 <;> cases k1 <;> cases k2 <;> cases k3 <;> cases k4 <;> rfl
/-! ### values without cases, values with cases -/
def V0Sz (v : V0) : Prop := v.2.1.size ≤ 140737488351232 ∧ StrsSz v.2.2.2.1
def CasesSz (l : List Case) : Prop := l.length * 96 ≤ 140737488351232 ∧ ∀ c ∈ l, c.1.size ≤ 140737488351232 ∧ V0Sz c.2
def V1Sz (v : V1) : Prop := v.2.1.size ≤ 140737488351232 ∧ StrsSz v.2.2.2.1 ∧ CasesSz v.2.2.2.2
def chk0 (v : V0) : Int := chkVal v.1 v.2.1 v.2.2.1 v.2.2.2.1 (olen v.2.2.2.2) 0
theorem chk0_prog (v : V0) (h : V0Sz v) (hk : v.1 ≠ 4) : Ultk (fun k => S1010 k (v, ())) (chk0 v) := by
  unfold S1010
  exact chkVal_prog v.1 v.2.1 v.2.2.1 v.2.2.2.1 (olen v.2.2.2.2) 0 (fun _ => none) h.1 h.2 fun q => absurd q hk
end Go.Proofs.YtonfimidgbppeaaDoor.Ev

namespace Go.Proofs.YtonfimidgbppeaaDoor.Ev
open Go Go.RowKit
set_option linter.unusedVariables false
set_option linter.unusedSimpArgs false
variable {ι R α X : Type} {l : ι → Nat}
def chkTxt (s : ByteArray) : Int := if 1000 < s.size then 2 else if isTxt s = false then 3 else 0
theorem chkTxt_prog (s : ByteArray) (hs : s.size ≤ 9223372036854775807) : Ultk (fun k => S44 k (s, ())) (chkTxt s) := by
  unfold S44 chkTxt
  refine Ult.ifS (by rw [igt_eq]; unfold ssz; simp only [decide_eq_decide]; omega) (fun _ => Ult.ret) fun _ => ?_
  exact Ult.bind (txtP s hs) (Ult.ifS (not_false_eq _) (fun _ => Ult.ret) fun _ => Ult.ret)
def chkCs (k0 : Int) : List Case → List Case → Int
  | _, [] => 0
  | pre, c :: r => if chkTxt c.1 ≠ 0 then chkTxt c.1 else if pre.any (fun d => decide (d.1 = c.1)) = true then 7 else if c.2.1 = 4 then 4 else if chk0 c.2 ≠ 0 then chk0 c.2 else if c.2.1 ≠ k0 then 6 else chkCs k0 (pre ++ [c]) r
def chkCases : List Case → Int
  | [] => 9
  | c :: r => chkCs c.2.1 [] (c :: r)
theorem cases_idx {kk : ι → Nat} (hk : ∀ i, l i ≤ kk i) (L : List Case) (f : ι → Case → Option Bool) (p : Case → Bool) (hf : ∀ a ∈ L, Ult l (fun i => f i a) (p a)) (hL : L.length ≤ 9223372036854775807) : Ult l (fun i => S28 (kk i) (L, f i, ())) (idxF p 0 L) := by
  unfold S28
  exact idx_loop hk L f p hf hL
theorem cases_any {kk : ι → Nat} (hk : ∀ i, l i ≤ kk i) (L : List Case) (f : ι → Case → Option Bool) (p : Case → Bool) (hf : ∀ a ∈ L, Ult l (fun i => f i a) (p a)) (hL : L.length ≤ 9223372036854775807) : Ult l (fun i => S45 (kk i) (L, f i, ())) (L.any p) := by
  unfold S45
  exact Ult.bind (cases_idx hk L f p hf hL) (Ult.ret.eq idxF_any)
theorem cases_len {L : List Case} (h : CasesSz L) : L.length ≤ 9223372036854775807 := by have := len_big h.1 (by omega); omega
theorem chkCases_prog (L : List Case) (hL : CasesSz L) : Ultk (fun k => S23 k (L, ())) (chkCases L) := by
  unfold S23
  have hlen := cases_len hL
  cases hc : L with
  | nil => exact Ult.yes rfl Ult.ret
  | cons c0 L' =>
    rw [← hc]
    have hpos : 0 < L.length := by rw [hc]; simp
    have h0 : at? L 0 = some L[0] := at?_nat (i := 0) hpos
    have e0 : chkCases L = chkCs (L[0]).2.1 [] L := by subst hc; rfl
    refine Ult.no (by rw [ieq_eq]; show decide (((L.length : Nat) : Int) = 0) = false; exact decide_eq_false (by omega)) ?_
    rw [e0]
    refine (Ult.forI (fun _ => Nat.le_refl _) L.length (fun j => chkCs (L[0]).2.1 (L.take j) (L.drop j)) fun j hj next => ?_).eq (by rw [List.drop_zero, List.take_zero])
    dsimp only
    rw [iltL]
    by_cases hlt' : ¬ j < L.length
    · refine Ult.no (decide_eq_false hlt') (Ult.ret.eq ?_)
      rw [List.drop_eq_nil_of_le (by omega)]; rfl
    have hlt : j < L.length := Decidable.not_not.1 hlt'
    refine Ult.yes (decide_eq_true hlt) (Ult.bindc (at?_nat hlt) ?_)
    obtain ⟨s1, s2⟩ := hL.2 _ (List.getElem_mem hlt)
    rw [drop_cons hlt, chkCs, ← List.take_succ_eq_append_getElem hlt, isucc hlt hlen]
    refine Ult.bind (Ult.call (f := fun k => S44 k (L[j].1, ())) (lp_le _ _ fun _ => Nat.le_refl _) (chkTxt_prog L[j].1 (by omega))) (Ult.ifS (ine_eq _ _) (fun _ => Ult.ret) fun _ => ?_)
    refine Ult.bindc (cut?_take (by omega)) ?_
    have ha := cases_any (l := lp fun k => k) (kk := fun p => p.1) (lp_le _ _ fun _ => Nat.le_refl _) (L.take j) (fun p a => S46 p.1 (a, L[j], ())) (fun q => decide (q.1 = L[j].1)) (fun a _ => Ult.ret.eq (seq_eq _ _)) (by rw [List.length_take]; omega)
    refine Ult.bind ha (Ult.ifS (dec_true _) (fun _ => Ult.ret) fun _ => ?_)
    refine Ult.ifS (ieq_eq _ _) (fun _ => Ult.ret) fun h4 => ?_
    refine Ult.bind (Ult.call (f := fun k => S1010 k (L[j].2, ())) (lp_le _ _ fun _ => Nat.le_refl _) (chk0_prog L[j].2 s2 h4)) (Ult.ifS (ine_eq _ _) (fun _ => Ult.ret) fun _ => ?_)
    refine Ult.bindc h0 (Ult.ifS (ine_eq _ _) (fun _ => Ult.ret) fun _ => next hlt)
/-! ### values with cases -/
def chk1 (v : V1) : Int := chkVal v.1 v.2.1 v.2.2.1 v.2.2.2.1 (len v.2.2.2.2) (chkCases v.2.2.2.2)
theorem chk1_prog (v : V1) (h : V1Sz v) : Ultk (fun k => S10 k (v, ())) (chk1 v) := by
  unfold S10
  refine chkVal_prog v.1 v.2.1 v.2.2.1 v.2.2.2.1 (len v.2.2.2.2) _ (fun k => bnd (S23 k (v.2.2.2.2, ())) fun a => some a) h.1 h.2.1 fun _ => ?_
  exact Ult.bind (chkCases_prog _ h.2.2) Ult.ret
/-- what a right value is: only a choice has cases, and theirs have none -/
theorem chkVal_zero {kd : Int} {tx : ByteArray} {nm : Int} {ls : List ByteArray} {n r : Int} (h : chkVal kd tx nm ls n r = 0) : badV kd tx nm ls n = false ∧ bigV tx ls n = false ∧ (kd = 4 → r = 0) := by
  unfold chkVal at h
  split at h
  · cases h
  split at h
  · cases h
  rename_i h1
  split at h
  · cases h
  rename_i h2
  refine ⟨by simpa using h1, by simpa using h2, fun hk => ?_⟩
  split at h
  · cases h
  split at h
  · cases h
  first | exact h | (rw [if_pos hk] at h; exact h)
theorem chk0_zero {v : V0} (h : chk0 v = 0) (hk : v.1 ≠ 4) : v.2.2.2.2 = 0 := by
  obtain ⟨h1, _, _⟩ := chkVal_zero h
  unfold badV at h1
  simp only [Bool.or_eq_false_iff, Bool.and_eq_false_iff] at h1
  rcases h1.2.2.2 with q | q
  · have q : ¬ (0 : Int) < ((v.2.2.2.2 : Nat) : Int) := by rw [igt_eq] at q; exact of_decide_eq_false q
    have : (v.2.2.2.2 : Nat) = 0 := by omega
    exact this
  · rw [ine_eq] at q
    simp only [decide_eq_false_iff_not] at q
    exact absurd (Decidable.not_not.1 q) hk
theorem chk1_zero {v : V1} (h : chk1 v = 0) : (v.1 ≠ 4 → v.2.2.2.2 = []) ∧ (v.1 = 4 → chkCases v.2.2.2.2 = 0) ∧ v.2.2.2.2.length ≤ 50 := by
  obtain ⟨h1, h2, h3⟩ := chkVal_zero h
  refine ⟨fun hk => ?_, h3, ?_⟩
  · unfold badV at h1
    simp only [Bool.or_eq_false_iff, Bool.and_eq_false_iff] at h1
    rcases h1.2.2.2 with q | q
    · have q : ¬ (0 : Int) < ((v.2.2.2.2.length : Nat) : Int) := by rw [igt_eq] at q; exact of_decide_eq_false q
      exact List.eq_nil_of_length_eq_zero (by omega)
    · rw [ine_eq] at q
      simp only [decide_eq_false_iff_not] at q
      exact absurd (Decidable.not_not.1 q) hk
  · unfold bigV at h2
    simp only [Bool.or_eq_false_iff] at h2
    have q := h2.2.2.2
    have q : ¬ (50 : Int) < ((v.2.2.2.2.length : Nat) : Int) := by rw [igt_eq] at q; exact of_decide_eq_false q
    omega
theorem chkCs_zero {k0 : Int} : ∀ {r pre : List Case}, chkCs k0 pre r = 0 → ∀ c ∈ r, c.2.1 ≠ 4 ∧ chk0 c.2 = 0
  | [], _, _, c, hc => by cases hc
  | a :: r, pre, h, c, hc => by
    rw [chkCs] at h
    split at h
    · rename_i q; exact absurd h q
    split at h
    · cases h
    split at h
    · cases h
    rename_i q4
    split at h
    · rename_i q; exact absurd h q
    rename_i q0
    split at h
    · cases h
    rcases List.mem_cons.1 hc with rfl | hc
    · exact ⟨q4, Decidable.not_not.1 q0⟩
    · exact chkCs_zero h c hc
theorem chkCases_zero {L : List Case} (h : chkCases L = 0) : L ≠ [] ∧ ∀ c ∈ L, c.2.1 ≠ 4 ∧ c.2.2.2.2.2 = 0 := by
  cases L with
  | nil => cases h
  | cons a r =>
    refine ⟨by simp, fun c hc => ?_⟩
    obtain ⟨h1, h2⟩ := chkCs_zero h c hc
    exact ⟨h1, chk0_zero h2 h1⟩
end Go.Proofs.YtonfimidgbppeaaDoor.Ev

namespace Go.Proofs.YtonfimidgbppeaaDoor.Ev
open Go Go.RowKit
set_option linter.unusedVariables false
set_option linter.unusedSimpArgs false
variable {ι R α X : Type} {l : ι → Nat}
abbrev zCond : Condition := (⟨#[]⟩, [], [])
def condOf (M : List Condition) (n : ByteArray) : Option Condition := M.find? fun x => decide (x.1 = n)
def condAns (M : List Condition) (n : ByteArray) : Condition × Bool := match condOf M n with
  | some m => (m, true)
  | none => (zCond, false)
theorem condOf_prog (M : List Condition) (n : ByteArray) (hM : M.length ≤ 9223372036854775807) : Ultk (fun k => S26 k (M, n, ())) (condAns M n) := by
  unfold S26
  have hi : Ultk (fun k => S49 k (M, fun a2 => S50 k (a2, n, ()), ())) (idxF (fun x : Condition => decide (x.1 = n)) 0 M) := by
    unfold S49
    exact idx_loop (l := fun k : Nat => k) (fun _ => Nat.le_refl _) M (fun k a => S50 k (a, n, ())) _ (fun a _ => Ult.ret.eq (seq_eq _ _)) hM
  refine Ult.bind hi ?_
  unfold condAns condOf
  cases hf : M.find? (fun x : Condition => decide (x.1 = n)) with
  | none => exact Ult.yes (by rw [ilt_eq]; exact decide_eq_true (idxF_neg.2 hf)) Ult.ret
  | some m =>
    obtain ⟨h1, h2⟩ := idxF_at hf
    exact Ult.no (by rw [ilt_eq]; exact decide_eq_false (by omega)) (Ult.bindc h1 Ult.ret)
/-! ### the names of conditions in a value -/
def okName (M : List Condition) (c : Case) : Bool := (condOf M c.1).isSome || decide (c.1 = dflt)
def chkNames (M : List Condition) (C : List Case) : Int := if C.all (okName M) = true then 0 else 5
theorem names_loop {kk : ι → Nat} (hk : ∀ i, l i ≤ kk i) (M : List Condition) (C : List Case) (f : ι → ByteArray → Option (Condition × Bool)) (hf : ∀ n, Ult l (fun i => f i n) (condAns M n)) (hC : C.length ≤ 9223372036854775807) :
    Ult l (fun i => loopN (kk i) (fun (a2 : Int → Option Int) (a3 : Int) => cnd (ilt a3 (len C)) (bnd (at? C a3) fun a4 => bnd (f i a4.1) fun a5 => cnd (bnot a5.2) (cnd (sne a4.1 (⟨#[100, 101, 102, 97, 117, 108, 116]⟩ : ByteArray)) (some 5) (a2 (iadd .i64 a3 1))) (a2 (iadd .i64 a3 1))) (some 0)) 0) (chkNames M C) := by
  refine (Ult.forI hk C.length (fun j => chkNames M (C.drop j)) fun j hj next => ?_).eq (by rw [List.drop_zero])
  rw [iltL]
  by_cases hlt' : ¬ j < C.length
  · refine Ult.no (decide_eq_false hlt') (Ult.ret.eq ?_)
    rw [List.drop_eq_nil_of_le (by omega)]; rfl
  have hlt : j < C.length := Decidable.not_not.1 hlt'
  refine Ult.yes (decide_eq_true hlt) (Ult.bindc (at?_nat hlt) (Ult.bind (hf C[j].1).lift ?_))
  have nx := next hlt
  rw [isucc hlt hC]
  have e : chkNames M (C.drop j) = if okName M C[j] = true then chkNames M (C.drop (j + 1)) else 5 := by
    unfold chkNames
    rw [drop_cons hlt, List.all_cons]
    cases okName M C[j] <;> rfl
  rw [e]
  unfold condAns okName
  cases hc : condOf M C[j].1 with
  | some m => exact Ult.no rfl nx
  | none =>
    refine Ult.yes rfl ?_
    by_cases hd : C[j].1 = dflt
    · refine Ult.no (by rw [sne_eq]; exact decide_eq_false (fun q => q hd)) ?_
      rw [decide_eq_true hd]; exact nx
    · refine Ult.yes (by rw [sne_eq]; exact decide_eq_true hd) ?_
      rw [decide_eq_false hd]; exact Ult.ret
theorem names_prog (M : List Condition) (v : V1) (hM : M.length ≤ 9223372036854775807) (hC : v.2.2.2.2.length ≤ 9223372036854775807) : Ultk (fun k => S25 k (M, v, ())) (chkNames M v.2.2.2.2) := by
  unfold S25
  exact names_loop (l := fun k : Nat => k) (fun _ => Nat.le_refl _) M v.2.2.2.2 (fun k n => S26 k (M, n, ())) (fun n => condOf_prog M n hM) hC
/-! ### which condition is more special -/
def isM (a b : Condition) : Bool := if fitP b.2.1 a.2.1 = true then (if fitP b.2.2 a.2.2 = true then igt (iadd .i64 (len a.2.1) (len a.2.2)) (iadd .i64 (len b.2.1) (len b.2.2)) else false) else false
theorem isM_prog (a b : Condition) (a1 : PairSz a.2.1) (a2 : PairSz a.2.2) (b1 : PairSz b.2.1) (b2 : PairSz b.2.2) : Ultk (fun k => S31 k (a, b, ())) (isM a b) := by
  have := a1.len; have := a2.len; have := b1.len; have := b2.len
  unfold S31 isM
  refine Ult.bind (S52_spec b.2.1 a.2.1 (by omega) (by omega)) (Ult.ifS (dec_true _) (fun _ => ?_) fun _ => Ult.ret)
  exact Ult.bind (S52_spec b.2.2 a.2.2 (by omega) (by omega)) (Ult.ifS (dec_true _) (fun _ => Ult.ret) fun _ => Ult.ret)
/-! ### equal values -/
theorem strs_eq (A B : List ByteArray) (hA : A.length ≤ 9223372036854775807) : Ultk (fun k => S13 k (A, B, ())) (decide (A = B)) := by
  unfold S13
  by_cases hl : A.length = B.length
  · refine Ult.no (by rw [ine_eq]; exact decide_eq_false (fun q => q (by show ((A.length : Nat) : Int) = (B.length : Nat); rw [hl]))) ?_
    refine (Ult.forI (fun _ => Nat.le_refl _) A.length (fun j => decide (A.drop j = B.drop j)) fun j hj next => ?_).eq (by rw [List.drop_zero, List.drop_zero])
    dsimp only
    rw [iltL]
    by_cases hlt' : ¬ j < A.length
    · refine Ult.no (decide_eq_false hlt') (Ult.ret.eq ?_)
      rw [List.drop_eq_nil_of_le (by omega), List.drop_eq_nil_of_le (by omega)]; rfl
    have hlt : j < A.length := Decidable.not_not.1 hlt'
    have hltB : j < B.length := by omega
    refine Ult.yes (decide_eq_true hlt) (Ult.bindc (at?_nat hlt) (Ult.bindc (at?_nat hltB) ?_))
    have e : decide (A.drop j = B.drop j) = (decide (A[j] = B[j]) && decide (A.drop (j + 1) = B.drop (j + 1))) := by
      have e1 := drop_cons hlt
      have e2 := drop_cons hltB
      rw [e1, e2]
      by_cases h1 : A[j] = B[j]
      · rw [decide_eq_true h1, Bool.true_and]
        exact decide_eq_decide.2 ⟨fun q => (List.cons.inj q).2, fun q => by rw [h1, q]⟩
      · rw [decide_eq_false h1, Bool.false_and]
        exact decide_eq_false fun q => h1 (List.cons.inj q).1
    rw [e, isucc hlt hA]
    by_cases he : A[j] = B[j]
    · refine Ult.no (by rw [sne_eq]; exact decide_eq_false (fun q => q he)) ((next hlt).eq ?_)
      rw [decide_eq_true he, Bool.true_and]
    · refine Ult.yes (by rw [sne_eq]; exact decide_eq_true he) (Ult.ret.eq ?_)
      rw [decide_eq_false he, Bool.false_and]
  · refine Ult.yes (by rw [ine_eq]; exact decide_eq_true (fun q => hl (Int.ofNat.inj q))) (Ult.ret.eq ?_)
    exact (decide_eq_false (fun q => hl (by rw [q]))).symm
theorem noCases {kk : ι → Nat} (hk : ∀ i, l i ≤ kk i) (n : Nat) (hn : n = 0) {r : R} : Ult l (fun i => loopN (kk i) (fun (a2 : Int → Option R) (a3 : Int) => cnd (ilt a3 (olen n)) none (some r)) 0) r := by
  subst hn
  refine Ult.forI hk 0 (fun _ => r) fun j hj next => ?_
  obtain rfl : j = 0 := by omega
  exact Ult.no rfl Ult.ret
def eqV0 (a b : V0) : Bool := decide (a.1 = b.1 ∧ a.2.1 = b.2.1 ∧ a.2.2.1 = b.2.2.1 ∧ a.2.2.2.1 = b.2.2.2.1 ∧ a.2.2.2.2 = b.2.2.2.2)
theorem eqV0_iff {a b : V0} : eqV0 a b = true ↔ a = b := by
  obtain ⟨a1, a2, a3, a4, a5⟩ := a
  obtain ⟨b1, b2, b3, b4, b5⟩ := b
  unfold eqV0
  simp
theorem eqV0_comm (a b : V0) : eqV0 a b = eqV0 b a := by
  cases h : eqV0 a b with
  | true => rw [eqV0_iff.1 h]; exact (eqV0_iff.2 rfl).symm
  | false =>
    cases h' : eqV0 b a with
    | false => rfl
    | true => rw [eqV0_iff.1 h', eqV0_iff.2 rfl] at h; cases h
theorem eq_prog (a b : V0) (hl : a.2.2.2.1.length ≤ 9223372036854775807) (ha : a.2.2.2.2 = 0) : Ultk (fun k => S1030 k (a, b, ())) (eqV0 a b) := by
  unfold S1030 eqV0
  by_cases h1 : a.1 = b.1
  case neg => exact Ult.no (by rw [ieq_eq]; exact decide_eq_false h1) (Ult.ret.eq (decide_eq_false fun q => h1 q.1).symm)
  refine Ult.yes (by rw [ieq_eq]; exact decide_eq_true h1) ?_
  by_cases h2 : a.2.1 = b.2.1
  case neg => exact Ult.no (by rw [seq_eq]; exact decide_eq_false h2) (Ult.ret.eq (decide_eq_false fun q => h2 q.2.1).symm)
  refine Ult.yes (by rw [seq_eq]; exact decide_eq_true h2) ?_
  by_cases h3 : a.2.2.1 = b.2.2.1
  case neg => exact Ult.no (by rw [ieq_eq]; exact decide_eq_false h3) (Ult.ret.eq (decide_eq_false fun q => h3 q.2.2.1).symm)
  refine Ult.yes (by rw [ieq_eq]; exact decide_eq_true h3) (Ult.bind (strs_eq a.2.2.2.1 b.2.2.2.1 hl) ?_)
  by_cases h4 : a.2.2.2.1 = b.2.2.2.1
  case neg => exact Ult.no (decide_eq_false h4) (Ult.ret.eq (decide_eq_false fun q => h4 q.2.2.2.1).symm)
  refine Ult.yes (decide_eq_true h4) (Ult.bind (a := decide (a.2.2.2.2 = b.2.2.2.2)) ?_ (Ult.ret.eq ?_))
  · unfold S1053
    by_cases h5 : a.2.2.2.2 = b.2.2.2.2
    · refine Ult.no (c := ine (olen a.2.2.2.2) (olen b.2.2.2.2)) (by rw [ine_eq]; exact decide_eq_false (fun q => q (by show olen a.2.2.2.2 = olen b.2.2.2.2; rw [h5]))) ?_
      rw [decide_eq_true h5]
      exact noCases (l := fun k : Nat => k) (fun _ => Nat.le_refl _) a.2.2.2.2 ha
    · refine Ult.yes (c := ine (olen a.2.2.2.2) (olen b.2.2.2.2)) (by rw [ine_eq]; exact decide_eq_true (fun q => h5 (Int.ofNat.inj q))) (Ult.ret.eq (decide_eq_false h5).symm)
  · exact decide_eq_decide.2 ⟨fun q => ⟨h1, h2, h3, h4, q⟩, fun q => q.2.2.2.2⟩
theorem eq_ref (a b : V0) (hl : a.2.2.2.1.length ≤ 9223372036854775807) (ha : a.2.2.2.2 = 0) : Ultk (fun k => S1007 k (a, b, ())) (eqV0 a b) := by
  unfold S1007 eqV0
  refine Ult.jn ?_
  by_cases h1 : a.1 = b.1
  case neg => exact Ult.yes (by rw [ine_eq]; exact decide_eq_true h1) (Ult.yes rfl (Ult.ret.eq (decide_eq_false fun q => h1 q.1).symm))
  refine Ult.no (by rw [ine_eq]; exact decide_eq_false (fun q => q h1)) ?_
  by_cases h2 : a.2.1 = b.2.1
  case neg => exact Ult.yes (by rw [sne_eq]; exact decide_eq_true h2) (Ult.yes rfl (Ult.ret.eq (decide_eq_false fun q => h2 q.2.1).symm))
  refine Ult.no (by rw [sne_eq]; exact decide_eq_false (fun q => q h2)) ?_
  by_cases h3 : a.2.2.1 = b.2.2.1
  case neg => exact Ult.yes (by rw [ine_eq]; exact decide_eq_true h3) (Ult.yes rfl (Ult.ret.eq (decide_eq_false fun q => h3 q.2.2.1).symm))
  refine Ult.no (by rw [ine_eq]; exact decide_eq_false (fun q => q h3)) (Ult.bind (strs_eq a.2.2.2.1 b.2.2.2.1 hl) ?_)
  by_cases h4 : a.2.2.2.1 = b.2.2.2.1
  case neg => exact Ult.yes (by rw [decide_eq_false h4]; rfl) (Ult.yes rfl (Ult.ret.eq (decide_eq_false fun q => h4 q.2.2.2.1).symm))
  refine Ult.no (by rw [decide_eq_true h4]; rfl) ?_
  by_cases h5 : a.2.2.2.2 = b.2.2.2.2
  · refine Ult.no (c := ine (olen a.2.2.2.2) (olen b.2.2.2.2)) (by rw [ine_eq]; exact decide_eq_false (fun q => q (by show olen a.2.2.2.2 = olen b.2.2.2.2; rw [h5]))) ?_
    rw [decide_eq_true ⟨h1, h2, h3, h4, h5⟩]
    exact noCases (l := fun k : Nat => k) (fun _ => Nat.le_refl _) a.2.2.2.2 ha
  · refine Ult.yes (c := ine (olen a.2.2.2.2) (olen b.2.2.2.2)) (by rw [ine_eq]; exact decide_eq_true (fun q => h5 (Int.ofNat.inj q))) (Ult.ret.eq (decide_eq_false fun q => h5 q.2.2.2.2).symm)
/-! ### copies -/
def upv (v : V0) : V1 := (v.1, v.2.1, v.2.2.1, v.2.2.2.1, [])
theorem own_spec (v : V0) (hs : StrsSz v.2.2.2.1) (h0 : v.2.2.2.2 = 0) : Ultk (fun k => S1024 k (v, ())) (upv v) := by
  have hr : Ultk (fun k => R1024 k (v, ())) v := by
    obtain ⟨a, b, c, d, n⟩ := v
    have h0 : n = 0 := h0
    subst h0
    unfold R1024
    refine Ult.bind (S47_spec d (by have h16 : d.length * 16 ≤ 140737488351232 := hs.1; omega)) (Ult.bindc (a := (0 : Nat)) rfl ?_)
    exact noCases (l := fun k : Nat => k) (fun _ => Nat.le_refl _) 0 rfl
  obtain ⟨K, hK⟩ := hr
  refine ⟨K, fun i hi => ?_⟩
  show upF (R1024 i (v, ())) = _
  have := hK i hi
  rw [show R1024 i (v, ()) = some v from this]
  show upV v = some (upv v)
  unfold upV
  rw [show (v.2.2.2.2 : Nat) = 0 from h0]
  rfl
theorem same_self (v : V1) (h : V1Sz v) (h0 : ∀ c ∈ v.2.2.2.2, c.2.2.2.2.2 = 0) : Ultk (fun k => S7 k (v, v, ())) true := by
  obtain ⟨a, b, c, d, L⟩ := v
  unfold S7
  have hlen : L.length ≤ 9223372036854775807 := cases_len h.2.2
  have hd : d.length ≤ 9223372036854775807 := by have : d.length * 16 ≤ 140737488351232 := h.2.1.1; omega
  refine Ult.jn ?_
  refine Ult.no (by rw [ine_eq]; simp) (Ult.no (by rw [sne_eq]; simp) (Ult.no (by rw [ine_eq]; simp) (Ult.bind (S13_self d hd) (Ult.no rfl (Ult.no (by rw [ine_eq]; simp) ?_)))))
  refine Ult.forI (fun _ => Nat.le_refl _) L.length (fun _ => true) fun j hj next => ?_
  dsimp only
  rw [iltL]
  by_cases hlt' : ¬ j < L.length
  · exact Ult.no (decide_eq_false hlt') Ult.ret
  have hlt : j < L.length := Decidable.not_not.1 hlt'
  obtain ⟨s1, s2⟩ := h.2.2.2 _ (List.getElem_mem hlt)
  refine Ult.yes (decide_eq_true hlt) (Ult.bindc (at?_nat hlt) (Ult.bindc (at?_nat hlt) (Ult.no (by rw [sne_eq]; simp) (Ult.bindc (at?_nat hlt) (Ult.bindc (at?_nat hlt) ?_)))))
  have he := eq_ref L[j].2 L[j].2 (by have := s2.2.1; omega) (h0 _ (List.getElem_mem hlt))
  rw [eqV0_iff.2 rfl] at he
  refine Ult.bind (Ult.call (f := fun k => S1007 k (L[j].2, L[j].2, ())) (lp_le _ _ fun _ => Nat.le_refl _) he) (Ult.no rfl ?_)
  rw [isucc hlt hlen]
  exact next hlt
end Go.Proofs.YtonfimidgbppeaaDoor.Ev

namespace Go.Proofs.YtonfimidgbppeaaDoor.Ev
open Go Go.RowKit
set_option linter.unusedVariables false
set_option linter.unusedSimpArgs false
variable {ι R α X : Type} {l : ι → Nat}
abbrev zV0 : V0 := (0, ⟨#[]⟩, 0, [], 0)
abbrev zV1 : V1 := (0, ⟨#[]⟩, 0, [], [])
/-! ### facts of right conditions -/
theorem chkConds_all {L : List Setting} : ∀ {M : List Condition} {prev : Option ByteArray}, chkConds L prev M = 0 → ∀ m ∈ M, isCond m.1 = true ∧ chkSet L false none m.2.1 = 0
  | [], _, _, m, hm => by cases hm
  | a :: M, prev, h, m, hm => by
    rw [chkConds] at h
    split at h
    · cases h
    rename_i h1
    split at h
    · cases h
    split at h
    · cases h
    split at h
    · rename_i q; exact absurd h q
    rename_i h2
    split at h
    · rename_i q; exact absurd h q
    split at h
    · cases h
    rcases List.mem_cons.1 hm with rfl | hm
    · exact ⟨by simpa using h1, Decidable.not_not.1 h2⟩
    · exact chkConds_all h m hm
structure CondsOk (L : List Setting) (M : List Condition) : Prop where
  set : chkSettings L = 0
  each : ∀ m ∈ M, m.1 ≠ dflt ∧ chkSet L false none m.2.1 = 0
theorem CondsOk.of {L : List Setting} {M : List Condition} (h : chkConditions L M = 0) : CondsOk L M := by
  unfold chkConditions at h
  split at h
  · rename_i q; exact absurd h q
  rename_i h1
  split at h
  · cases h
  refine ⟨Decidable.not_not.1 h1, fun m hm => ?_⟩
  obtain ⟨q1, q2⟩ := chkConds_all h m hm
  refine ⟨?_, q2⟩
  unfold isCond at q1
  simp only [Bool.and_eq_true, decide_eq_true_eq] at q1
  exact q1.2.2
theorem CondsOk.vals {L : List Setting} {M : List Condition} (h : CondsOk L M) {C : List Pair} {m : Condition} (hm : m ∈ M) : ∀ n ∈ m.2.1, ∃ v, valOf L C n.1 = some v := fun n hn => by
  obtain ⟨s, hs, _⟩ := (chkSet_ok (h.each m hm).2).1 n hn
  exact valOf_some h.set hs
theorem condOf_mem {M : List Condition} {n : ByteArray} {m : Condition} (h : condOf M n = some m) : m ∈ M ∧ m.1 = n := by
  unfold condOf at h
  exact ⟨List.mem_of_find?_eq_some h, by simpa using List.find?_some h⟩
/-! ### what holds -/
def holdC (x : CWorld) (C : List Pair) (p : Platform) (c : Case) : Option Condition := match condOf x.2.1 c.1 with
  | some m => if holdsB x.1 m C p = true then some m else none
  | none => none
def held (x : CWorld) (C : List Pair) (p : Platform) (L : List Case) : List (Case × Condition) := L.filterMap fun c => (holdC x C p c).map fun m => (c, m)
def bestL (i : Nat) (a : Condition) : Nat → List Condition → Bool
  | _, [] => true
  | k, b :: r => (decide (k = i) || isM a b) && bestL i a (k + 1) r
def CondsSz (W : List Condition) : Prop := W.length ≤ 1000 ∧ ∀ m ∈ W, PairSz m.2.1 ∧ PairSz m.2.2
theorem best_prog {kk : ι → Nat} (hk : ∀ i, l i ≤ kk i) (W : List Condition) (n : Int) (hn : n = len W) (i : Nat) (hi : i < W.length) (f : ι → Condition → Condition → Option Bool) (hf : ∀ a ∈ W, ∀ b ∈ W, Ult l (fun j => f j a b) (isM a b)) (hW : W.length ≤ 1000) {r1 r2 : R} {y z : ι → Option R} (hy : Ult l y r1) (hz : Ult l z r2) :
    Ult l (fun q => loopN (kk q) (fun (a8 : Bool × Int → Option R) (a9 : Bool × Int) => cnd (ilt a9.2 n) (cnd a9.1 (cnd (ieq a9.2 (i : Int)) (a8 (true, iadd .i64 a9.2 1)) (bnd (at? W (i : Int)) fun a10 => bnd (at? W a9.2) fun a11 => bnd (f q a10 a11) fun a12 => a8 (a12, iadd .i64 a9.2 1))) (a8 (false, iadd .i64 a9.2 1))) (cnd a9.1 (y q) (z q))) (true, 0)) (if bestL i W[i] 0 W = true then r1 else r2) := by
  subst hn
  refine (Ult.forA (A := Bool) hk W.length (fun a j => (a, (j : Int))) (fun _ _ => True) (fun a j => if (a && bestL i W[i] j (W.drop j)) = true then r1 else r2) true trivial fun a j hj _ next => ?_).eq (by rw [List.drop_zero, Bool.true_and])
  dsimp only
  rw [iltL]
  by_cases hlt' : ¬ j < W.length
  · refine Ult.no (decide_eq_false hlt') ?_
    rw [List.drop_eq_nil_of_le (by omega)]
    cases a with
    | true => exact Ult.yes rfl (hy.lift.eq rfl)
    | false => exact Ult.no rfl (hz.lift.eq rfl)
  have hlt : j < W.length := Decidable.not_not.1 hlt'
  refine Ult.yes (decide_eq_true hlt) ?_
  rw [drop_cons hlt, bestL, isucc hlt (by omega)]
  cases a with
  | false => exact Ult.no rfl ((next false hlt trivial).eq rfl)
  | true =>
    refine Ult.yes rfl ?_
    rw [Bool.true_and]
    by_cases hji : j = i
    · refine Ult.yes (by rw [ieq_eq]; exact decide_eq_true (by omega)) ((next true hlt trivial).eq ?_)
      rw [decide_eq_true hji, Bool.true_or, Bool.true_and]
    · refine Ult.no (by rw [ieq_eq]; exact decide_eq_false (by omega)) (Ult.bindc (at?_nat hi) (Ult.bindc (at?_nat hlt) (Ult.bind (hf _ (List.getElem_mem hi) _ (List.getElem_mem hlt)).lift ((next _ hlt trivial).eq ?_))))
      rw [decide_eq_false hji, Bool.false_or]
theorem best_ref {kk : ι → Nat} (hk : ∀ i, l i ≤ kk i) (W : List Condition) (i : Nat) (hi : i < W.length) (f : ι → Condition → Condition → Option Bool) (hf : ∀ a ∈ W, ∀ b ∈ W, Ult l (fun j => f j a b) (isM a b)) (hW : W.length ≤ 1000) {r1 r2 : R} {y z : ι → Option R} (hy : Ult l y r1) (hz : Ult l z r2) :
    Ult l (fun q => loopN (kk q) (fun (a9 : Bool × Int → Option R) (a10 : Bool × Int) => cnd (ilt a10.2 (len W)) (bnd (at? W a10.2) fun a11 => cnd a10.1 (cnd (ieq (i : Int) a10.2) (a9 (true, iadd .i64 a10.2 1)) (bnd (at? W (i : Int)) fun a12 => bnd (f q a12 a11) fun a13 => a9 (a13, iadd .i64 a10.2 1))) (a9 (false, iadd .i64 a10.2 1))) (cnd a10.1 (y q) (z q))) (true, 0)) (if bestL i W[i] 0 W = true then r1 else r2) := by
  refine (Ult.forA (A := Bool) hk W.length (fun a j => (a, (j : Int))) (fun _ _ => True) (fun a j => if (a && bestL i W[i] j (W.drop j)) = true then r1 else r2) true trivial fun a j hj _ next => ?_).eq (by rw [List.drop_zero, Bool.true_and])
  dsimp only
  rw [iltL]
  by_cases hlt' : ¬ j < W.length
  · refine Ult.no (decide_eq_false hlt') ?_
    rw [List.drop_eq_nil_of_le (by omega)]
    cases a with
    | true => exact Ult.yes rfl (hy.lift.eq rfl)
    | false => exact Ult.no rfl (hz.lift.eq rfl)
  have hlt : j < W.length := Decidable.not_not.1 hlt'
  refine Ult.yes (decide_eq_true hlt) (Ult.bindc (at?_nat hlt) ?_)
  rw [drop_cons hlt, bestL, isucc hlt (by omega)]
  cases a with
  | false => exact Ult.no rfl ((next false hlt trivial).eq rfl)
  | true =>
    refine Ult.yes rfl ?_
    rw [Bool.true_and]
    by_cases hji : j = i
    · refine Ult.yes (by rw [ieq_eq]; exact decide_eq_true (by omega)) ((next true hlt trivial).eq ?_)
      rw [decide_eq_true hji, Bool.true_or, Bool.true_and]
    · refine Ult.no (by rw [ieq_eq]; exact decide_eq_false (by omega)) (Ult.bindc (at?_nat hi) (Ult.bind (hf _ (List.getElem_mem hi) _ (List.getElem_mem hlt)).lift ((next _ hlt trivial).eq ?_)))
      rw [decide_eq_false hji, Bool.false_or]
end Go.Proofs.YtonfimidgbppeaaDoor.Ev

namespace Go.Proofs.YtonfimidgbppeaaDoor.Ev
open Go Go.RowKit
set_option linter.unusedVariables false
set_option linter.unusedSimpArgs false
variable {ι R α X : Type} {l : ι → Nat}
def pickA (W : List Condition) (v0 : V0) : Bool → Nat → List (Case × Condition) → V0 × Int
  | same, _, [] => if same = true then (v0, 0) else (zV0, 12)
  | same, j, s :: r => if bestL j s.2 0 W = true then (s.1.2, 0) else pickA W v0 (same && eqV0 v0 s.1.2) (j + 1) r
def upA (a : V0 × Int) : V1 × Int := (upv a.1, a.2)
theorem atF {S : List (Case × Condition)} {j : Nat} (h : j < S.length) : at? (S.map (·.1)) (j : Int) = some S[j].1 := by
  rw [at?_nat (by simpa using h)]; simp
theorem second_prog {kk : ι → Nat} (hk : ∀ i, l i ≤ kk i) (S : List (Case × Condition)) (hS : 0 < S.length) (h50 : S.length ≤ 50) (eqf : ι → V0 → V0 → Option Bool) (own : ι → V0 → Option V1) (more : ι → Condition → Condition → Option Bool)
    (heq : ∀ s ∈ S, ∀ t ∈ S, Ult l (fun q => eqf q s.1.2 t.1.2) (eqV0 s.1.2 t.1.2)) (hown : ∀ s ∈ S, Ult l (fun q => own q s.1.2) (upv s.1.2)) (hmore : ∀ a ∈ S.map (·.2), ∀ b ∈ S.map (·.2), Ult l (fun q => more q a b) (isM a b)) (jk : V1) :
    Ult l (fun q => loopN (kk q) (fun (a5 : Bool × Int × V1 → Option (V1 × Int)) (a6 : Bool × Int × V1) => cnd (ilt a6.2.1 (len (S.map (·.1)))) (jn (fun (a7 : Bool → Option (V1 × Int)) => cnd a6.1 (bnd (at? (S.map (·.1)) 0) fun a8 => bnd (at? (S.map (·.1)) a6.2.1) fun a9 => bnd (eqf q a8.2 a9.2) fun a10 => a7 a10) (a7 false)) (fun (a7 : Bool) =>
      loopN (kk q) (fun (a8 : Bool × Int → Option (V1 × Int)) (a9 : Bool × Int) => cnd (ilt a9.2 (len (S.map (·.1)))) (cnd a9.1 (cnd (ieq a9.2 a6.2.1) (a8 (true, iadd .i64 a9.2 1)) (bnd (at? (S.map (·.2)) a6.2.1) fun a10 => bnd (at? (S.map (·.2)) a9.2) fun a11 => bnd (more q a10 a11) fun a12 => a8 (a12, iadd .i64 a9.2 1))) (a8 (false, iadd .i64 a9.2 1))) (cnd a9.1 (bnd (at? (S.map (·.1)) a6.2.1) fun a10 => bnd (own q a10.2) fun a11 => some (a11, 0)) (a5 (a7, iadd .i64 a6.2.1 1, a6.2.2)))) (true, 0)))
      (cnd a6.1 (bnd (at? (S.map (·.1)) 0) fun a7 => bnd (own q a7.2) fun a8 => some (a8, 0)) (some (zV1, 12)))) (true, 0, jk)) (upA (pickA (S.map (·.2)) S[0].1.2 true 0 S)) := by
  have hlW : (S.map (·.2)).length = S.length := by simp
  have h0 : at? (S.map (·.1)) 0 = some S[0].1 := atF (j := 0) hS
  refine (Ult.forA (A := Bool) hk S.length (fun a j => (a, (j : Int), jk)) (fun _ _ => True) (fun a j => upA (pickA (S.map (·.2)) S[0].1.2 a j (S.drop j))) true trivial fun a j hj _ next => ?_).eq (by rw [List.drop_zero])
  dsimp only
  have hlT : len (S.map (·.1)) = len S := by unfold len; rw [List.length_map]
  by_cases hlt' : ¬ j < S.length
  · refine Ult.no (by rw [hlT, iltL]; exact decide_eq_false hlt') ?_
    rw [List.drop_eq_nil_of_le (by omega), pickA]
    cases a with
    | true => exact Ult.yes rfl (Ult.bindc h0 (Ult.bind (hown _ (List.getElem_mem hS)).lift Ult.ret))
    | false => exact Ult.no rfl Ult.ret
  have hlt : j < S.length := Decidable.not_not.1 hlt'
  refine Ult.yes (by rw [hlT, iltL]; exact decide_eq_true hlt) (Ult.jn ?_)
  have hjW : j < (S.map (·.2)).length := by rw [hlW]; exact hlt
  have hWj : (S.map (·.2))[j] = S[j].2 := by simp
  rw [drop_cons hlt, pickA, isucc hlt (by omega)]
  have inner : ∀ z : ι × Nat → Option (V1 × Int), Ult (lp l) z (upA (pickA (S.map (·.2)) S[0].1.2 (a && eqV0 S[0].1.2 S[j].1.2) (j + 1) (S.drop (j + 1)))) → Ult (lp l) (fun p => loopN (kk p.1) (fun (a8 : Bool × Int → Option (V1 × Int)) (a9 : Bool × Int) => cnd (ilt a9.2 (len (S.map (·.1)))) (cnd a9.1 (cnd (ieq a9.2 (j : Int)) (a8 (true, iadd .i64 a9.2 1)) (bnd (at? (S.map (·.2)) (j : Int)) fun a10 => bnd (at? (S.map (·.2)) a9.2) fun a11 => bnd (more p.1 a10 a11) fun a12 => a8 (a12, iadd .i64 a9.2 1))) (a8 (false, iadd .i64 a9.2 1))) (cnd a9.1 (bnd (at? (S.map (·.1)) (j : Int)) fun a10 => bnd (own p.1 a10.2) fun a11 => some (a11, 0)) (z p))) (true, 0)) (upA (if bestL j S[j].2 0 (S.map (·.2)) = true then (S[j].1.2, 0) else pickA (S.map (·.2)) S[0].1.2 (a && eqV0 S[0].1.2 S[j].1.2) (j + 1) (S.drop (j + 1)))) := fun z nx => by
    have hy : Ult (lp l) (fun p => bnd (at? (S.map (·.1)) (j : Int)) fun a10 => bnd (own p.1 a10.2) fun a11 => some (a11, (0 : Int))) (upv S[j].1.2, (0 : Int)) := Ult.bindc (atF hlt) (Ult.bind (hown _ (List.getElem_mem hlt)).lift Ult.ret)
    have hi := best_prog (l := lp l) (kk := fun p => kk p.1) (lp_le l kk hk) (S.map (·.2)) (len (S.map (·.1))) (by unfold len; simp) j hjW (fun p a b => more p.1 a b) (fun x hx y hy => (hmore x hx y hy).lift) (by rw [hlW]; omega) hy nx
    refine hi.eq ?_
    rw [hWj]
    cases bestL j S[j].2 0 (S.map (·.2)) <;> rfl
  cases a with
  | false => exact Ult.no rfl (inner _ ((next false hlt trivial).eq rfl))
  | true =>
    refine Ult.yes rfl (Ult.bindc h0 (Ult.bindc (atF hlt) (Ult.bind (heq _ (List.getElem_mem hS) _ (List.getElem_mem hlt)).lift ?_)))
    exact inner _ ((next _ hlt trivial).eq rfl)
theorem second_ref {kk : ι → Nat} (hk : ∀ i, l i ≤ kk i) (S : List (Case × Condition)) (hS : 0 < S.length) (h50 : S.length ≤ 50) (eqf : ι → V0 → V0 → Option Bool) (more : ι → Condition → Condition → Option Bool)
    (heq : ∀ s ∈ S, ∀ t ∈ S, Ult l (fun q => eqf q s.1.2 t.1.2) (eqV0 s.1.2 t.1.2)) (hmore : ∀ a ∈ S.map (·.2), ∀ b ∈ S.map (·.2), Ult l (fun q => more q a b) (isM a b)) (jk : V0) :
    Ult l (fun q => loopN (kk q) (fun (a5 : Bool × Int × V0 → Option (V0 × Int)) (a6 : Bool × Int × V0) => cnd (ilt a6.2.1 (len (S.map (·.1)))) (bnd (at? (S.map (·.1)) a6.2.1) fun a7 => jn (fun (a8 : Bool → Option (V0 × Int)) => cnd a6.1 (bnd (at? (S.map (·.1)) 0) fun a9 => bnd (eqf q a7.2 a9.2) fun a10 => a8 a10) (a8 false)) (fun (a8 : Bool) =>
      loopN (kk q) (fun (a9 : Bool × Int → Option (V0 × Int)) (a10 : Bool × Int) => cnd (ilt a10.2 (len (S.map (·.2)))) (bnd (at? (S.map (·.2)) a10.2) fun a11 => cnd a10.1 (cnd (ieq a6.2.1 a10.2) (a9 (true, iadd .i64 a10.2 1)) (bnd (at? (S.map (·.2)) a6.2.1) fun a12 => bnd (more q a12 a11) fun a13 => a9 (a13, iadd .i64 a10.2 1))) (a9 (false, iadd .i64 a10.2 1))) (cnd a10.1 (some (a7.2, 0)) (a5 (a8, iadd .i64 a6.2.1 1, a6.2.2)))) (true, 0)))
      (cnd a6.1 (bnd (at? (S.map (·.1)) 0) fun a7 => some (a7.2, 0)) (some (zV0, 12)))) (true, 0, jk)) (pickA (S.map (·.2)) S[0].1.2 true 0 S) := by
  have hlW : (S.map (·.2)).length = S.length := by simp
  have h0 : at? (S.map (·.1)) 0 = some S[0].1 := atF (j := 0) hS
  refine (Ult.forA (A := Bool) hk S.length (fun a j => (a, (j : Int), jk)) (fun _ _ => True) (fun a j => pickA (S.map (·.2)) S[0].1.2 a j (S.drop j)) true trivial fun a j hj _ next => ?_).eq (by rw [List.drop_zero])
  dsimp only
  have hlT : len (S.map (·.1)) = len S := by unfold len; rw [List.length_map]
  by_cases hlt' : ¬ j < S.length
  · refine Ult.no (by rw [hlT, iltL]; exact decide_eq_false hlt') ?_
    rw [List.drop_eq_nil_of_le (by omega), pickA]
    cases a with
    | true => exact Ult.yes rfl (Ult.bindc h0 Ult.ret)
    | false => exact Ult.no rfl Ult.ret
  have hlt : j < S.length := Decidable.not_not.1 hlt'
  refine Ult.yes (by rw [hlT, iltL]; exact decide_eq_true hlt) (Ult.bindc (atF hlt) (Ult.jn ?_))
  have hjW : j < (S.map (·.2)).length := by rw [hlW]; exact hlt
  have hWj : (S.map (·.2))[j] = S[j].2 := by simp
  rw [drop_cons hlt, pickA, isucc hlt (by omega)]
  have inner : ∀ z : ι × Nat → Option (V0 × Int), Ult (lp l) z (pickA (S.map (·.2)) S[0].1.2 (a && eqV0 S[0].1.2 S[j].1.2) (j + 1) (S.drop (j + 1))) → Ult (lp l) (fun p => loopN (kk p.1) (fun (a9 : Bool × Int → Option (V0 × Int)) (a10 : Bool × Int) => cnd (ilt a10.2 (len (S.map (·.2)))) (bnd (at? (S.map (·.2)) a10.2) fun a11 => cnd a10.1 (cnd (ieq (j : Int) a10.2) (a9 (true, iadd .i64 a10.2 1)) (bnd (at? (S.map (·.2)) (j : Int)) fun a12 => bnd (more p.1 a12 a11) fun a13 => a9 (a13, iadd .i64 a10.2 1))) (a9 (false, iadd .i64 a10.2 1))) (cnd a10.1 (some (S[j].1.2, 0)) (z p))) (true, 0)) (if bestL j S[j].2 0 (S.map (·.2)) = true then (S[j].1.2, 0) else pickA (S.map (·.2)) S[0].1.2 (a && eqV0 S[0].1.2 S[j].1.2) (j + 1) (S.drop (j + 1))) := fun z nx => by
    have hi := best_ref (l := lp l) (kk := fun p => kk p.1) (lp_le l kk hk) (S.map (·.2)) j hjW (fun p a b => more p.1 a b) (fun x hx y hy => (hmore x hx y hy).lift) (by rw [hlW]; omega) (r1 := (S[j].1.2, (0 : Int))) (y := fun p => some (S[j].1.2, (0 : Int))) Ult.ret nx
    rw [hWj] at hi
    exact hi
  cases a with
  | false => exact Ult.no rfl (inner _ ((next false hlt trivial).eq rfl))
  | true =>
    have he := heq _ (List.getElem_mem hlt) _ (List.getElem_mem hS)
    rw [eqV0_comm] at he
    refine Ult.yes rfl (Ult.bindc h0 (Ult.bind he.lift ?_))
    exact inner _ ((next _ hlt trivial).eq rfl)
end Go.Proofs.YtonfimidgbppeaaDoor.Ev

namespace Go.Proofs.YtonfimidgbppeaaDoor.Ev
open Go Go.RowKit
set_option linter.unusedVariables false
set_option linter.unusedSimpArgs false
variable {ι R α X : Type} {l : ι → Nat}
/-! ### names of cases are told apart -/
theorem chkCs_apart {k0 : Int} : ∀ {r pre : List Case}, chkCs k0 pre r = 0 → (∀ c ∈ r, ∀ d ∈ pre, d.1 ≠ c.1) ∧ r.Pairwise fun a b => a.1 ≠ b.1
  | [], _, _ => ⟨fun c hc => (by cases hc), List.Pairwise.nil⟩
  | a :: r, pre, h => by
    rw [chkCs] at h
    split at h
    · rename_i q; exact absurd h q
    split at h
    · cases h
    rename_i q7
    split at h
    · cases h
    split at h
    · rename_i q; exact absurd h q
    split at h
    · cases h
    obtain ⟨h1, h2⟩ := chkCs_apart h
    refine ⟨fun c hc d hd => ?_, List.Pairwise.cons (fun c hc => h1 c hc a (by simp)) h2⟩
    rcases List.mem_cons.1 hc with rfl | hc
    · intro e
      exact q7 (List.any_eq_true.2 ⟨d, hd, decide_eq_true e⟩)
    · exact h1 c hc d (by simp [hd])
theorem chkCases_apart {L : List Case} (h : chkCases L = 0) : L.Pairwise fun a b => a.1 ≠ b.1 := by
  cases L with
  | nil => cases h
  | cons a r => exact (chkCs_apart h).2
theorem find_rev {n : ByteArray} : ∀ {L : List Case}, L.Pairwise (fun a b => a.1 ≠ b.1) → L.reverse.find? (fun c => decide (c.1 = n)) = L.find? fun c => decide (c.1 = n)
  | [], _ => rfl
  | a :: L, h => by
    obtain ⟨h1, h2⟩ := List.pairwise_cons.1 h
    rw [List.reverse_cons, List.find?_append, find_rev h2]
    by_cases e : a.1 = n
    · have : L.find? (fun c => decide (c.1 = n)) = none := List.find?_eq_none.2 fun c hc q => h1 c hc (by rw [e]; exact (of_decide_eq_true q).symm)
      rw [this, List.find?_cons, decide_eq_true e]; simp [e]
    · rw [List.find?_cons, decide_eq_false e]; simp [e]
def lastN (M : List Condition) (L : List Case) : Option Case := L.reverse.find? fun c => (condOf M c.1).isNone
theorem last_dflt {L : List Setting} {M : List Condition} {C : List Case} (hM : CondsOk L M) (hn : chkNames M C = 0) (hp : C.Pairwise fun a b => a.1 ≠ b.1) : lastN M C = C.find? fun c => decide (c.1 = dflt) := by
  rw [← find_rev hp]
  unfold lastN
  have hall : ∀ c ∈ C, okName M c = true := by
    unfold chkNames at hn
    split at hn
    · rename_i q; exact List.all_eq_true.1 q
    · cases hn
  have he : ∀ c ∈ C, (condOf M c.1).isNone = decide (c.1 = dflt) := fun c hc => by
    have h1 := hall c hc
    unfold okName at h1
    cases hco : condOf M c.1 with
    | none => rw [hco] at h1; simpa using h1.symm
    | some m =>
      obtain ⟨q1, q2⟩ := condOf_mem hco
      have := (hM.each m q1).1
      rw [q2] at this
      simp [this]
  have gen : ∀ D : List Case, (∀ c ∈ D, c ∈ C) → D.find? (fun c => (condOf M c.1).isNone) = D.find? fun c => decide (c.1 = dflt) := by
    intro D
    induction D with
    | nil => intro _; rfl
    | cons a D ih =>
      intro hD
      rw [List.find?_cons, List.find?_cons, he a (hD a (by simp)), ih fun c hc => hD c (by simp [hc])]
  exact gen _ fun c hc => List.mem_reverse.1 hc
/-! ### the answer -/
def firstA (x : CWorld) (C : List Pair) (p : Platform) (L : List Case) : V0 × Int := match held x C p L with
  | [] => match L.find? fun c => decide (c.1 = dflt) with
    | none => (zV0, 9)
    | some c => (c.2, 0)
  | s :: r => pickA ((s :: r).map (·.2)) s.1.2 true 0 (s :: r)
def v0of (v : V1) : V0 := (v.1, v.2.1, v.2.2.1, v.2.2.2.1, 0)
def chosenA (x : CWorld) (v : V1) (C : List Pair) (p : Platform) : V0 × Int := if v.1 ≠ 4 then (v0of v, 0) else if chkNames x.2.1 v.2.2.2.2 ≠ 0 then (zV0, chkNames x.2.1 v.2.2.2.2) else firstA x C p v.2.2.2.2
theorem held_step (x : CWorld) (C : List Pair) (p : Platform) {L : List Case} {j : Nat} (h : j < L.length) : held x C p (L.take (j + 1)) = held x C p (L.take j) ++ (match holdC x C p L[j] with
    | some m => [(L[j], m)]
    | none => []) := by
  unfold held
  rw [List.take_succ_eq_append_getElem h, List.filterMap_append]
  congr 1
  cases hc : holdC x C p L[j] <;> simp [hc]
theorem held_mem {x : CWorld} {C : List Pair} {p : Platform} {L : List Case} {s : Case × Condition} (h : s ∈ held x C p L) : s.1 ∈ L ∧ s.2 ∈ x.2.1 := by
  unfold held at h
  obtain ⟨c, hc, e⟩ := List.mem_filterMap.1 h
  unfold holdC at e
  cases hco : condOf x.2.1 c.1 with
  | none => rw [hco] at e; cases e
  | some m =>
    rw [hco] at e
    dsimp only at e
    split at e
    · cases e
      exact ⟨hc, (condOf_mem hco).1⟩
    · cases e
theorem held_len (x : CWorld) (C : List Pair) (p : Platform) (L : List Case) : (held x C p L).length ≤ L.length := List.length_filterMap_le _ _
structure ChIn (x : CWorld) (v : V1) (C : List Pair) (p : Platform) : Prop where
  wx : WorldSz x
  wv : V1Sz v
  wc : PairSz C
  wp : PairSz p.2
  conds : CondsOk x.1 x.2.1
  val : chk1 v = 0
theorem chosen_prog (x : CWorld) (v : V1) (C : List Pair) (p : Platform) (h : ChIn x v C p) : Ultk (fun k => S11 k (x, v, C, p, ())) (upA (chosenA x v C p)) := by
  obtain ⟨z1, z2, z3⟩ := chk1_zero h.val
  have hM : x.2.1.length ≤ 9223372036854775807 := by have := len_big h.wx.2.1.1 (by omega); omega
  have hC := h.wc.len
  have hLs : x.1.length ≤ 9223372036854775807 := by have := len_big h.wx.1.1 (by omega); omega
  unfold S11 chosenA
  by_cases hk : v.1 = 4
  case neg =>
    refine Ult.yes (by rw [ine_eq]; exact decide_eq_true hk) ?_
    rw [if_pos hk]
    have h0 : (lenN v.2.2.2.2 : Nat) = 0 := by rw [z1 hk]; rfl
    refine Ult.bind (own_spec (v.1, v.2.1, v.2.2.1, v.2.2.2.1, lenN v.2.2.2.2) h.wv.2.1 h0) (Ult.ret.eq ?_)
    rfl
  refine Ult.no (by rw [ine_eq]; exact decide_eq_false (fun q => q hk)) ?_
  rw [if_neg (fun q => q hk)]
  have hcs := z2 hk
  obtain ⟨y1, y2⟩ := chkCases_zero hcs
  refine Ult.bind (names_prog x.2.1 v hM (by omega)) ?_
  by_cases hn : chkNames x.2.1 v.2.2.2.2 = 0
  case neg =>
    refine Ult.yes (by rw [ine_eq]; exact decide_eq_true hn) ?_
    rw [if_pos hn]; exact Ult.ret
  refine Ult.no (by rw [ine_eq]; exact decide_eq_false (fun q => q hn)) ?_
  rw [if_neg (fun q => q hn)]
  obtain ⟨kd, tx, nm, ls, L⟩ := v
  have z3 : L.length ≤ 50 := z3
  have y2 : ∀ c ∈ L, c.2.1 ≠ 4 ∧ c.2.2.2.2.2 = 0 := y2
  have hsz : CasesSz L := h.wv.2.2
  refine Ult.forA (A := List Case × List Condition) (fun _ => Nat.le_refl _) L.length (fun a j => (a.1, a.2, (j : Int))) (fun a j => a = ((held x C p (L.take j)).map (·.1), (held x C p (L.take j)).map (·.2))) (fun _ _ => upA (firstA x C p L)) ([], []) (by rw [List.take_zero]; rfl) fun a j hj ha next => ?_
  dsimp only
  rw [iltL]
  by_cases hlt' : ¬ j < L.length
  · refine Ult.no (decide_eq_false hlt') ?_
    rw [List.take_of_length_le (by omega)] at ha
    subst ha
    unfold firstA
    have hS : ∀ s ∈ held x C p L, StrsSz s.1.2.2.2.2.1 ∧ s.1.2.2.2.2.2 = 0 := fun s hs => by
      obtain ⟨q1, _⟩ := held_mem hs
      exact ⟨(hsz.2 _ q1).2.2, (y2 _ q1).2⟩
    have hSw : ∀ s ∈ held x C p L, PairSz s.2.2.1 ∧ PairSz s.2.2.2 := fun s hs => by
      obtain ⟨_, q2⟩ := held_mem hs
      exact (h.wx.2.1.2 _ q2).2
    have hSl := held_len x C p L
    cases hh : held x C p L with
    | nil =>
      refine Ult.yes rfl (Ult.bind (cases_idx (l := lp fun k : Nat => k) (kk := fun q => q.1) (lp_le _ _ fun _ => Nat.le_refl _) L (fun q a => S29 q.1 (a, ())) (fun c => decide (c.1 = dflt)) (fun a _ => Ult.ret.eq (seq_eq _ _)) (by omega)) ?_)
      cases hf : L.find? (fun c : Case => decide (c.1 = dflt)) with
      | none => exact Ult.yes (by rw [ilt_eq]; exact decide_eq_true (idxF_neg.2 hf)) Ult.ret
      | some c =>
        obtain ⟨q1, q2⟩ := idxF_at hf
        have hc := List.mem_of_find?_eq_some hf
        refine Ult.no (by rw [ilt_eq]; exact decide_eq_false (by omega)) (Ult.bindc q1 ?_)
        exact Ult.bind (Ult.call (f := fun k => S1024 k (c.2, ())) (lp_le _ _ fun _ => Nat.le_refl _) (own_spec c.2 (hsz.2 _ hc).2.2 (y2 _ hc).2)) Ult.ret
    | cons s r =>
      rw [← hh]
      have hpos : 0 < (held x C p L).length := by rw [hh]; simp
      refine Ult.no (by rw [ieq_eq]; show decide (((((held x C p L).map (·.1)).length : Nat) : Int) = 0) = false; rw [List.length_map]; exact decide_eq_false (by omega)) ?_
      have e0 : (held x C p L)[0].1.2 = s.1.2 := by simp only [hh]; rfl
      have main := second_prog (l := lp fun k : Nat => k) (kk := fun q => q.1) (lp_le _ _ fun _ => Nat.le_refl _) (held x C p L) hpos (by omega) (fun q a b => S1030 q.1 (a, b, ())) (fun q a => S1024 q.1 (a, ())) (fun q a b => S31 q.1 (a, b, ()))
        (fun s hs t ht => Ult.call (f := fun k => S1030 k (s.1.2, t.1.2, ())) (lp_le _ _ fun _ => Nat.le_refl _) (eq_prog s.1.2 t.1.2 (by have := (hS s hs).1.1; omega) (hS s hs).2))
        (fun s hs => Ult.call (f := fun k => S1024 k (s.1.2, ())) (lp_le _ _ fun _ => Nat.le_refl _) (own_spec s.1.2 (hS s hs).1 (hS s hs).2))
        (fun a ha b hb => by
          obtain ⟨s, hs, rfl⟩ := List.mem_map.1 ha
          obtain ⟨t, ht, rfl⟩ := List.mem_map.1 hb
          exact Ult.call (f := fun k => S31 k (s.2, t.2, ())) (lp_le _ _ fun _ => Nat.le_refl _) (isM_prog s.2 t.2 (hSw s hs).1 (hSw s hs).2 (hSw t ht).1 (hSw t ht).2)) zV1
      rw [e0] at main
      exact main.eq (by rw [hh])
  have hlt : j < L.length := Decidable.not_not.1 hlt'
  refine Ult.yes (decide_eq_true hlt) (Ult.bindc (at?_nat hlt) (Ult.bind (Ult.call (f := fun k => S26 k (x.2.1, L[j].1, ())) (lp_le _ _ fun _ => Nat.le_refl _) (condOf_prog x.2.1 L[j].1 hM)) ?_))
  rw [isucc hlt (by omega)]
  subst ha
  have hl := held_len x C p (L.take j)
  rw [takeL hlt] at hl
  have stay : holdC x C p L[j] = none → ((held x C p (L.take j)).map (·.1), (held x C p (L.take j)).map (·.2)) = ((held x C p (L.take (j + 1))).map (·.1), (held x C p (L.take (j + 1))).map (·.2)) := fun q => by
    rw [held_step x C p hlt, q]; simp
  unfold condAns
  cases hco : condOf x.2.1 L[j].1 with
  | none => exact Ult.no rfl (next _ hlt (stay (by unfold holdC; rw [hco])))
  | some m =>
    obtain ⟨m1, m2⟩ := condOf_mem hco
    obtain ⟨_, p1, p2⟩ := h.wx.2.1.2 _ m1
    refine Ult.yes rfl (Ult.bind (Ult.call (f := fun k => S27 k (x.1, m, C, p, ())) (lp_le _ _ fun _ => Nat.le_refl _) (S27_spec x.1 m C p hLs (by omega) p1 p2 h.wp (h.conds.vals m1))) ?_)
    cases hb : holdsB x.1 m C p with
    | false => exact Ult.no rfl (next _ hlt (stay (by unfold holdC; rw [hco]; simp [hb])))
    | true =>
      refine Ult.yes rfl (Ult.bindc (app?_ok (by simp only [List.length_map, List.length_cons, List.length_nil]; show ((held x C p (L.take j)).length + (0 + 1)) * 96 ≤ _; omega)) (Ult.bindc (app?_ok (by simp only [List.length_map, List.length_cons, List.length_nil]; show ((held x C p (L.take j)).length + (0 + 1)) * 64 ≤ _; omega)) ?_))
      refine next (_, _) hlt ?_
      have : holdC x C p L[j] = some m := by unfold holdC; rw [hco]; simp [hb]
      rw [held_step x C p hlt, this]; simp
end Go.Proofs.YtonfimidgbppeaaDoor.Ev

namespace Go.Proofs.YtonfimidgbppeaaDoor.Ev
open Go Go.RowKit
set_option linter.unusedVariables false
set_option linter.unusedSimpArgs false
variable {ι R α X : Type} {l : ι → Nat}
def oth (M : List Condition) (L : List Case) : Bool × V0 := match lastN M L with
  | some c => (true, c.2)
  | none => (false, zV0)
theorem oth_step (M : List Condition) {L : List Case} {j : Nat} (h : j < L.length) : oth M (L.take (j + 1)) = if (condOf M L[j].1).isNone = true then (true, L[j].2) else oth M (L.take j) := by
  unfold oth lastN
  rw [List.take_succ_eq_append_getElem h, List.reverse_append, List.reverse_singleton, List.singleton_append, List.find?_cons]
  cases (condOf M L[j].1).isNone <;> rfl
/-! ### what is chosen has no cases -/
def Flat (a : V0) : Prop := StrsSz a.2.2.2.1 ∧ a.2.2.2.2 = 0
theorem flat_z : Flat zV0 := ⟨⟨by simp, fun s hs => by cases hs⟩, rfl⟩
theorem pick_flat {W : List Condition} {v0 : V0} (h0 : Flat v0) : ∀ (S : List (Case × Condition)) (same : Bool) (j : Nat), (∀ s ∈ S, Flat s.1.2) → Flat (pickA W v0 same j S).1
  | [], same, j, _ => by
    rw [pickA]
    split
    · exact h0
    · exact flat_z
  | s :: r, same, j, hS => by
    rw [pickA]
    split
    · exact hS s (by simp)
    · exact pick_flat h0 r _ _ fun t ht => hS t (by simp [ht])
theorem chosen_flat {x : CWorld} {v : V1} {C : List Pair} {p : Platform} (h : ChIn x v C p) : Flat (chosenA x v C p).1 := by
  obtain ⟨z1, z2, z3⟩ := chk1_zero h.val
  unfold chosenA
  split
  · exact ⟨h.wv.2.1, rfl⟩
  rename_i hk
  have hcs := z2 (Decidable.not_not.1 hk)
  obtain ⟨y1, y2⟩ := chkCases_zero hcs
  split
  · exact flat_z
  have fl : ∀ c ∈ v.2.2.2.2, Flat c.2 := fun c hc => ⟨(h.wv.2.2.2 c hc).2.2, (y2 c hc).2⟩
  unfold firstA
  cases hh : held x C p v.2.2.2.2 with
  | nil =>
    dsimp only
    cases hf : v.2.2.2.2.find? (fun c : Case => decide (c.1 = dflt)) with
    | none => exact flat_z
    | some c => exact fl c (List.mem_of_find?_eq_some hf)
  | cons s r =>
    have hm : ∀ t ∈ s :: r, Flat t.1.2 := fun t ht => fl _ (held_mem (by rw [hh]; exact ht)).1
    exact pick_flat (hm s (by simp)) (s :: r) _ _ hm
end Go.Proofs.YtonfimidgbppeaaDoor.Ev

namespace Go.Proofs.YtonfimidgbppeaaDoor.Ev
open Go Go.RowKit
set_option linter.unusedVariables false
set_option linter.unusedSimpArgs false
variable {ι R α X : Type} {l : ι → Nat}
theorem Ultk.some {f : Nat → Option Bool} (h : Ultk f true) : ∃ k, f k = Option.some true := by
  obtain ⟨K, h⟩ := h
  exact ⟨K, h K (Nat.le_refl _)⟩
theorem PlatSz.one' {p : Platform} (h1 : p.1.size ≤ 140737488351232) (h2 : PairSz p.2) : PlatSz [p] := ⟨by simp, fun q hq => by
  rw [List.mem_singleton.1 hq]; exact ⟨h1, h2⟩⟩
def chkAsk (x : CWorld) (C : List Pair) (p : Platform) : Int := if chkConditions x.1 x.2.1 ≠ 0 then chkConditions x.1 x.2.1 else if chkConfig x.1 C ≠ 0 then chkConfig x.1 C else chkPlatforms [p]
theorem ask_prog (x : CWorld) (C : List Pair) (p : Platform) (hx : WorldSz x) (hC : PairSz C) (hp : PlatSz [p]) : Ultk (fun k => S9 k (x, C, p, ())) (chkAsk x C p) := by
  unfold S9 chkAsk
  have := hC.1
  refine Ult.bind (S16_spec x.1 x.2.1 hx.1 hx.2.1) (Ult.ifS (ine_eq _ _) (fun _ => Ult.ret) fun _ => ?_)
  refine Ult.bind (S17_spec x.1 C hx.1 (by have := hC.len; omega)) (Ult.ifS (ine_eq _ _) (fun _ => Ult.ret) fun _ => ?_)
  exact Ult.bind (S18_spec [p] hp) Ult.ret
def chosenAll (x : CWorld) (v : V1) (C : List Pair) (p : Platform) : V1 × Int := if chkAsk x C p ≠ 0 then (zV1, chkAsk x C p) else if chk1 v ≠ 0 then (zV1, chk1 v) else upA (chosenA x v C p)
theorem ask_zero {x : CWorld} {C : List Pair} {p : Platform} (h : chkAsk x C p = 0) : chkConditions x.1 x.2.1 = 0 := by
  unfold chkAsk at h
  split at h
  · rename_i q; exact absurd h q
  · rename_i q; exact Decidable.not_not.1 q
theorem all_prog (x : CWorld) (v : V1) (C : List Pair) (p : Platform) (hx : WorldSz x) (hv : V1Sz v) (hC : PairSz C) (hp1 : p.1.size ≤ 140737488351232) (hp2 : PairSz p.2) : Ultk (fun k => S5 k (x, v, C, p, ())) (chosenAll x v C p) := by
  unfold S5 chosenAll
  refine Ult.bind (ask_prog x C p hx hC (PlatSz.one' hp1 hp2)) (Ult.ifS (ine_eq _ _) (fun _ => Ult.ret) fun h1 => ?_)
  refine Ult.bind (chk1_prog v hv) (Ult.ifS (ine_eq _ _) (fun _ => Ult.ret) fun h2 => ?_)
  exact Ult.bind (chosen_prog x v C p ⟨hx, hv, hC, hp2, CondsOk.of (ask_zero (Decidable.not_not.1 h1)), Decidable.not_not.1 h2⟩) Ult.ret
/-! ### what is chosen is one of the values -/
theorem pick_one {W : List Condition} {v0 : V0} : ∀ (S : List (Case × Condition)) (same : Bool) (j : Nat), (pickA W v0 same j S).2 = 0 → (pickA W v0 same j S).1 = v0 ∨ ∃ s ∈ S, (pickA W v0 same j S).1 = s.1.2
  | [], same, j, h => by
    rw [pickA] at h ⊢
    split at h
    · rename_i q; rw [if_pos q]; exact Or.inl rfl
    · cases h
  | s :: r, same, j, h => by
    rw [pickA] at h ⊢
    split at h
    · rename_i q; rw [if_pos q]; exact Or.inr ⟨s, by simp, rfl⟩
    · rename_i q; rw [if_neg q]
      rcases pick_one r _ _ h with e | ⟨t, ht, e⟩
      · exact Or.inl e
      · exact Or.inr ⟨t, by simp [ht], e⟩
theorem first_one {x : CWorld} {C : List Pair} {p : Platform} {L : List Case} (h : (firstA x C p L).2 = 0) : ∃ c ∈ L, (firstA x C p L).1 = c.2 := by
  unfold firstA at h ⊢
  cases hh : held x C p L with
  | nil =>
    rw [hh] at h
    dsimp only at h ⊢
    cases hf : L.find? (fun c : Case => decide (c.1 = dflt)) with
    | none => rw [hf] at h; cases h
    | some c => exact ⟨c, List.mem_of_find?_eq_some hf, rfl⟩
  | cons s r =>
    rw [hh] at h
    dsimp only at h ⊢
    have hm : ∀ t ∈ s :: r, t.1 ∈ L := fun t ht => (held_mem (by rw [hh]; exact ht)).1
    rcases pick_one _ _ _ h with e | ⟨t, ht, e⟩
    · exact ⟨s.1, hm s (by simp), e⟩
    · exact ⟨t.1, hm t ht, e⟩
theorem chkCs_each {k0 : Int} : ∀ {r pre : List Case}, chkCs k0 pre r = 0 → ∀ c ∈ r, chkTxt c.1 = 0 ∧ c.2.1 ≠ 4 ∧ chk0 c.2 = 0 ∧ c.2.1 = k0
  | [], _, _, c, hc => by cases hc
  | a :: r, pre, h, c, hc => by
    rw [chkCs] at h
    split at h
    · rename_i q; exact absurd h q
    rename_i qt
    split at h
    · cases h
    split at h
    · cases h
    rename_i q4
    split at h
    · rename_i q; exact absurd h q
    rename_i q0
    split at h
    · cases h
    rename_i qk
    rcases List.mem_cons.1 hc with rfl | hc
    · exact ⟨Decidable.not_not.1 qt, q4, Decidable.not_not.1 q0, Decidable.not_not.1 qk⟩
    · exact chkCs_each h c hc
theorem chkCases_each {L : List Case} (h : chkCases L = 0) : ∀ c ∈ L, chkTxt c.1 = 0 ∧ c.2.1 ≠ 4 ∧ chk0 c.2 = 0 := by
  cases L with
  | nil => cases h
  | cons a r => exact fun c hc => have q := chkCs_each h c hc; ⟨q.1, q.2.1, q.2.2.1⟩
theorem chkVal_r {kd : Int} {tx : ByteArray} {nm : Int} {ls : List ByteArray} {n r r' : Int} (hk : kd ≠ 4) : chkVal kd tx nm ls n r = chkVal kd tx nm ls n r' := by
  unfold chkVal
  simp only [if_neg hk]
theorem chk_up {a : V0} (hk : a.1 ≠ 4) (h0 : a.2.2.2.2 = 0) : chk1 (upv a) = chk0 a := by
  obtain ⟨k, t, n, s, z⟩ := a
  obtain rfl : z = 0 := h0
  exact chkVal_r hk
theorem up_v0 {v : V1} (h : v.2.2.2.2 = []) : upv (v0of v) = v := by
  obtain ⟨k, t, n, s, z⟩ := v
  obtain rfl : z = [] := h
  rfl
structure OneOf (v : V1) (a : V0) : Prop where
  kind : a.1 ≠ 4
  flat : Flat a
  chk : chk1 (upv a) = 0
  one : (v.1 ≠ 4 ∧ a = v0of v) ∨ (v.1 = 4 ∧ ∃ c ∈ v.2.2.2.2, a = c.2)
theorem chosen_one {x : CWorld} {v : V1} {C : List Pair} {p : Platform} (h : ChIn x v C p) (h0 : (chosenA x v C p).2 = 0) : OneOf v (chosenA x v C p).1 := by
  have fl := chosen_flat h
  obtain ⟨z1, z2, z3⟩ := chk1_zero h.val
  unfold chosenA at h0 fl ⊢
  by_cases hk : v.1 ≠ 4
  · rw [if_pos hk] at h0 fl ⊢
    refine ⟨hk, fl, ?_, Or.inl ⟨hk, rfl⟩⟩
    dsimp only
    rw [up_v0 (z1 hk)]; exact h.val
  rw [if_neg hk] at h0 fl ⊢
  have hk4 : v.1 = 4 := Decidable.not_not.1 hk
  by_cases hn : chkNames x.2.1 v.2.2.2.2 ≠ 0
  · rw [if_pos hn] at h0; exact absurd h0 hn
  rw [if_neg hn] at h0 fl ⊢
  obtain ⟨c, hc, e⟩ := first_one h0
  obtain ⟨_, y1, y2⟩ := chkCases_each (z2 hk4) c hc
  rw [← e] at y1 y2
  refine ⟨y1, fl, ?_, Or.inr ⟨hk4, c, hc, e⟩⟩
  rw [chk_up y1 fl.2]; exact y2
theorem all_in {x : CWorld} {v : V1} {C : List Pair} {p : Platform} (hx : WorldSz x) (hv : V1Sz v) (hC : PairSz C) (hp2 : PairSz p.2) (h0 : (chosenAll x v C p).2 = 0) : chkAsk x C p = 0 ∧ ChIn x v C p ∧ chosenAll x v C p = upA (chosenA x v C p) ∧ (chosenA x v C p).2 = 0 := by
  unfold chosenAll at h0 ⊢
  split at h0
  · rename_i q; exact absurd h0 q
  rename_i h1
  split at h0
  · rename_i q; exact absurd h0 q
  rename_i h2
  rw [if_neg h1, if_neg h2]
  exact ⟨Decidable.not_not.1 h1, ⟨hx, hv, hC, hp2, CondsOk.of (ask_zero (Decidable.not_not.1 h1)), Decidable.not_not.1 h2⟩, rfl, h0⟩
theorem pick_bad {W : List Condition} {v0 : V0} : ∀ (S : List (Case × Condition)) (same : Bool) (j : Nat), (pickA W v0 same j S).2 ≠ 0 → (pickA W v0 same j S).1 = zV0
  | [], same, j, h => by
    rw [pickA] at h ⊢
    split at h
    · exact absurd rfl h
    · rename_i q; rw [if_neg q]
  | s :: r, same, j, h => by
    rw [pickA] at h ⊢
    split at h
    · exact absurd rfl h
    · rename_i q; rw [if_neg q]; exact pick_bad r _ _ h
theorem first_bad {x : CWorld} {C : List Pair} {p : Platform} {L : List Case} (h0 : (firstA x C p L).2 ≠ 0) : (firstA x C p L).1 = zV0 := by
  unfold firstA at h0 ⊢
  cases hh : held x C p L with
  | nil =>
    rw [hh] at h0
    dsimp only at h0 ⊢
    cases hf : L.find? (fun c : Case => decide (c.1 = dflt)) with
    | none => rfl
    | some c => rw [hf] at h0; exact absurd rfl h0
  | cons s r =>
    rw [hh] at h0
    dsimp only at h0 ⊢
    exact pick_bad _ _ _ h0
theorem chosen_bad {x : CWorld} {v : V1} {C : List Pair} {p : Platform} (h0 : (chosenA x v C p).2 ≠ 0) : (chosenA x v C p).1 = zV0 := by
  unfold chosenA at h0 ⊢
  by_cases hk : v.1 ≠ 4
  · rw [if_pos hk] at h0; exact absurd rfl h0
  rw [if_neg hk] at h0 ⊢
  by_cases hn : chkNames x.2.1 v.2.2.2.2 ≠ 0
  · rw [if_pos hn]
  rw [if_neg hn] at h0 ⊢
  exact first_bad h0
theorem all_bad {x : CWorld} {v : V1} {C : List Pair} {p : Platform} (h0 : (chosenAll x v C p).2 ≠ 0) : (chosenAll x v C p).1 = zV1 := by
  unfold chosenAll at h0 ⊢
  split
  · rfl
  split
  · rfl
  rename_i h1 h2
  rw [if_neg h1, if_neg h2] at h0
  show upv (chosenA x v C p).1 = zV1
  rw [chosen_bad h0]; rfl
/-- chosen again it stays -/
theorem all_again {x : CWorld} {C : List Pair} {p : Platform} {a : V0} (ha : chkAsk x C p = 0) (hk : a.1 ≠ 4) (hf : a.2.2.2.2 = 0) (hc : chk1 (upv a) = 0) : chosenAll x (upv a) C p = (upv a, 0) := by
  unfold chosenAll
  rw [if_neg (fun q => q ha), if_neg (fun q => q hc)]
  unfold chosenA
  rw [if_pos (show (upv a).1 ≠ 4 from hk)]
  obtain ⟨k, t, n, s, z⟩ := a
  rfl
theorem v1sz_up {v : V1} {a : V0} (hv : V1Sz v) (h : OneOf v a) : V1Sz (upv a) := by
  rcases h.one with ⟨_, e⟩ | ⟨_, c, hc, e⟩
  · subst e; exact ⟨hv.1, hv.2.1, by simp [upv], fun c hc => by cases hc⟩
  · subst e
    obtain ⟨q1, q2, q3⟩ := hv.2.2.2 c hc
    exact ⟨q2, q3, by simp [upv], fun c hc => by cases hc⟩
end Go.Proofs.YtonfimidgbppeaaDoor.Ev

namespace Go.Proofs.YtonfimidgbppeaaDoor.Ev
open Go Go.RowKit
set_option linter.unusedVariables false
set_option linter.unusedSimpArgs false
variable {ι R α X : Type} {l : ι → Nat}
def psum (a b : V0) : V0 := (a.1, a.2.1 ++ b.2.1, iadd .i64 a.2.2.1 b.2.2.1, a.2.2.2.1 ++ b.2.2.2.1, 0)
def kindV (v : V1) : Int := if v.1 = 4 then (match v.2.2.2.2 with
  | [] => 0
  | c :: _ => c.2.1) else v.1
def sumC (w : V0) (c : Case) : Case := (c.1, psum c.2 w)
def sumV (v w : V1) : V1 := if v.1 = 4 then (4, ⟨#[]⟩, 0, [], v.2.2.2.2.map (sumC (v0of w))) else upv (psum (v0of v) (v0of w))
def addA (v w : V1) : V1 × Int := if chk1 v ≠ 0 then (zV1, chk1 v) else if chk1 w ≠ 0 then (zV1, chk1 w) else if kindV v ≠ kindV w then (zV1, 6) else if chk1 (sumV v w) ≠ 0 then (zV1, chk1 (sumV v w)) else (sumV v w, 0)
/-! ### what a right value's sizes are -/
theorem chkVal_small {kd : Int} {tx : ByteArray} {nm : Int} {ls : List ByteArray} {n r : Int} (h : chkVal kd tx nm ls n r = 0) : tx.size ≤ 1000 ∧ ls.length ≤ 1000 := by
  obtain ⟨_, h2, _⟩ := chkVal_zero h
  unfold bigV at h2
  simp only [Bool.or_eq_false_iff] at h2
  obtain ⟨q1, q2, _⟩ := h2
  have q1 : ¬ (1000 : Int) < ((tx.size : Nat) : Int) := by rw [igt_eq] at q1; exact of_decide_eq_false q1
  have q2 : ¬ (1000 : Int) < ((ls.length : Nat) : Int) := by rw [igt_eq] at q2; exact of_decide_eq_false q2
  omega
/-! ### concatenation -/
def sumS (L : List (List ByteArray)) : Nat := (L.map List.length).sum
theorem sumS_take {L : List (List ByteArray)} {j : Nat} (h : j < L.length) : sumS (L.take (j + 1)) = sumS (L.take j) + L[j].length := by
  unfold sumS
  rw [List.take_succ_eq_append_getElem h, List.map_append, List.sum_append]
  simp
theorem sumS_le (L : List (List ByteArray)) (j : Nat) : sumS (L.take j) ≤ sumS L := by
  have : sumS L = sumS (L.take j) + sumS (L.drop j) := by
    unfold sumS
    rw [← List.sum_append, ← List.map_append, List.take_append_drop]
  omega
theorem growS_spec (n : Nat) (hn : n ≤ 2000000) : Ultk (fun k => S68 k ((), (n : Int), ())) [] := by
  unfold S68
  refine Ult.jn ?_
  dsimp only
  refine Ult.no (by rw [ilt_eq]; exact decide_eq_false (by omega)) ?_
  have e : isub Go.IntKind.i64 (n : Int) (isub Go.IntKind.i64 0 (len ([] : List ByteArray))) = (n : Int) := by
    rw [show isub Go.IntKind.i64 0 (len ([] : List ByteArray)) = 0 from isub64 (by decide) (by decide), isub64 (by omega) (by omega)]; omega
  rw [e, igt_eq]
  by_cases h0 : 0 < n
  · refine Ult.yes (decide_eq_true (by omega)) (Ult.bindc (a := []) rfl (Ult.bindc (a := ()) ?_ (Ult.bindc (a := List.replicate n ⟨#[]⟩) ?_ (Ult.bindc (a := []) ?_ Ult.ret))))
    · unfold inb; rw [if_pos ⟨by omega, by omega⟩]
    · unfold mk?; rw [if_pos ⟨rfl, by omega, by simp; omega⟩, Int.toNat_natCast]
    · unfold cut? len; rw [if_pos ⟨by simp, by simp, by simp⟩]; simp
  · exact Ult.no (decide_eq_false (by omega)) Ult.ret
theorem concatS_spec (L : List (List ByteArray)) (hl : L.length ≤ 20000) (hs : sumS L ≤ 2000000) : Ultk (fun k => S58 k (L, ())) L.flatten := by
  unfold S58
  refine Ult.forA (A := Unit) (fun _ => Nat.le_refl _) L.length (fun _ j => ((sumS (L.take j) : Int), (j : Int))) (fun _ _ => True) (fun _ _ => L.flatten) () trivial fun _ j hj _ next => ?_
  dsimp only
  rw [iltL]
  by_cases hlt : j < L.length
  · refine Ult.yes (decide_eq_true hlt) (Ult.bindc (at?_nat hlt) ?_)
    have h1 := sumS_take hlt
    have h2 := sumS_le L (j + 1)
    have e : iadd Go.IntKind.i64 (sumS (L.take j) : Int) (len L[j]) = (sumS (L.take (j + 1)) : Int) := by unfold len; rw [iadd64 (by omega) (by omega)]; omega
    rw [e, isucc hlt (by omega)]
    exact Ult.no (by rw [ilt_eq]; exact decide_eq_false (by omega)) (next () hlt trivial)
  · refine Ult.no (decide_eq_false hlt) ?_
    rw [List.take_of_length_le (by omega)]
    refine Ult.bind (Ult.call (l := lp fun k : Nat => k) (k := fun q => q.1) (lp_le _ _ fun _ => Nat.le_refl _) (growS_spec (sumS L) hs)) ?_
    refine Ult.forA (A := Unit) (lp_le _ _ fun _ => Nat.le_refl _) L.length (fun _ j => ((L.take j).flatten, (j : Int))) (fun _ _ => True) (fun _ _ => L.flatten) () trivial fun _ i hi _ next2 => ?_
    dsimp only
    rw [iltL]
    by_cases hlu : i < L.length
    · refine Ult.yes (decide_eq_true hlu) (Ult.bindc (at?_nat hlu) ?_)
      have h1 := sumS_take hlu
      have h2 := sumS_le L (i + 1)
      have hfl : ((L.take i).flatten).length = sumS (L.take i) := by rw [List.length_flatten]; rfl
      refine Ult.bindc (app?_ok (by rw [hfl]; show (_ + _) * 16 ≤ _; omega)) ?_
      rw [isucc hlu (by omega)]
      have := next2 () hlu trivial
      rw [List.take_succ_eq_append_getElem hlu, List.flatten_append] at this
      simpa using this
    · refine Ult.no (decide_eq_false hlu) (Ult.ret.eq ?_)
      rw [List.take_of_length_le (by omega)]
/-! ### what is chosen of a sum -/
theorem held_sum (x : CWorld) (C : List Pair) (p : Platform) (w : V0) (L : List Case) : held x C p (L.map (sumC w)) = (held x C p L).map fun s => (sumC w s.1, s.2) := by
  unfold held
  induction L with
  | nil => rfl
  | cons c L ih =>
    have e : holdC x C p (sumC w c) = holdC x C p c := rfl
    rw [List.map_cons, List.filterMap_cons, List.filterMap_cons, e, ih]
    cases holdC x C p c <;> simp
theorem pick_sum {W : List Condition} {v0 w : V0} : ∀ (S : List (Case × Condition)) (same same' : Bool) (j : Nat), (same = true → same' = true) → (pickA W v0 same j S).2 = 0 →
    pickA W (psum v0 w) same' j (S.map fun s => (sumC w s.1, s.2)) = (psum (pickA W v0 same j S).1 w, 0)
  | [], same, same', j, hs, h => by
    rw [List.map_nil, pickA, pickA]
    rw [pickA] at h
    split at h
    · rename_i q; rw [if_pos q, if_pos (hs q)]
    · cases h
  | s :: r, same, same', j, hs, h => by
    rw [List.map_cons, pickA, pickA]
    rw [pickA] at h
    dsimp only
    split at h
    · rename_i q; rw [if_pos q, if_pos q]; rfl
    · rename_i q
      rw [if_neg q, if_neg q]
      refine pick_sum r _ _ _ (fun q => ?_) h
      rw [Bool.and_eq_true] at q ⊢
      refine ⟨hs q.1, ?_⟩
      have := eqV0_iff.1 q.2
      refine eqV0_iff.2 ?_
      show psum v0 w = psum s.1.2 w
      rw [this]
theorem first_sum {x : CWorld} {C : List Pair} {p : Platform} {w : V0} {L : List Case} (h : (firstA x C p L).2 = 0) : firstA x C p (L.map (sumC w)) = (psum (firstA x C p L).1 w, 0) := by
  unfold firstA at h ⊢
  rw [held_sum]
  cases hh : held x C p L with
  | nil =>
    rw [hh] at h
    dsimp only [List.map_nil] at h ⊢
    have e : (L.map (sumC w)).find? (fun c => decide (c.1 = dflt)) = (L.find? fun c => decide (c.1 = dflt)).map (sumC w) := by
      rw [List.find?_map]; rfl
    rw [e]
    cases hf : L.find? (fun c : Case => decide (c.1 = dflt)) with
    | none => rw [hf] at h; cases h
    | some c => rfl
  | cons s r =>
    rw [hh] at h
    dsimp only [List.map_cons] at h ⊢
    have hW : (((sumC w s.1, s.2) : Case × Condition) :: r.map fun s => (sumC w s.1, s.2)).map (·.2) = (s :: r).map (·.2) := by simp
    have := pick_sum (W := (s :: r).map (·.2)) (v0 := s.1.2) (w := w) (s :: r) true true 0 id h
    show pickA (List.map (·.2) (((sumC w s.1, s.2) : Case × Condition) :: r.map fun s => (sumC w s.1, s.2))) (sumC w s.1).2 true 0 (((sumC w s.1, s.2) : Case × Condition) :: r.map fun s => (sumC w s.1, s.2)) = _
    rw [hW]
    exact this
theorem names_sum (M : List Condition) (w : V0) (L : List Case) : chkNames M (L.map (sumC w)) = chkNames M L := by
  unfold chkNames
  rw [List.all_map]
  rfl
theorem kind_each {L : List Case} (h : chkCases L = 0) : ∀ c ∈ L, ∀ v : V1, v.1 = 4 → v.2.2.2.2 = L → kindV v = c.2.1 := by
  cases L with
  | nil => cases h
  | cons a r =>
    intro c hc v h4 hv
    unfold kindV
    rw [if_pos h4, hv]
    exact (chkCs_each h c hc).2.2.2.symm
/-- the law in plain words -/
theorem sum_law {x : CWorld} {v w : V1} {C : List Pair} {p : Platform} (hx : WorldSz x) (hv : V1Sz v) (hC : PairSz C) (hp2 : PairSz p.2) (hw4 : w.1 ≠ 4) (hf : (addA v w).2 = 0) (hg : (chosenAll x v C p).2 = 0) :
    ∃ a : V0, chosenAll x v C p = (upv a, 0) ∧ OneOf v a ∧ (addA v w).1 = sumV v w ∧ chk1 v = 0 ∧ chk1 w = 0 ∧ chosenAll x (sumV v w) C p = (upv (psum a (v0of w)), 0) ∧ addA (upv a) w = (upv (psum a (v0of w)), 0) := by
  obtain ⟨ha, hin, he, h0⟩ := all_in hx hv hC hp2 hg
  have one := chosen_one hin h0
  unfold addA at hf ⊢
  split at hf
  · rename_i q; exact absurd hf q
  rename_i c1
  split at hf
  · rename_i q; exact absurd hf q
  rename_i c2
  split at hf
  · cases hf
  rename_i c3
  split at hf
  · rename_i q; exact absurd hf q
  rename_i c4
  rw [if_neg c1, if_neg c2, if_neg c3, if_neg c4]
  have c1' := Decidable.not_not.1 c1
  have c2' := Decidable.not_not.1 c2
  have c3' := Decidable.not_not.1 c3
  have c4' := Decidable.not_not.1 c4
  have hgen : ∀ a : V0, a.1 ≠ 4 → a.2.2.2.2 = 0 → kindV (upv a) = a.1 := fun a h4 _ => by
    unfold kindV
    show (if a.1 = 4 then _ else a.1) = a.1
    rw [if_neg h4]
  refine ⟨(chosenA x v C p).1, ?_, one, rfl, c1', c2', ?_⟩
  · rw [he]; show (upv (chosenA x v C p).1, (chosenA x v C p).2) = _; rw [h0]
  have hsum : sumV (upv (chosenA x v C p).1) w = upv (psum (chosenA x v C p).1 (v0of w)) := by
    unfold sumV
    rw [if_neg (show ¬ (upv (chosenA x v C p).1).1 = 4 from one.kind)]
    have : v0of (upv (chosenA x v C p).1) = (chosenA x v C p).1 := by
      have f := one.flat.2
      generalize (chosenA x v C p).1 = a at f ⊢
      obtain ⟨a1, a2, a3, a4, a5⟩ := a
      obtain rfl : a5 = 0 := f
      rfl
    rw [this]
  have main : chosenAll x (sumV v w) C p = (upv (psum (chosenA x v C p).1 (v0of w)), 0) ∧ chk1 (upv (psum (chosenA x v C p).1 (v0of w))) = 0 ∧ kindV (upv (chosenA x v C p).1) = kindV v := by
    by_cases h4 : v.1 = 4
    case neg =>
      have e1 : (chosenA x v C p).1 = v0of v := by unfold chosenA; rw [if_pos h4]
      have e2 : sumV v w = upv (psum (v0of v) (v0of w)) := by unfold sumV; rw [if_neg h4]
      rw [e1, e2]
      rw [e2] at c4'
      refine ⟨?_, c4', ?_⟩
      · exact all_again ha h4 rfl c4'
      · rw [up_v0 ((chk1_zero c1').1 h4)]
    have e2 : sumV v w = (4, ⟨#[]⟩, 0, [], v.2.2.2.2.map (sumC (v0of w))) := by unfold sumV; rw [if_pos h4]
    have hcs := (chk1_zero c4').2.1 (by rw [e2])
    rw [e2] at hcs
    have hcv := (chk1_zero c1').2.1 h4
    have e3 : chosenA x v C p = firstA x C p v.2.2.2.2 := by
      unfold chosenA at h0 ⊢
      rw [if_neg (fun q => q h4)] at h0 ⊢
      split at h0
      · rename_i q; exact absurd h0 q
      · rename_i q; rw [if_neg q]
    have hn : chkNames x.2.1 v.2.2.2.2 = 0 := by
      unfold chosenA at h0
      rw [if_neg (fun q => q h4)] at h0
      split at h0
      · rename_i q; exact absurd h0 q
      · rename_i q; exact Decidable.not_not.1 q
    have hfs := first_sum (w := v0of w) (x := x) (C := C) (p := p) (L := v.2.2.2.2) (by rw [← e3]; exact h0)
    obtain ⟨c, hc, ec⟩ := first_one (by rw [← e3]; exact h0)
    rw [← e3] at hfs ec
    refine ⟨?_, ?_, ?_⟩
    · unfold chosenAll
      rw [if_neg (fun q => q ha), if_neg c4]
      unfold chosenA
      rw [e2]
      dsimp only
      rw [if_neg (fun q => q rfl), names_sum, if_neg (fun q => q hn), hfs]
      rfl
    · have hm : sumC (v0of w) c ∈ v.2.2.2.2.map (sumC (v0of w)) := List.mem_map.2 ⟨c, hc, rfl⟩
      obtain ⟨_, q1, q2⟩ := chkCases_each hcs _ hm
      have e : (sumC (v0of w) c).2 = psum (chosenA x v C p).1 (v0of w) := by rw [ec]; rfl
      rw [e] at q1 q2
      rw [chk_up q1 rfl]; exact q2
    · rw [hgen _ one.kind one.flat.2, ec]
      exact (kind_each hcv c hc v h4 rfl).symm
  obtain ⟨m1, m2, m3⟩ := main
  refine ⟨m1, ?_⟩
  rw [if_neg (fun q => q one.chk), if_neg c2, if_neg (fun q => q (by rw [m3]; exact c3')), hsum, if_neg (fun q => q m2)]
end Go.Proofs.YtonfimidgbppeaaDoor.Ev

namespace Go.Proofs.YtonfimidgbppeaaDoor.Ev
open Go Go.RowKit
set_option linter.unusedVariables false
set_option linter.unusedSimpArgs false
variable {ι R α X : Type} {l : ι → Nat}
def SmallV (tx : ByteArray) (ls : List ByteArray) : Prop := tx.size ≤ 1000 ∧ ls.length ≤ 1000
theorem two_spec (v w : V1) (hv : V1Sz v) (hw : V1Sz w) : Ultk (fun k => S14 k (v, w, ())) (if chk1 v ≠ 0 then chk1 v else chk1 w) := by
  unfold S14
  refine Ult.bind (chk1_prog v hv) (Ult.ifS (ine_eq _ _) (fun _ => Ult.ret) fun _ => ?_)
  exact Ult.bind (chk1_prog w hw) Ult.ret
theorem kind_spec (v : V1) (h : chk1 v = 0) : Ultk (fun k => S33 k (v, ())) (kindV v) := by
  unfold S33 kindV
  refine Ult.ifS (ieq_eq _ _) (fun h4 => ?_) fun _ => Ult.ret
  obtain ⟨y1, _⟩ := chkCases_zero ((chk1_zero h).2.1 h4)
  dsimp only
  cases hc : v.2.2.2.2 with
  | nil => exact absurd hc y1
  | cons c r => exact Ult.bindc (a := c) rfl Ult.ret
theorem psum_spec (a b : V0) (ha : SmallV a.2.1 a.2.2.2.1) (hb : SmallV b.2.1 b.2.2.2.1) : Ultk (fun k => S1034 k (a, b, ())) (upv (psum a b)) := by
  obtain ⟨a1, a2⟩ := ha
  obtain ⟨b1, b2⟩ := hb
  have h : Ultk (fun k => R1034 k (a, b, ())) (psum a b) := by
    unfold R1034
    refine Ult.bindc (cat?_ok (by show a.2.1.size + b.2.1.size ≤ _; omega)) (Ult.bind (concatS_spec [a.2.2.2.1, b.2.2.2.1] (by simp) (by unfold sumS; simp; omega)) (Ult.ret.eq ?_))
    simp [psum]
  obtain ⟨K, hK⟩ := h
  refine ⟨K, fun i hi => ?_⟩
  show upF (R1034 i (a, b, ())) = _
  rw [show R1034 i (a, b, ()) = _ from hK i hi]; rfl
theorem size_append (a b : ByteArray) : (a ++ b).size = a.size + b.size := by simp
theorem psum_sz {a b : V0} (ha : V0Sz a) (hb : V0Sz b) (sa : SmallV a.2.1 a.2.2.2.1) (sb : SmallV b.2.1 b.2.2.2.1) : V0Sz (psum a b) := by
  obtain ⟨a1, a2⟩ := sa
  obtain ⟨b1, b2⟩ := sb
  refine ⟨?_, ?_, fun s hs => ?_⟩
  · show (a.2.1 ++ b.2.1).size ≤ _
    rw [size_append]; omega
  · show (a.2.2.2.1 ++ b.2.2.2.1).length * 16 ≤ _
    rw [List.length_append]; omega
  · have hs : s ∈ a.2.2.2.1 ++ b.2.2.2.1 := hs
    rcases List.mem_append.1 hs with q | q
    · exact ha.2.2 s q
    · exact hb.2.2 s q
structure SumIn (v w : V1) : Prop where
  sv : V1Sz v
  sw : V1Sz w
  cv : chk1 v = 0
  cw : chk1 w = 0
  w4 : w.1 ≠ 4
theorem SumIn.smallw {v w : V1} (h : SumIn v w) : SmallV (v0of w).2.1 (v0of w).2.2.2.1 := chkVal_small h.cw
theorem SumIn.szw {v w : V1} (h : SumIn v w) : V0Sz (v0of w) := ⟨h.sw.1, h.sw.2.1⟩
theorem SumIn.smallc {v w : V1} (h : SumIn v w) (h4 : v.1 = 4) {c : Case} (hc : c ∈ v.2.2.2.2) : SmallV c.2.2.1 c.2.2.2.2.1 := chkVal_small (chkCases_each ((chk1_zero h.cv).2.1 h4) c hc).2.2
theorem SumIn.sum_sz {v w : V1} (h : SumIn v w) : V1Sz (sumV v w) := by
  unfold sumV
  split
  · rename_i h4
    refine ⟨Nat.zero_le _, ⟨Nat.zero_le _, fun s hs => by cases hs⟩, ?_, fun c hc => ?_⟩
    · show (v.2.2.2.2.map _).length * 96 ≤ _
      rw [List.length_map]; exact h.sv.2.2.1
    · have hc : c ∈ v.2.2.2.2.map (sumC (v0of w)) := hc
      obtain ⟨d, hd, rfl⟩ := List.mem_map.1 hc
      obtain ⟨q1, q2⟩ := h.sv.2.2.2 d hd
      exact ⟨q1, psum_sz q2 h.szw (h.smallc h4 hd) h.smallw⟩
  · have sv : SmallV (v0of v).2.1 (v0of v).2.2.2.1 := chkVal_small h.cv
    obtain ⟨q1, q2⟩ := psum_sz (a := v0of v) ⟨h.sv.1, h.sv.2.1⟩ h.szw sv h.smallw
    exact ⟨q1, q2, by simp [upv], fun c hc => by cases hc⟩
def addB (v w : V1) : V1 × Int := if kindV v ≠ kindV w then (zV1, 6) else if chk1 (sumV v w) ≠ 0 then (zV1, chk1 (sumV v w)) else (sumV v w, 0)
theorem add_spec (v w : V1) (h : SumIn v w) : Ultk (fun k => S15 k (v, w, ())) (addB v w) := by
  have fin : Ultk (fun k => bnd (S10 k (sumV v w, ())) fun a4 => cnd (ine a4 0) (some (zV1, a4)) (some (sumV v w, 0))) (if chk1 (sumV v w) ≠ 0 then (zV1, chk1 (sumV v w)) else (sumV v w, 0)) :=
    Ult.bind (chk1_prog _ h.sum_sz) (Ult.ifS (ine_eq _ _) (fun _ => Ult.ret) fun _ => Ult.ret)
  have e4 : ieq w.1 4 = false := by rw [ieq_eq]; exact decide_eq_false h.w4
  unfold S15 addB
  refine Ult.jn (Ult.bind (kind_spec v h.cv) (Ult.bind (kind_spec w h.cw) ?_))
  by_cases hk : kindV v ≠ kindV w
  · rw [if_pos hk]
    exact Ult.yes (by rw [ine_eq]; exact decide_eq_true hk) (Ult.yes rfl Ult.ret)
  rw [if_neg hk]
  refine Ult.no (by rw [ine_eq]; exact decide_eq_false hk) ?_
  by_cases h4 : v.1 = 4
  · have v4 : ieq v.1 4 = true := by rw [ieq_eq]; exact decide_eq_true h4
    refine Ult.yes v4 (Ult.no e4 (Ult.yes v4 ?_))
    have hlen : v.2.2.2.2.length ≤ 50 := (chk1_zero h.cv).2.2
    have es : sumV v w = (4, ⟨#[]⟩, 0, [], v.2.2.2.2.map (sumC (v0of w))) := by unfold sumV; rw [if_pos h4]
    refine Ult.forA (A := List Case) (fun _ => Nat.le_refl _) v.2.2.2.2.length (fun a j => ((j : Int), (4 : Int), (⟨#[]⟩ : ByteArray), (0 : Int), ([] : List ByteArray), a)) (fun a j => a = (v.2.2.2.2.take j).map (sumC (v0of w))) (fun _ _ => if chk1 (sumV v w) ≠ 0 then (zV1, chk1 (sumV v w)) else (sumV v w, 0)) [] (by rw [List.take_zero]; rfl) fun a j hj ha next => ?_
    dsimp only
    rw [iltL]
    by_cases hlt' : ¬ j < v.2.2.2.2.length
    · refine Ult.no (decide_eq_false hlt') ?_
      rw [List.take_of_length_le (by omega)] at ha
      subst ha
      rw [es] at fin
      rw [es]
      exact Ult.lift fin
    have hlt : j < v.2.2.2.2.length := Decidable.not_not.1 hlt'
    have hm := List.getElem_mem hlt
    refine Ult.yes (decide_eq_true hlt) (Ult.bindc (at?_nat hlt) ?_)
    have hp := psum_spec v.2.2.2.2[j].2 (v0of w) (h.smallc h4 hm) h.smallw
    have hw0 : ((w.1, w.2.1, w.2.2.1, w.2.2.2.1, (lenN w.2.2.2.2 : Nat)) : V0) = v0of w := by
      show (_, _, _, _, _) = (_, _, _, _, _)
      rw [(chk1_zero h.cw).1 h.w4]; rfl
    rw [← hw0] at hp
    refine Ult.bind (Ult.call (f := fun k => S1034 k (v.2.2.2.2[j].2, (w.1, w.2.1, w.2.2.1, w.2.2.2.1, (lenN w.2.2.2.2 : Nat)), ())) (lp_le _ _ fun _ => Nat.le_refl _) hp) ?_
    refine Ult.bindc (app?_ok (by subst ha; simp only [List.length_map, List.length_take, List.length_cons, List.length_nil]; show _ * 96 ≤ _; omega)) ?_
    rw [isucc hlt (by omega)]
    refine next _ hlt ?_
    subst ha
    rw [List.take_succ_eq_append_getElem hlt, List.map_append, hw0]
    rfl
  · have v4 : ieq v.1 4 = false := by rw [ieq_eq]; exact decide_eq_false h4
    refine Ult.no v4 (Ult.no rfl (Ult.no v4 (Ult.no e4 ?_)))
    have sv : SmallV (v0of v).2.1 (v0of v).2.2.2.1 := chkVal_small h.cv
    have hp := psum_spec (v0of v) (v0of w) sv h.smallw
    have hw0 : ((w.1, w.2.1, w.2.2.1, w.2.2.2.1, (lenN w.2.2.2.2 : Nat)) : V0) = v0of w := by
      show (_, _, _, _, _) = (_, _, _, _, _)
      rw [(chk1_zero h.cw).1 h.w4]; rfl
    have hv0 : ((v.1, v.2.1, v.2.2.1, v.2.2.2.1, (lenN v.2.2.2.2 : Nat)) : V0) = v0of v := by
      show (_, _, _, _, _) = (_, _, _, _, _)
      rw [(chk1_zero h.cv).1 h4]; rfl
    have es : sumV v w = upv (psum (v0of v) (v0of w)) := by unfold sumV; rw [if_neg h4]
    rw [← hw0, ← hv0] at hp
    refine Ult.bind (Ult.call (f := fun k => S1034 k ((v.1, v.2.1, v.2.2.1, v.2.2.2.1, (lenN v.2.2.2.2 : Nat)), (w.1, w.2.1, w.2.2.1, w.2.2.2.1, (lenN w.2.2.2.2 : Nat)), ())) (fun _ => Nat.le_refl _) hp) ?_
    rw [hv0, hw0, ← es]
    exact fin
theorem addAll_spec (v w : V1) (hv : V1Sz v) (hw : V1Sz w) (w4 : w.1 ≠ 4) : Ultk (fun k => S8 k (v, w, ())) (addA v w) := by
  unfold S8
  refine Ult.bind (two_spec v w hv hw) ?_
  unfold addA
  by_cases h1 : chk1 v ≠ 0
  · rw [if_pos h1, if_pos h1]
    exact Ult.yes (by rw [ine_eq]; exact decide_eq_true h1) Ult.ret
  rw [if_neg h1, if_neg h1]
  by_cases h2 : chk1 w ≠ 0
  · rw [if_pos h2]
    exact Ult.yes (by rw [ine_eq]; exact decide_eq_true h2) Ult.ret
  rw [if_neg h2]
  exact Ult.no (by rw [ine_eq]; exact decide_eq_false h2) (Ult.bind (add_spec v w ⟨hv, hw, Decidable.not_not.1 h1, Decidable.not_not.1 h2, w4⟩) Ult.ret)
end Go.Proofs.YtonfimidgbppeaaDoor.Ev

namespace Go.Proofs.YtonfimidgbppeaaDoor.Ev
open Go Go.RowKit
set_option linter.unusedVariables false
set_option linter.unusedSimpArgs false
theorem pairSz_of {L : List Pair} (h : WfS 32 (fun x : Pair => x.1.size ≤ 140737488351232 ∧ x.2.size ≤ 140737488351232) L) : PairSz L := ⟨h.2.1, h.2.2⟩
theorem strsSz_of {L : List ByteArray} (h : WfS 16 (fun s : ByteArray => s.size ≤ 140737488351232) L) : StrsSz L := ⟨h.2.1, h.2.2⟩
theorem same_self1 (v : V1) (h : V1Sz v) (h0 : ∀ c ∈ v.2.2.2.2, c.2.2.2.2.2 = 0) : Ultk (fun k => S7 k (v, v, ())) true := same_self v h h0
theorem ConfigChosenThenAddPure : ConfigChosenThenAddStated := by
  intro W v w C p hW hv hw hC hp
  obtain ⟨a, b, c, d, e⟩ := W
  obtain ⟨ha, hb, hc, hd, he⟩ := hW
  dsimp only at ha hb hc hd he
  have ha : SetSz a := ⟨ha.2.1, fun s hs => ⟨(ha.2.2 s hs).1, (ha.2.2 s hs).2.2.1, (ha.2.2 s hs).2.2.2⟩⟩
  have hb : CondSz b := ⟨hb.2.1, fun s hs => ⟨(hb.2.2 s hs).1, pairSz_of (hb.2.2 s hs).2.1, pairSz_of (hb.2.2 s hs).2.2⟩⟩
  have hc : PlatSz c := ⟨hc.2.1, fun s hs => ⟨(hc.2.2 s hs).1, pairSz_of (hc.2.2 s hs).2⟩⟩
  have hd : ToolSz d := ⟨hd.2.1, fun s hs => ⟨(hd.2.2 s hs).1, (hd.2.2 s hs).2.1, pairSz_of (hd.2.2 s hs).2.2.1, pairSz_of (hd.2.2 s hs).2.2.2⟩⟩
  have he : TranSz e := ⟨he.2.1, fun s hs => ⟨(he.2.2 s hs).1, pairSz_of (he.2.2 s hs).2.1, strsSz_of (he.2.2 s hs).2.2⟩⟩
  have hx : WorldSz (a, b, c, d, e) := ⟨ha, hb, hc, hd, he⟩
  have hv : V1Sz v := ⟨hv.2.1, strsSz_of hv.2.2.2.1, hv.2.2.2.2.2.1, fun q hq => by
    have := hv.2.2.2.2.2.2 q hq
    exact ⟨this.1, this.2.2.1, strsSz_of this.2.2.2.2.1⟩⟩
  have hw : V1Sz w := ⟨hw.2.1, strsSz_of hw.2.2.2.1, hw.2.2.2.2.2.1, fun q hq => by
    have := hw.2.2.2.2.2.2 q hq
    exact ⟨this.1, this.2.2.1, strsSz_of this.2.2.2.2.1⟩⟩
  have hC := pairSz_of hC
  obtain ⟨p1, p2⟩ := hp
  have p2 := pairSz_of p2
  have wk := S6_spec
  refine Ultk.some ?_
  unfold S4
  dsimp only
  by_cases w4 : w.1 = 4
  · exact Ult.yes (by rw [ieq_eq]; exact decide_eq_true w4) (Ult.bind wk Ult.ret)
  refine Ult.no (by rw [ieq_eq]; exact decide_eq_false w4) ?_
  refine Ult.bind (addAll_spec v w hv hw w4) (Ult.bind (all_prog (a, b, c, d, e) v C p hx hv hC p1 p2) (Ult.jn ?_))
  by_cases hf : (addA v w).2 = 0
  case neg => exact Ult.yes (by rw [ine_eq]; exact decide_eq_true hf) (Ult.bind wk Ult.ret)
  refine Ult.no (by rw [ine_eq]; exact decide_eq_false (fun q => q hf)) ?_
  by_cases hg : (chosenAll (a, b, c, d, e) v C p).2 = 0
  case neg => exact Ult.yes (by rw [ine_eq]; exact decide_eq_true hg) (Ult.bind wk Ult.ret)
  refine Ult.no (by rw [ine_eq]; exact decide_eq_false (fun q => q hg)) ?_
  obtain ⟨r, e1, one, e2, c1, c2, e3, e4⟩ := sum_law hx hv hC p2 w4 hf hg
  have hin : SumIn v w := ⟨hv, hw, c1, c2, w4⟩
  have hin2 : SumIn (upv r) w := ⟨v1sz_up hv one, hw, one.chk, c2, w4⟩
  have hs : V1Sz (upv (psum r (v0of w))) := by
    have := hin2.sum_sz
    have hq : addA (upv r) w = (sumV (upv r) w, 0) := by
      unfold addA at e4 ⊢
      split at e4
      · rename_i q; exact absurd one.chk q
      split at e4
      · rename_i q; exact absurd c2 q
      split at e4
      · exact absurd (show (6 : Int) = 0 from congrArg Prod.snd e4) (by decide)
      split at e4
      · rename_i q; exact absurd (congrArg Prod.snd e4) q
      · rename_i q1 q2 q3 q4
        rw [if_neg q1, if_neg q2, if_neg q3, if_neg q4]
    rw [e4] at hq
    have hq' : upv (psum r (v0of w)) = sumV (upv r) w := congrArg Prod.fst hq
    rw [hq']; exact this
  rw [e1, show (addA v w).1 = sumV v w from e2]
  refine Ult.bind (all_prog (a, b, c, d, e) (sumV v w) C p hx hin.sum_sz hC p1 p2) ?_
  rw [e3]
  refine Ult.bind (addAll_spec (upv r) w (v1sz_up hv one) hw w4) ?_
  rw [e4]
  refine Ult.yes rfl (Ult.yes rfl (Ult.bind (same_self1 _ hs (fun q hq => by cases hq)) (Ult.yes rfl (Ult.bind wk Ult.ret))))
end Go.Proofs.YtonfimidgbppeaaDoor.Ev
