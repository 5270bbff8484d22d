/- The plain laws: the first part (this session's own). No condition but those in the statements. -/
import Derived.Test.YtonfimidgbppeaaGreatDoorFPla
import Derived.Test.YtonfimidgbppeaaGreatDoorEv5
import Derived.Test.YtonfimidgbppeaaGreatDoorEvU9
import Derived.Test.YtonfimidgbppeaaGreatDoorEvD
import Derived.Test.YtonfimidgbppeaaGreatDoorEvK
import Derived.Sort.Walk0
namespace Go.Proofs.YtonfimidgbppeaaGreatDoor.Ev
open Go Go.RowKit
/-- THE ONE PURE STATEMENT. -/
def ConfigPlainMatchesSpecUptoStated : Prop := ∀ (x0 : (.agg (.pair (.slice (.agg (.pair (.str) (.slice (.str))))) (.pair (.slice (.agg (.pair (.str) (.pair (.slice (.agg (.pair (.str) (.str)))) (.slice (.agg (.pair (.str) (.str)))))))) (.pair (.slice (.agg (.pair (.str) (.slice (.agg (.pair (.str) (.str))))))) (.pair (.slice (.agg (.pair (.str) (.pair (.str) (.pair (.slice (.agg (.pair (.str) (.str)))) (.slice (.agg (.pair (.str) (.str))))))))) (.slice (.agg (.pair (.str) (.pair (.slice (.agg (.pair (.str) (.str)))) (.slice (.str)))))))))) : Kd).T) (x1 : (.agg (.pair (.str) (.pair (.str) (.slice (.agg (.pair (.str) (.agg (.pair (.int .i64) (.pair (.str) (.pair (.int .i64) (.pair (.slice (.str)) (.slice (.agg (.pair (.str) (.agg (.pair (.int .i64) (.pair (.str) (.pair (.int .i64) (.pair (.slice (.str)) (.oslice 0))))))))))))))))))) : Kd).T) (x2 : (.slice (.agg (.pair (.str) (.str))) : Kd).T) (x3 : (.agg (.pair (.str) (.slice (.agg (.pair (.str) (.str))))) : Kd).T), (fun x => (WfS 40 (fun x => (fun s => s.size ≤ 140737488351232) x.1 ∧ (WfS 16 (fun s => s.size ≤ 140737488351232)) x.2)) x.1 ∧ (fun x => (WfS 64 (fun x => (fun s => s.size ≤ 140737488351232) x.1 ∧ (fun x => (WfS 32 (fun x => (fun s => s.size ≤ 140737488351232) x.1 ∧ (fun s => s.size ≤ 140737488351232) x.2)) x.1 ∧ (WfS 32 (fun x => (fun s => s.size ≤ 140737488351232) x.1 ∧ (fun s => s.size ≤ 140737488351232) x.2)) x.2) x.2)) x.1 ∧ (fun x => (WfS 40 (fun x => (fun s => s.size ≤ 140737488351232) x.1 ∧ (WfS 32 (fun x => (fun s => s.size ≤ 140737488351232) x.1 ∧ (fun s => s.size ≤ 140737488351232) x.2)) x.2)) x.1 ∧ (fun x => (WfS 80 (fun x => (fun s => s.size ≤ 140737488351232) x.1 ∧ (fun x => (fun s => s.size ≤ 140737488351232) x.1 ∧ (fun x => (WfS 32 (fun x => (fun s => s.size ≤ 140737488351232) x.1 ∧ (fun s => s.size ≤ 140737488351232) x.2)) x.1 ∧ (WfS 32 (fun x => (fun s => s.size ≤ 140737488351232) x.1 ∧ (fun s => s.size ≤ 140737488351232) x.2)) x.2) x.2) x.2)) x.1 ∧ (WfS 64 (fun x => (fun s => s.size ≤ 140737488351232) x.1 ∧ (fun x => (WfS 32 (fun x => (fun s => s.size ≤ 140737488351232) x.1 ∧ (fun s => s.size ≤ 140737488351232) x.2)) x.1 ∧ (WfS 16 (fun s => s.size ≤ 140737488351232)) x.2) x.2)) x.2) x.2) x.2) x.2) x0 → (fun x => (fun s => s.size ≤ 140737488351232) x.1 ∧ (fun x => (fun s => s.size ≤ 140737488351232) x.1 ∧ (WfS 96 (fun x => (fun s => s.size ≤ 140737488351232) x.1 ∧ (fun x => (fun n => (Lit.int .i64 n).wf = true) x.1 ∧ (fun x => (fun s => s.size ≤ 140737488351232) x.1 ∧ (fun x => (fun n => (Lit.int .i64 n).wf = true) x.1 ∧ (fun x => (WfS 16 (fun s => s.size ≤ 140737488351232)) x.1 ∧ (WfS 96 (fun x => (fun s => s.size ≤ 140737488351232) x.1 ∧ (fun x => (fun n => (Lit.int .i64 n).wf = true) x.1 ∧ (fun x => (fun s => s.size ≤ 140737488351232) x.1 ∧ (fun x => (fun n => (Lit.int .i64 n).wf = true) x.1 ∧ (fun x => (WfS 16 (fun s => s.size ≤ 140737488351232)) x.1 ∧ (fun _ => True) x.2) x.2) x.2) x.2) x.2)) x.2) x.2) x.2) x.2) x.2)) x.2) x.2) x1 → (WfS 32 (fun x => (fun s => s.size ≤ 140737488351232) x.1 ∧ (fun s => s.size ≤ 140737488351232) x.2)) x2 → (fun x => (fun s => s.size ≤ 140737488351232) x.1 ∧ (WfS 32 (fun x => (fun s => s.size ≤ 140737488351232) x.1 ∧ (fun s => s.size ≤ 140737488351232) x.2)) x.2) x3 → kbulk (.agg (.pair (.slice (.agg (.pair (.str) (.slice (.str))))) (.pair (.slice (.agg (.pair (.str) (.pair (.slice (.agg (.pair (.str) (.str)))) (.slice (.agg (.pair (.str) (.str)))))))) (.pair (.slice (.agg (.pair (.str) (.slice (.agg (.pair (.str) (.str))))))) (.pair (.slice (.agg (.pair (.str) (.pair (.str) (.pair (.slice (.agg (.pair (.str) (.str)))) (.slice (.agg (.pair (.str) (.str))))))))) (.slice (.agg (.pair (.str) (.pair (.slice (.agg (.pair (.str) (.str)))) (.slice (.str))))))))))) x0 + kbulk (.agg (.pair (.str) (.pair (.str) (.slice (.agg (.pair (.str) (.agg (.pair (.int .i64) (.pair (.str) (.pair (.int .i64) (.pair (.slice (.str)) (.slice (.agg (.pair (.str) (.agg (.pair (.int .i64) (.pair (.str) (.pair (.int .i64) (.pair (.slice (.str)) (.oslice 0)))))))))))))))))))) x1 + kbulk (.slice (.agg (.pair (.str) (.str)))) x2 + kbulk (.agg (.pair (.str) (.slice (.agg (.pair (.str) (.str)))))) x3 ≤ 1048576 → ∃ k, S4 k (x0, x1, x2, x3, ()) = some true
end Go.Proofs.YtonfimidgbppeaaGreatDoor.Ev

namespace Go.Proofs.YtonfimidgbppeaaGreatDoor.Ev
open Go.RowKit
set_option linter.unusedVariables false

/-- from some number of rounds on; l: the least of all numbers of rounds that matter -/
def Ult {ι R : Type} (l : ι → Nat) (f : ι → Option R) (r : R) : Prop := ∃ K, ∀ i, K ≤ l i → f i = some r
variable {ι R α : Type} {l : ι → Nat}
theorem Ult.ret {r : R} : Ult l (fun _ => some r) r := ⟨0, fun _ _ => rfl⟩
theorem Ult.congr {f g : ι → Option R} {r : R} (h : Ult l f r) (e : ∀ i, g i = f i) : Ult l g r := by
  obtain ⟨K, h⟩ := h
  exact ⟨K, fun i hi => (e i).trans (h i hi)⟩
theorem Ult.bind {f : ι → Option α} {g : ι → α → Option R} {a : α} {r : R} (h : Ult l f a) (k : Ult l (fun i => g i a) r) : Ult l (fun i => bnd (f i) (g i)) r := by
  obtain ⟨K, h⟩ := h
  obtain ⟨L, k⟩ := k
  refine ⟨max K L, fun i hi => ?_⟩
  show Option.bind (f i) (g i) = some r
  rw [h i (by omega)]
  exact k i (by omega)
theorem Ult.bindc {m : Option α} {g : ι → α → Option R} {a : α} {r : R} (h : m = some a) (k : Ult l (fun i => g i a) r) : Ult l (fun i => bnd m (g i)) r := Ult.bind ⟨0, fun _ _ => h⟩ k
theorem Ult.yes {c : Bool} {f g : ι → Option R} {r : R} (hc : c = true) (h : Ult l f r) : Ult l (fun i => cnd c (f i) (g i)) r := by subst hc; exact h
theorem Ult.no {c : Bool} {f g : ι → Option R} {r : R} (hc : c = false) (h : Ult l g r) : Ult l (fun i => cnd c (f i) (g i)) r := by subst hc; exact h
theorem Ult.ite {c : Bool} {f g : ι → Option R} {r : R} (h : c = true → Ult l f r) (k : c = false → Ult l g r) : Ult l (fun i => cnd c (f i) (g i)) r := by
  cases c
  · exact Ult.no rfl (k rfl)
  · exact Ult.yes rfl (h rfl)
/-- a function's own number of rounds -/
abbrev Ultk (f : Nat → Option R) (r : R) : Prop := Ult (fun k : Nat => k) f r
theorem Ult.call {f : Nat → Option R} {r : R} {k : ι → Nat} (hk : ∀ i, l i ≤ k i) (h : Ultk f r) : Ult l (fun i => f (k i)) r := by
  obtain ⟨K, h⟩ := h
  exact ⟨K, fun i hi => h (k i) (Nat.le_trans hi (hk i))⟩
theorem Ultk.call {f : Nat → Option R} {r : R} (h : Ultk f r) : Ultk (fun k => f k) r := h
/-- the rounds of a loop, told by a number of their own -/
def lp (l : ι → Nat) (p : ι × Nat) : Nat := min (l p.1) p.2
theorem lp_le (l : ι → Nat) (k : ι → Nat) (hk : ∀ i, l i ≤ k i) : ∀ p : ι × Nat, lp l p ≤ k p.1 := fun p => Nat.le_trans (Nat.min_le_left _ _) (hk _)
variable {X : Type}
theorem Ult.loop {st : ι → (X → Option R) → X → Option R} {x : X} {r : R} {k : ι → Nat} (hk : ∀ i, l i ≤ k i) (h : Ult (lp l) (fun p => loopN p.2 (st p.1) x) r) : Ult l (fun i => loopN (k i) (st i) x) r := by
  obtain ⟨K, h⟩ := h
  refine ⟨K, fun i hi => h (i, k i) ?_⟩
  have := hk i
  show K ≤ min (l i) (k i)
  omega
theorem Ult.round {st : ι → (X → Option R) → X → Option R} {x : X} {r : R} (h : Ult (lp l) (fun p => st p.1 (loopN p.2 (st p.1)) x) r) : Ult (lp l) (fun p => loopN p.2 (st p.1) x) r := by
  obtain ⟨K, h⟩ := h
  refine ⟨K + 1, fun p hp => ?_⟩
  obtain ⟨i, n⟩ := p
  have h1 : K + 1 ≤ min (l i) n := hp
  cases n with
  | zero => omega
  | succ n =>
    have h2 := h (i, n) (show K ≤ min (l i) n by omega)
    exact h2
/-- rounds by a measure -/
theorem Ult.rounds {st : ι → (X → Option R) → X → Option R} {r : R} (I : X → Prop) (μ : X → Nat) (h : ∀ x, I x → (∀ y, I y → μ y < μ x → Ult (lp l) (fun p => loopN p.2 (st p.1) y) r) → Ult (lp l) (fun p => st p.1 (loopN p.2 (st p.1)) x) r) :
    ∀ x, I x → Ult (lp l) (fun p => loopN p.2 (st p.1) x) r := by
  intro x
  generalize hn : μ x = n
  induction n using Nat.strongRecOn generalizing x with
  | _ n ih =>
    intro hI
    refine Ult.round (h x hI fun y hy hlt => ih (μ y) (by omega) y rfl hy)

/-- a loop by an invariant and a measure -/
theorem Ult.loopI {st : ι → (X → Option R) → X → Option R} {x : X} {r : R} {k : ι → Nat} (hk : ∀ i, l i ≤ k i) (I : X → Prop) (μ : X → Nat) (h0 : I x)
    (h : ∀ x, I x → (∀ y, I y → μ y < μ x → Ult (lp l) (fun p => loopN p.2 (st p.1) y) r) → Ult (lp l) (fun p => st p.1 (loopN p.2 (st p.1)) x) r) : Ult l (fun i => loopN (k i) (st i) x) r :=
  Ult.loop hk (Ult.rounds I μ h x h0)

/-! ### total correctness: it ends, and with what is wanted -/
def Fin {ι R : Type} (l : ι → Nat) (f : ι → Option R) (Q : R → Prop) : Prop := ∃ r, Q r ∧ Ult l f r
abbrev Fink {R : Type} (f : Nat → Option R) (Q : R → Prop) : Prop := Fin (fun k : Nat => k) f Q
variable {Q : R → Prop}
theorem Fin.ret {r : R} (h : Q r) : Fin l (fun _ => some r) Q := ⟨r, h, Ult.ret⟩
theorem Fin.bind {f : ι → Option α} {g : ι → α → Option R} {Qa : α → Prop} (h : Fin l f Qa) (k : ∀ a, Qa a → Fin l (fun i => g i a) Q) : Fin l (fun i => bnd (f i) (g i)) Q := by
  obtain ⟨a, ha, h⟩ := h
  obtain ⟨r, hr, k⟩ := k a ha
  exact ⟨r, hr, Ult.bind h k⟩
theorem Fin.bindu {f : ι → Option α} {g : ι → α → Option R} {a : α} (h : Ult l f a) (k : Fin l (fun i => g i a) Q) : Fin l (fun i => bnd (f i) (g i)) Q := by
  obtain ⟨r, hr, k⟩ := k
  exact ⟨r, hr, Ult.bind h k⟩
theorem Fin.bindc {m : Option α} {g : ι → α → Option R} {a : α} (h : m = some a) (k : Fin l (fun i => g i a) Q) : Fin l (fun i => bnd m (g i)) Q := Fin.bindu ⟨0, fun _ _ => h⟩ k
theorem Fin.ite {c : Bool} {f g : ι → Option R} (h : c = true → Fin l f Q) (k : c = false → Fin l g Q) : Fin l (fun i => cnd c (f i) (g i)) Q := by
  cases c
  · exact k rfl
  · exact h rfl
theorem Fin.mono {Q' : R → Prop} {f : ι → Option R} (h : Fin l f Q) (k : ∀ r, Q r → Q' r) : Fin l f Q' := by
  obtain ⟨r, hr, h⟩ := h
  exact ⟨r, k r hr, h⟩
theorem Fin.of {f : ι → Option R} {r : R} (h : Ult l f r) (hq : Q r) : Fin l f Q := ⟨r, hq, h⟩
theorem Fin.ult {f : ι → Option R} {r : R} (h : Fin l f (fun x => x = r)) : Ult l f r := by
  obtain ⟨_, rfl, h⟩ := h
  exact h
theorem Fin.call {f : Nat → Option R} {k : ι → Nat} (hk : ∀ i, l i ≤ k i) (h : Fink f Q) : Fin l (fun i => f (k i)) Q := by
  obtain ⟨r, hr, h⟩ := h
  exact ⟨r, hr, Ult.call hk h⟩
/-- a loop by an invariant and a measure -/
theorem Fin.loopI {st : ι → (X → Option R) → X → Option R} {x : X} {k : ι → Nat} (hk : ∀ i, l i ≤ k i) (I : X → Prop) (μ : X → Nat) (h0 : I x)
    (h : ∀ x, I x → (∀ y, I y → μ y < μ x → Fin (lp l) (fun p => loopN p.2 (st p.1) y) Q) → Fin (lp l) (fun p => st p.1 (loopN p.2 (st p.1)) x) Q) : Fin l (fun i => loopN (k i) (st i) x) Q := by
  have key : ∀ (n : Nat) (x : X), μ x = n → I x → Fin (lp l) (fun p => loopN p.2 (st p.1) x) Q := by
    intro n
    induction n using Nat.strongRecOn with
    | _ n ih =>
      intro x hn hI
      obtain ⟨r, hr, hu⟩ := h x hI fun y hy hlt => ih (μ y) (by omega) y rfl hy
      exact ⟨r, hr, Ult.round hu⟩
  obtain ⟨r, hr, hu⟩ := key _ x rfl h0
  exact ⟨r, hr, Ult.loop hk hu⟩
theorem Ult.lift {f : ι → Option R} {r : R} (h : Ult l f r) : Ult (lp l) (fun q => f q.1) r := by
  obtain ⟨K, h⟩ := h
  exact ⟨K, fun q hq => h q.1 (Nat.le_trans hq (Nat.min_le_left _ _))⟩
theorem Fin.lift {f : ι → Option R} (h : Fin l f Q) : Fin (lp l) (fun q => f q.1) Q := by
  obtain ⟨r, hr, h⟩ := h
  exact ⟨r, hr, h.lift⟩
theorem Ultk.unique {f : Nat → Option R} {a b : R} (h : Ultk f a) (k : Ultk f b) : a = b := by
  obtain ⟨K, h⟩ := h
  obtain ⟨L, k⟩ := k
  have h1 := h (max K L) (Nat.le_max_left _ _)
  rw [k (max K L) (Nat.le_max_right _ _)] at h1
  exact (Option.some.inj h1).symm

/-! ### the operations -/
theorem wrap64 {n : Int} (h0 : -9223372036854775808 ≤ n) (h1 : n ≤ 9223372036854775807) : IntKind.i64.wrap n = n := by
  rw [IntKind.wrap_i64]; omega
theorem iadd64 {a b : Int} (h0 : -9223372036854775808 ≤ a + b) (h1 : a + b ≤ 9223372036854775807) : iadd .i64 a b = a + b := wrap64 h0 h1
theorem isub64 {a b : Int} (h0 : -9223372036854775808 ≤ a - b) (h1 : a - b ≤ 9223372036854775807) : isub .i64 a b = a - b := wrap64 h0 h1
theorem at?_nat {l : List α} {i : Nat} (h : i < l.length) : at? l (i : Int) = some l[i] := by
  unfold at?
  rw [if_pos (Int.natCast_nonneg _), Int.toNat_natCast, List.getElem?_eq_getElem h]
theorem bt?_nat {s : ByteArray} {i : Nat} (h : i < s.size) : bt? s (i : Int) = some (bt s (i : Int)) := by
  unfold bt?
  rw [if_pos ⟨Int.natCast_nonneg _, by omega⟩]
theorem len_def {l : List α} : len l = (l.length : Int) := rfl

end Go.Proofs.YtonfimidgbppeaaGreatDoor.Ev

namespace Go.Proofs.YtonfimidgbppeaaGreatDoor.Ev
open Go Go.RowKit
set_option linter.unusedVariables false
set_option linter.unusedSimpArgs false
variable {ι R X A α β : Type} {l : ι → Nat}

/-- a loop by an index and what is gathered; 'res': what comes of it from there on -/
theorem Ult.forA {st : ι → (X → Option R) → X → Option R} {k : ι → Nat} (hk : ∀ i, l i ≤ k i) (n : Nat) (mk : A → Nat → X) (I : A → Nat → Prop) (res : A → Nat → R) (a0 : A) (h0 : I a0 0)
    (h : ∀ a j, j ≤ n → I a j → (∀ a', j < n → I a' (j + 1) → Ult (lp l) (fun p => loopN p.2 (st p.1) (mk a' (j + 1))) (res a' (j + 1))) → Ult (lp l) (fun p => st p.1 (loopN p.2 (st p.1)) (mk a j)) (res a j)) :
    Ult l (fun i => loopN (k i) (st i) (mk a0 0)) (res a0 0) := by
  have key : ∀ (d j : Nat) (a : A), n - j = d → j ≤ n → I a j → Ult (lp l) (fun p => loopN p.2 (st p.1) (mk a j)) (res a j) := by
    intro d
    induction d with
    | zero => intro j a hd hj hI; exact Ult.round (h a j hj hI fun a' hlt _ => by omega)
    | succ d ih => intro j a hd hj hI; exact Ult.round (h a j hj hI fun a' hlt hI' => ih (j + 1) a' (by omega) (by omega) hI')
  exact Ult.loop hk (key n 0 a0 (by omega) (Nat.zero_le _) h0)
theorem Ult.forI {st : ι → (Int → Option R) → Int → Option R} {k : ι → Nat} (hk : ∀ i, l i ≤ k i) (n : Nat) (res : Nat → R)
    (h : ∀ j, j ≤ n → (j < n → Ult (lp l) (fun p => loopN p.2 (st p.1) ((j + 1 : Nat) : Int)) (res (j + 1))) → Ult (lp l) (fun p => st p.1 (loopN p.2 (st p.1)) (j : Int)) (res j)) :
    Ult l (fun i => loopN (k i) (st i) 0) (res 0) :=
  Ult.forA (A := Unit) hk n (fun _ j => (j : Int)) (fun _ _ => True) (fun _ j => res j) () trivial fun _ j hj _ hn => h j hj fun hlt => hn () hlt trivial
theorem Ult.jn {f : ι → (X → Option R) → Option R} {g : ι → X → Option R} {r : R} (h : Ult l (fun i => f i (g i)) r) : Ult l (fun i => jn (f i) (g i)) r := h
theorem Ult.eq {f : ι → Option R} {r r' : R} (h : Ult l f r) (e : r = r') : Ult l f r' := e ▸ h
theorem Ult.iteS {c : Bool} {f g : ι → Option R} {r r' : R} (h : c = true → Ult l f r) (k : c = false → Ult l g r') : Ult l (fun i => cnd c (f i) (g i)) (if c then r else r') := by
  cases c
  · exact Ult.no rfl (k rfl)
  · exact Ult.yes rfl (h rfl)
theorem Ult.ifS {c : Bool} {p : Prop} [Decidable p] (e : c = decide p) {f g : ι → Option R} {r r' : R} (h : p → Ult l f r) (k : ¬ p → Ult l g r') : Ult l (fun i => cnd c (f i) (g i)) (if p then r else r') := by
  subst e
  by_cases hp : p
  · rw [if_pos hp]; exact Ult.yes (decide_eq_true hp) (h hp)
  · rw [if_neg hp]; exact Ult.no (decide_eq_false hp) (k hp)

/-! ### operations -/
theorem seq_eq (a b : ByteArray) : seq a b = decide (a = b) := by
  unfold seq
  by_cases h : a = b
  · subst h; simp
  · rw [decide_eq_false h, beq_eq_false_iff_ne]
    intro e
    refine h ?_
    rw [ByteArray.toList_eq, ByteArray.toList_eq] at e
    obtain ⟨⟨x⟩⟩ := a
    obtain ⟨⟨y⟩⟩ := b
    simpa using e
theorem sne_eq (a b : ByteArray) : sne a b = decide (a ≠ b) := by
  have := seq_eq a b
  unfold seq at this
  unfold sne
  rw [this]
  by_cases h : a = b <;> simp [h]
theorem ieq_eq (a b : Int) : ieq a b = decide (a = b) := by
  unfold ieq
  by_cases h : a = b <;> simp [h]
theorem ine_eq (a b : Int) : ine a b = decide (a ≠ b) := by
  unfold ine
  by_cases h : a = b <;> simp [h]
theorem igt_eq (a b : Int) : igt a b = decide (b < a) := rfl
theorem ige_eq (a b : Int) : ige a b = decide (b ≤ a) := rfl
theorem ilt_eq (a b : Int) : ilt a b = decide (a < b) := rfl
theorem ile_eq (a b : Int) : ile a b = decide (a ≤ b) := rfl
theorem bnot_eq (a : Bool) : bnot a = !a := rfl
theorem iltL (j : Nat) (l : List α) : ilt (j : Int) (len l) = decide (j < l.length) := by
  unfold ilt len
  by_cases h : j < l.length
  · rw [decide_eq_true h, decide_eq_true (by omega)]
  · rw [decide_eq_false h, decide_eq_false (by omega)]
theorem igt0 (j : Nat) : igt (j : Int) 0 = decide (0 < j) := by
  unfold igt
  by_cases h : 0 < j
  · rw [decide_eq_true h, decide_eq_true (by omega)]
  · rw [decide_eq_false h, decide_eq_false (by omega)]
theorem isucc {j n : Nat} (h : j < n) (hn : n ≤ 9223372036854775807) : iadd .i64 (j : Int) 1 = ((j + 1 : Nat) : Int) := by rw [iadd64 (by omega) (by omega)]; rfl
theorem ipred {j n : Nat} (h0 : 0 < j) (h : j ≤ n) (hn : n ≤ 9223372036854775807) : isub .i64 (j : Int) 1 = ((j - 1 : Nat) : Int) := by rw [isub64 (by omega) (by omega)]; omega
theorem app?_ok {b : Nat} {l r : List α} (h : (l.length + r.length) * (max b 1) ≤ 140737488355328) : app? b l r = some (l ++ r) := by unfold app?; rw [if_pos h]
theorem cat?_ok {a b : ByteArray} (h : a.size + b.size ≤ 9223372036854775807) : cat? a b = some (a ++ b) := by unfold cat?; rw [if_pos h]
theorem cut?_take {l : List α} {j : Nat} (h : j ≤ l.length) : cut? l 0 (j : Int) = some (l.take j) := by
  unfold cut?
  rw [if_pos ⟨Int.le_refl _, by omega, by omega⟩]
  simp
theorem kbeq_pair (a b : ByteArray × ByteArray) : kbeq (.agg (.pair .str .str)) a b = decide (a = b) := by
  show (seq a.1 b.1 && seq a.2 b.2) = _
  rw [seq_eq, seq_eq]
  by_cases h1 : a.1 = b.1 <;> by_cases h2 : a.2 = b.2 <;> simp [h1, h2, Prod.ext_iff]
theorem drop_cons {l : List α} {j : Nat} (h : j < l.length) : l.drop j = l[j] :: l.drop (j + 1) := List.drop_eq_getElem_cons h

/-! ### strings in order -/
def lt (a b : ByteArray) : Prop := a.data.toList < b.data.toList
theorem slt_eq (a b : ByteArray) : slt a b = decide (a.data.toList < b.data.toList) := by
  unfold slt
  rw [ByteArray.toList_eq, ByteArray.toList_eq]
  exact bytesLess_eq _ _
theorem bytes_ext {a b : ByteArray} (h : a.data.toList = b.data.toList) : a = b := by
  obtain ⟨⟨x⟩⟩ := a
  obtain ⟨⟨y⟩⟩ := b
  simpa using h
theorem sle_eq (a b : ByteArray) : sle a b = decide (¬ b.data.toList < a.data.toList) := by
  have h : sle a b = (Op.bytesLess a.toList b.toList || a.toList == b.toList) := rfl
  rw [h, ByteArray.toList_eq, ByteArray.toList_eq, bytesLess_eq]
  by_cases h1 : a.data.toList < b.data.toList
  · simp [h1, List.lt_asymm h1]
  · by_cases h2 : a.data.toList = b.data.toList
    · rw [h2]; simp [List.lt_irrefl]
    · have h3 : b.data.toList < a.data.toList := by
        rcases List.le_total a.data.toList b.data.toList with q | q
        · rcases List.le_iff_lt_or_eq.1 q with q | q
          · exact absurd q h1
          · exact absurd q h2
        · rcases List.le_iff_lt_or_eq.1 q with q | q
          · exact q
          · exact absurd q.symm h2
      have h4 : ¬ a.data = b.data := fun e => h2 (by rw [e])
      simp [h1, h4, h3]
end Go.Proofs.YtonfimidgbppeaaGreatDoor.Ev

namespace Go.Proofs.YtonfimidgbppeaaGreatDoor.Ev
open Go Go.RowKit
set_option linter.unusedVariables false
set_option linter.unusedSimpArgs false
theorem bt_get {s : ByteArray} {j : Nat} (h : j < s.size) : bt s (j : Int) = ((s.data.toList[j]'(by simpa using h)).toNat : Int) := by
  unfold bt
  rw [dif_pos (by simpa using h)]
  simp [ByteArray.getElem_eq_getElem_data]
theorem bt?_get {s : ByteArray} {j : Nat} (h : j < s.size) : bt? s (j : Int) = some (bt s (j : Int)) := by unfold bt?; rw [if_pos ⟨Int.natCast_nonneg _, by omega⟩]
theorem toList_len (s : ByteArray) : s.data.toList.length = s.size := by simp
theorem iltS (j : Nat) (s : ByteArray) : ilt (j : Int) (ssz s) = decide (j < s.size) := by
  unfold ilt ssz
  by_cases h : j < s.size
  · rw [decide_eq_true h, decide_eq_true (by omega)]
  · rw [decide_eq_false h, decide_eq_false (by omega)]
/-- a byte of a word -/
def wc (c : Int) : Bool := decide (97 ≤ c ∧ c ≤ 122) || decide (48 ≤ c ∧ c ≤ 57) || decide (c = 45) || decide (c = 95)
def allW (l : List UInt8) : Bool := l.all fun b => wc (b.toNat : Int)
def isWord (s : ByteArray) : Bool := decide (1 ≤ s.size ∧ s.size ≤ 40) && (decide (97 ≤ bt s 0 ∧ bt s 0 ≤ 122) && allW s.data.toList)
theorem isWord_size {s : ByteArray} (h : isWord s = true) : 1 ≤ s.size ∧ s.size ≤ 40 := by
  simp only [isWord, Bool.and_eq_true, decide_eq_true_eq] at h
  exact h.1
theorem isWord_all {s : ByteArray} (h : isWord s = true) : allW s.data.toList = true := by
  simp only [isWord, Bool.and_eq_true, decide_eq_true_eq] at h
  exact h.2.2
def wset : List UInt8 := [97, 98, 99, 100, 101, 102, 103, 104, 105, 106, 107, 108, 109, 110, 111, 112, 113, 114, 115, 116, 117, 118, 119, 120, 121, 122, 48, 49, 50, 51, 52, 53, 54, 55, 56, 57, 95, 45]
theorem wset_mem (b : UInt8) : wset.contains b = wc (b.toNat : Int) := by
  have key : ∀ n : _root_.Fin 256, wset.contains (UInt8.ofNat n.1) = wc ((UInt8.ofNat n.1).toNat : Int) := by decide +kernel
  have := key ⟨b.toNat, b.toNat_lt⟩
  simpa using this
theorem dropWhile_nil {α : Type} {p : α → Bool} : ∀ {l : List α}, l.dropWhile p = [] ↔ ∀ x ∈ l, p x = true
  | [] => by simp
  | a :: l => by
    cases h : p a with
    | true => simp [List.dropWhile, h, dropWhile_nil (l := l)]
    | false => simp [List.dropWhile, h]
theorem trimS_nil (l cs : List UInt8) : (Lib.trimS l cs = []) ↔ ∀ b ∈ l, cs.contains b = true := by
  unfold Lib.trimS Lib.trimLeftS Lib.trimRightS
  constructor
  · intro h
    rw [dropWhile_nil] at h
    have h2 : l.reverse.dropWhile (cs.contains ·) = [] := by
      cases hd : l.reverse.dropWhile (cs.contains ·) with
      | nil => rfl
      | cons a r =>
        have h3 := h a (by rw [hd]; simp)
        have h4 : ((l.reverse.dropWhile (cs.contains ·)).head?).all (fun x => !(cs.contains x)) = true := by
          have := List.head?_dropWhile_not (cs.contains ·) l.reverse
          rw [hd] at this ⊢
          simpa using this
        rw [hd] at h4
        simp only [List.head?_cons, Option.all_some, Bool.not_eq_true'] at h4
        rw [h4] at h3; cases h3
    rw [dropWhile_nil] at h2
    intro b hb
    exact h2 b (by simpa using hb)
  · intro h
    have h2 : l.reverse.dropWhile (cs.contains ·) = [] := by
      rw [dropWhile_nil]
      intro b hb
      exact h b (by simpa using hb)
    rw [h2]; rfl
theorem all_contains (l : List UInt8) : (∀ b ∈ l, wset.contains b = true) ↔ allW l = true := by
  unfold allW
  rw [List.all_eq_true]
  exact ⟨fun h b hb => by rw [← wset_mem]; exact h b hb, fun h b hb => by rw [wset_mem]; exact h b hb⟩
/-- config.IsWord -/
theorem S113_spec (s : ByteArray) (hs : s.size ≤ 9223372036854775807) : Ultk (fun k => S113 k (s, ())) (isWord s) := by
  unfold S113 isWord
  refine Ult.jn ?_
  dsimp only
  by_cases h1 : s.size < 1
  · refine Ult.yes (by simp only [ilt_eq, ssz, decide_eq_true_eq]; omega) (Ult.yes rfl (Ult.ret.eq ?_))
    rw [decide_eq_false (by omega)]; rfl
  refine Ult.no (by simp only [ilt_eq, ssz, decide_eq_false_iff_not]; omega) ?_
  by_cases h2 : 40 < s.size
  · refine Ult.yes (by simp only [igt_eq, ssz, decide_eq_true_eq]; omega) (Ult.yes rfl (Ult.ret.eq ?_))
    rw [decide_eq_false (by omega)]; rfl
  refine Ult.no (by simp only [igt_eq, ssz, decide_eq_false_iff_not]; omega) ?_
  have h0 : bt? s 0 = some (bt s 0) := bt?_get (j := 0) (by omega)
  rw [decide_eq_true (show 1 ≤ s.size ∧ s.size ≤ 40 by omega), Bool.true_and]
  refine Ult.bindc h0 ?_
  by_cases h3 : bt s 0 < 97
  · refine Ult.yes (decide_eq_true h3) (Ult.yes rfl (Ult.ret.eq ?_))
    rw [decide_eq_false (by omega)]; rfl
  refine Ult.no (decide_eq_false h3) (Ult.bindc h0 ?_)
  by_cases h4 : 122 < bt s 0
  · refine Ult.yes (decide_eq_true h4) (Ult.ret.eq ?_)
    rw [decide_eq_false (by omega)]; rfl
  refine Ult.no (decide_eq_false h4) ?_
  rw [decide_eq_true (show 97 ≤ bt s 0 ∧ bt s 0 ≤ 122 by omega), Bool.true_and]
  have hc : (⟨#[97, 98, 99, 100, 101, 102, 103, 104, 105, 106, 107, 108, 109, 110, 111, 112, 113, 114, 115, 116, 117, 118, 119, 120, 121, 122, 48, 49, 50, 51, 52, 53, 54, 55, 56, 57, 95, 45]⟩ : ByteArray).data.toList = wset := rfl
  have ht : ∀ k, S157 k (s, (⟨#[97, 98, 99, 100, 101, 102, 103, 104, 105, 106, 107, 108, 109, 110, 111, 112, 113, 114, 115, 116, 117, 118, 119, 120, 121, 122, 48, 49, 50, 51, 52, 53, 54, 55, 56, 57, 95, 45]⟩ : ByteArray), ()) = some ⟨(Lib.trimS s.data.toList wset).toArray⟩ := fun k => by
    show trimF s (⟨#[97, 98, 99, 100, 101, 102, 103, 104, 105, 106, 107, 108, 109, 110, 111, 112, 113, 114, 115, 116, 117, 118, 119, 120, 121, 122, 48, 49, 50, 51, 52, 53, 54, 55, 56, 57, 95, 45]⟩ : ByteArray) = _
    unfold trimF
    rw [if_pos ⟨hs, by decide, by decide⟩, hc]
  refine Ult.bind ⟨0, fun k _ => ht k⟩ (Ult.ret.eq ?_)
  rw [seq_eq]
  by_cases h5 : allW s.data.toList = true
  · rw [h5]
    refine decide_eq_true ?_
    rw [(trimS_nil _ _).2 ((all_contains _).2 h5)]
  · rw [Bool.not_eq_true] at h5
    rw [h5]
    refine decide_eq_false fun e => ?_
    have : Lib.trimS s.data.toList wset = [] := by
      have := congrArg (fun b : ByteArray => b.data.toList) e
      simpa using this
    rw [trimS_nil, all_contains, h5] at this
    cases this
theorem wc_tree {R : Type} (c : Int) (J : Bool → Option R) : cnd (ilt c 97) (cnd (ilt c 48) (cnd (ine c 45) (J (ine c 95)) (J false)) (cnd (igt c 57) (cnd (ine c 45) (J (ine c 95)) (J false)) (J false))) (cnd (igt c 122) (cnd (ilt c 48) (cnd (ine c 45) (J (ine c 95)) (J false)) (cnd (igt c 57) (cnd (ine c 45) (J (ine c 95)) (J false)) (J false))) (J false)) = J (!wc c) := by
  rcases (by omega : c = 95 ∨ c = 45 ∨ (c < 48 ∧ c ≠ 45) ∨ (48 ≤ c ∧ c ≤ 57) ∨ (58 ≤ c ∧ c < 97 ∧ c ≠ 95) ∨ (97 ≤ c ∧ c ≤ 122) ∨ 122 < c) with h | h | h | h | h | h | h <;>
    simp (disch := omega) only [ilt_eq, igt_eq, ine_eq, wc, cnd, decide_eq_true, decide_eq_false, cond_true, cond_false, Bool.or_true, Bool.or_false, Bool.not_true, Bool.not_false, Bool.true_or, Bool.false_or]
/-- smithyardref3.IsWord -/
theorem S115_spec (s : ByteArray) (hs : s.size ≤ 9223372036854775807) : Ultk (fun k => S115 k (s, ())) (isWord s) := by
  unfold S115 isWord
  refine Ult.jn ?_
  dsimp only
  have h100 : Ultk (fun k => S132 k (ssz s, 1, 40, ())) (decide (1 ≤ s.size ∧ s.size ≤ 40)) := by
    unfold S132
    by_cases h1 : 1 ≤ s.size
    · refine Ult.yes (by simp only [ile_eq, ssz, decide_eq_true_eq]; omega) (Ult.ret.eq ?_)
      simp only [ile_eq, ssz]
      by_cases h2 : s.size ≤ 40
      · rw [decide_eq_true (by omega), decide_eq_true ⟨h1, h2⟩]
      · rw [decide_eq_false (by omega), decide_eq_false (by omega)]
    · refine Ult.no (by simp only [ile_eq, ssz, decide_eq_false_iff_not]; omega) (Ult.ret.eq ?_)
      rw [decide_eq_false (by omega)]
  refine Ult.bind h100 ?_
  by_cases h1' : ¬ (1 ≤ s.size ∧ s.size ≤ 40)
  · rw [decide_eq_false h1']
    exact Ult.yes rfl Ult.ret
  have h1 : 1 ≤ s.size ∧ s.size ≤ 40 := Decidable.not_not.1 h1'
  rw [decide_eq_true h1]
  refine Ult.no rfl ?_
  have h0 : bt? s 0 = some (bt s 0) := bt?_get (j := 0) (by omega)
  refine Ult.bindc h0 ?_
  rw [Bool.true_and]
  by_cases h3 : bt s 0 < 97
  · refine Ult.yes (decide_eq_true h3) (Ult.ret.eq ?_)
    rw [decide_eq_false (by omega)]; rfl
  refine Ult.no (decide_eq_false h3) (Ult.bindc h0 ?_)
  by_cases h4 : 122 < bt s 0
  · refine Ult.yes (decide_eq_true h4) (Ult.ret.eq ?_)
    rw [decide_eq_false (by omega)]; rfl
  refine Ult.no (decide_eq_false h4) ?_
  rw [decide_eq_true (show 97 ≤ bt s 0 ∧ bt s 0 ≤ 122 by omega), Bool.true_and]
  refine (Ult.forI (fun _ => Nat.le_refl _) s.size (fun j => allW (s.data.toList.drop j)) fun j hj next => ?_).eq (by rw [List.drop_zero])
  rw [iltS]
  by_cases hlt' : ¬ j < s.size
  · refine Ult.no (decide_eq_false hlt') (Ult.ret.eq ?_)
    rw [List.drop_eq_nil_of_le (by simp; omega)]; rfl
  have hlt : j < s.size := Decidable.not_not.1 hlt'
  refine Ult.yes (decide_eq_true hlt) (Ult.bindc (bt?_get hlt) ?_)
  have hd : allW (s.data.toList.drop j) = (wc (bt s (j : Int)) && allW (s.data.toList.drop (j + 1))) := by
    rw [drop_cons (show j < s.data.toList.length by simpa using hlt), bt_get hlt]; rfl
  rw [isucc hlt hs, hd]
  generalize bt s (j : Int) = c
  refine Ult.jn ?_
  dsimp only
  rw [show (fun p : Nat × Nat => _) = _ from funext fun p => wc_tree c fun a6 => cnd a6 (some false) (loopN p.2 _ ((j + 1 : Nat) : Int))]
  cases h : wc c
  · exact Ult.yes rfl Ult.ret
  · rw [Bool.true_and]; exact Ult.no rfl (next hlt)
end Go.Proofs.YtonfimidgbppeaaGreatDoor.Ev

namespace Go.Proofs.YtonfimidgbppeaaGreatDoor.Ev
open Go Go.RowKit
set_option linter.unusedVariables false
set_option linter.unusedSimpArgs false
variable {ι : Type} {l : ι → Nat} {α : Type}
abbrev Setting : Type := ByteArray × List ByteArray
abbrev Pair : Type := ByteArray × ByteArray

/-! ### searches -/
/-- the place of the first that is wanted, or -1 -/
def idxF (p : α → Bool) : Nat → List α → Int
  | _, [] => -1
  | j, a :: r => if p a = true then (j : Int) else idxF p (j + 1) r
theorem idxF_cases (p : α → Bool) : ∀ (j : Nat) (L : List α), (idxF p j L = -1 ∧ L.find? p = none) ∨ ∃ (i : Nat) (h : i < L.length), idxF p j L = ((j + i : Nat) : Int) ∧ L.find? p = some L[i] ∧ p L[i] = true
  | j, [] => .inl ⟨rfl, rfl⟩
  | j, a :: r => by
    cases h : p a with
    | true => exact .inr ⟨0, by simp, by simp [idxF, h], by simp [h], by simpa using h⟩
    | false =>
      rcases idxF_cases p (j + 1) r with ⟨h1, h2⟩ | ⟨i, hi, h1, h2, h3⟩
      · exact .inl ⟨by simp [idxF, h, h1], by simp [h, h2]⟩
      · exact .inr ⟨i + 1, by simpa using hi, by simp only [idxF, h, Bool.false_eq_true, if_false, h1]; congr 1; omega, by simp [h, h2], by simpa using h3⟩
theorem idxF_neg {p : α → Bool} {L : List α} : idxF p 0 L < 0 ↔ L.find? p = none := by
  rcases idxF_cases p 0 L with ⟨h1, h2⟩ | ⟨i, hi, h1, h2, h3⟩
  · simp [h1, h2]
  · rw [h1, h2]
    constructor
    · intro h; omega
    · intro h; cases h
theorem idxF_at {p : α → Bool} {L : List α} {a : α} (h : L.find? p = some a) : at? L (idxF p 0 L) = some a ∧ 0 ≤ idxF p 0 L := by
  rcases idxF_cases p 0 L with ⟨h1, h2⟩ | ⟨i, hi, h1, h2, h3⟩
  · rw [h2] at h; cases h
  · rw [h1, Nat.zero_add, at?_nat hi, ← h2, h]
    exact ⟨rfl, Int.natCast_nonneg _⟩
theorem len_big {b : Nat} {L : List α} (h : L.length * b ≤ 140737488351232) (hb : 0 < b) : L.length ≤ 140737488351232 := by
  have : L.length * 1 ≤ L.length * b := Nat.mul_le_mul_left _ hb
  omega
theorem S106_spec (L : List ByteArray) (x : ByteArray) (hL : L.length ≤ 9223372036854775807) : Ultk (fun k => S106 k (L, x, ())) (idxF (fun a => decide (x = a)) 0 L) := by
  unfold S106
  refine (Ult.forI (fun _ => Nat.le_refl _) L.length (fun j => idxF (fun a => decide (x = a)) j (L.drop j)) fun j hj next => ?_).eq (by rw [List.drop_zero])
  dsimp only
  rw [iltL]
  by_cases hlt' : ¬ j < L.length
  · refine Ult.no (decide_eq_false hlt') (Ult.ret.eq ?_)
    rw [List.drop_eq_nil_of_le (by omega)]; rfl
  have hlt : j < L.length := Decidable.not_not.1 hlt'
  refine Ult.yes (decide_eq_true hlt) (Ult.bindc (at?_nat hlt) ?_)
  rw [drop_cons hlt, idxF, isucc hlt hL]
  exact Ult.ifS (by rw [seq_eq]; simp) (fun h => Ult.ret) (fun h => next hlt)
theorem any_mem (L : List ByteArray) (x : ByteArray) : (L.find? (fun a => decide (x = a)) = none) ↔ x ∉ L := by
  rw [List.find?_eq_none]
  constructor
  · intro h hx; exact h x hx (by simp)
  · intro h a ha e
    have e := of_decide_eq_true e
    exact h (e ▸ ha)
def memB (L : List ByteArray) (x : ByteArray) : Bool := L.any fun a => decide (x = a)
theorem memB_iff {L : List ByteArray} {x : ByteArray} : memB L x = true ↔ x ∈ L := by
  unfold memB
  rw [List.any_eq_true]
  exact ⟨fun ⟨a, ha, e⟩ => of_decide_eq_true e ▸ ha, fun h => ⟨x, h, decide_eq_true rfl⟩⟩
theorem S61_spec (L : List ByteArray) (x : ByteArray) (hL : L.length ≤ 9223372036854775807) : Ultk (fun k => S61 k (L, x, ())) (memB L x) := by
  unfold S61
  refine Ult.bind (S106_spec L x hL) (Ult.ret.eq ?_)
  rw [ige_eq]
  by_cases h : x ∈ L
  · rw [memB_iff.2 h]
    refine decide_eq_true ?_
    rcases Int.lt_or_le (idxF (fun a => decide (x = a)) 0 L) 0 with q | q
    · exact absurd h ((any_mem _ _).1 (idxF_neg.1 q))
    · exact q
  · have h' : memB L x = false := by
      cases hb : memB L x with
      | false => rfl
      | true => exact absurd (memB_iff.1 hb) h
    rw [h']
    have := idxF_neg.2 ((any_mem L x).2 h)
    exact decide_eq_false (by omega)
/-- slices.IndexFunc at settings -/
theorem S103_spec {kk : ι → Nat} (hk : ∀ i, l i ≤ kk i) (L : List Setting) (f : ι → Setting → Option Bool) (p : Setting → Bool) (hf : ∀ a, Ult l (fun i => f i a) (p a)) (hL : L.length ≤ 9223372036854775807) :
    Ult l (fun i => S103 (kk i) (L, f i, ())) (idxF p 0 L) := by
  unfold S103
  refine (Ult.forI hk L.length (fun j => idxF p j (L.drop j)) fun j hj next => ?_).eq (by rw [List.drop_zero])
  dsimp only
  rw [iltL]
  by_cases hlt' : ¬ j < L.length
  · refine Ult.no (decide_eq_false hlt') (Ult.ret.eq ?_)
    rw [List.drop_eq_nil_of_le (by omega)]; rfl
  have hlt : j < L.length := Decidable.not_not.1 hlt'
  refine Ult.yes (decide_eq_true hlt) (Ult.bindc (at?_nat hlt) (Ult.bind (hf _).lift ?_))
  rw [drop_cons hlt, idxF, isucc hlt hL]
  exact Ult.ifS (by simp) (fun h => Ult.ret) (fun h => next hlt)
/-- the first setting of a name -/
def look (L : List (ByteArray × α)) (n : ByteArray) : Option (ByteArray × α) := L.find? fun s => decide (s.1 = n)
theorem look_name {L : List (ByteArray × α)} {n : ByteArray} {s : ByteArray × α} (h : look L n = some s) : s ∈ L ∧ s.1 = n := by
  unfold look at h
  exact ⟨List.mem_of_find?_eq_some h, of_decide_eq_true (List.find?_some (p := fun s : ByteArray × α => decide (s.1 = n)) h)⟩
def idxN (L : List (ByteArray × α)) (n : ByteArray) : Int := idxF (fun s => decide (s.1 = n)) 0 L
theorem S59_spec (L : List Setting) (n : ByteArray) (hL : L.length ≤ 9223372036854775807) : Ultk (fun k => S59 k (L, n, ())) (idxN L n) := by
  unfold S59
  have h := S103_spec (l := fun k => k) (fun _ => Nat.le_refl _) L (fun k a => S104 k (a, n, ())) (fun s => decide (s.1 = n)) (fun a => Ult.ret.eq (seq_eq _ _)) hL
  exact Ult.bind h Ult.ret
def lookS (L : List Setting) (n : ByteArray) : Setting × Bool := match look L n with
  | some s => (s, true)
  | none => ((⟨#[]⟩, []), false)
theorem S114_spec (L : List Setting) (n : ByteArray) (hL : L.length ≤ 9223372036854775807) : Ultk (fun k => S114 k (L, n, ())) (lookS L n) := by
  unfold S114
  refine (Ult.forA (A := Unit) (fun _ => Nat.le_refl _) L.length (fun _ j => ((j : Int), (⟨#[]⟩ : ByteArray), ([] : List ByteArray))) (fun _ _ => True) (fun _ j => lookS (L.drop j) n) () trivial fun _ j hj _ next => ?_).eq (by rw [List.drop_zero])
  dsimp only
  rw [iltL]
  by_cases hlt' : ¬ j < L.length
  · refine Ult.no (decide_eq_false hlt') (Ult.ret.eq ?_)
    rw [List.drop_eq_nil_of_le (by omega)]; rfl
  have hlt : j < L.length := Decidable.not_not.1 hlt'
  refine Ult.yes (decide_eq_true hlt) (Ult.bindc (at?_nat hlt) ?_)
  have e : lookS (L.drop j) n = if L[j].1 = n then (L[j], true) else lookS (L.drop (j + 1)) n := by
    rw [drop_cons hlt]
    unfold lookS look
    by_cases h : L[j].1 = n
    · rw [if_pos h, List.find?_cons_of_pos (by simpa using h)]
    · rw [if_neg h, List.find?_cons_of_neg (by simpa using h)]
  rw [e, isucc hlt hL]
  exact Ult.ifS (seq_eq _ _) (fun h => Ult.ret) (fun h => next () hlt trivial)
def lookV (L : List Pair) (n : ByteArray) : ByteArray × Bool := match look L n with
  | some s => (s.2, true)
  | none => (⟨#[]⟩, false)
theorem S105_spec (L : List Pair) (n : ByteArray) (hL : L.length ≤ 9223372036854775807) : Ultk (fun k => S105 k (L, n, ())) (lookV L n) := by
  unfold S105
  refine (Ult.forI (fun _ => Nat.le_refl _) L.length (fun j => lookV (L.drop j) n) fun j hj next => ?_).eq (by rw [List.drop_zero])
  dsimp only
  rw [iltL]
  by_cases hlt' : ¬ j < L.length
  · refine Ult.no (decide_eq_false hlt') (Ult.ret.eq ?_)
    rw [List.drop_eq_nil_of_le (by omega)]; rfl
  have hlt : j < L.length := Decidable.not_not.1 hlt'
  refine Ult.yes (decide_eq_true hlt) (Ult.bindc (at?_nat hlt) ?_)
  have e : lookV (L.drop j) n = if L[j].1 = n then (L[j].2, true) else lookV (L.drop (j + 1)) n := by
    rw [drop_cons hlt]
    unfold lookV look
    by_cases h : L[j].1 = n
    · rw [if_pos h, List.find?_cons_of_pos (by simpa using h)]
    · rw [if_neg h, List.find?_cons_of_neg (by simpa using h)]
  rw [e, isucc hlt hL]
  exact Ult.ifS (seq_eq _ _) (fun h => Ult.ret) (fun h => next hlt)

/-! ### settings -/
/-- not above the one before -/
def notAbove (prev : Option ByteArray) (n : ByteArray) : Bool := match prev with
  | none => false
  | some m => sle n m
def chkVals : List ByteArray → List ByteArray → Int
  | _, [] => 0
  | seen, v :: r => if isWord v = false then 5 else if memB seen v = true then 7 else chkVals (seen ++ [v]) r
def chkSets : Option ByteArray → List Setting → Int
  | _, [] => 0
  | prev, s :: r => if isWord s.1 = false then 5 else if s.2 = [] then 9 else if 20 < s.2.length then 2 else if chkVals [] s.2 ≠ 0 then chkVals [] s.2 else if notAbove prev s.1 = true then 8 else chkSets (some s.1) r
def chkSettings (L : List Setting) : Int := if 30 < L.length then 2 else chkSets none L
def prevOf (L : List (ByteArray × α)) (j : Nat) : Option ByteArray := if h : 0 < j ∧ j - 1 < L.length then some (L[j - 1]'h.2).1 else none
theorem prevOf_zero (L : List (ByteArray × α)) : prevOf L 0 = none := rfl
theorem prevOf_succ {L : List (ByteArray × α)} {j : Nat} (h : j < L.length) : prevOf L (j + 1) = some L[j].1 := by unfold prevOf; rw [dif_pos ⟨Nat.succ_pos _, by simpa using h⟩]; simp
/-- sizes of settings as they come -/
def SetSz (L : List Setting) : Prop := L.length * 40 ≤ 140737488351232 ∧ ∀ s ∈ L, s.1.size ≤ 140737488351232 ∧ s.2.length * 16 ≤ 140737488351232 ∧ ∀ v ∈ s.2, v.size ≤ 140737488351232
theorem SetSz.len {L : List Setting} (h : SetSz L) : L.length ≤ 140737488351232 := len_big h.1 (by omega)
def PairSz (L : List Pair) : Prop := L.length * 32 ≤ 140737488351232 ∧ ∀ s ∈ L, s.1.size ≤ 140737488351232 ∧ s.2.size ≤ 140737488351232
theorem PairSz.len {L : List Pair} (h : PairSz L) : L.length ≤ 140737488351232 := len_big h.1 (by omega)

end Go.Proofs.YtonfimidgbppeaaGreatDoor.Ev

namespace Go.Proofs.YtonfimidgbppeaaGreatDoor.Ev
open Go Go.RowKit
set_option linter.unusedVariables false
set_option linter.unusedSimpArgs false
theorem dec_true (b : Bool) : b = decide (b = true) := by cases b <;> rfl
theorem chkVals_step {L : List ByteArray} {j : Nat} (h : j < L.length) : chkVals (L.take j) (L.drop j) = if isWord L[j] = false then 5 else if memB (L.take j) L[j] = true then 7 else chkVals (L.take (j + 1)) (L.drop (j + 1)) := by
  rw [drop_cons h, chkVals, List.take_succ_eq_append_getElem h]
theorem chkSets_step {L : List Setting} {j : Nat} (h : j < L.length) : chkSets (prevOf L j) (L.drop j) = if isWord L[j].1 = false then 5 else if L[j].2 = [] then 9 else if 20 < L[j].2.length then 2 else if chkVals [] L[j].2 ≠ 0 then chkVals [] L[j].2 else if notAbove (prevOf L j) L[j].1 = true then 8 else chkSets (prevOf L (j + 1)) (L.drop (j + 1)) := by
  rw [drop_cons h, chkSets, prevOf_succ h]
/-- config.CheckSettings -/
theorem S63_spec (L : List Setting) (hL : SetSz L) : Ultk (fun k => S63 k (L, ())) (chkSettings L) := by
  unfold S63 chkSettings
  refine Ult.ifS (by rw [igt_eq]; unfold len; simp only [decide_eq_decide]; omega) (fun _ => Ult.ret) fun h30 => ?_
  have hlen := hL.len
  refine (Ult.forI (fun _ => Nat.le_refl _) L.length (fun j => chkSets (prevOf L j) (L.drop j)) fun j hj next => ?_).eq (by rw [List.drop_zero, prevOf_zero])
  dsimp only
  rw [iltL]
  by_cases hlt' : ¬ j < L.length
  · refine Ult.no (decide_eq_false hlt') (Ult.ret.eq ?_)
    rw [List.drop_eq_nil_of_le (by omega)]
    cases prevOf L j <;> rfl
  have hlt : j < L.length := Decidable.not_not.1 hlt'
  refine Ult.yes (decide_eq_true hlt) (Ult.bindc (at?_nat hlt) ?_)
  rw [chkSets_step hlt, isucc hlt (by omega)]
  obtain ⟨hs1, hs2, hs3⟩ := hL.2 _ (List.getElem_mem hlt)
  have hs2' := len_big hs2 (by omega)
  have next' := next hlt
  clear next
  generalize chkSets (prevOf L (j + 1)) (L.drop (j + 1)) = rest at next' ⊢
  have hw := S113_spec L[j].1 (by omega)
  refine Ult.bind (Ult.call (f := fun k => S113 k (L[j].1, ())) (lp_le _ _ fun _ => Nat.le_refl _) hw) ?_
  refine Ult.ifS (by rw [bnot_eq]; cases isWord L[j].1 <;> rfl) (fun _ => Ult.ret) fun _ => ?_
  refine Ult.ifS (by rw [ieq_eq]; unfold len; simp only [decide_eq_decide]; rw [← List.length_eq_zero_iff]; omega) (fun _ => Ult.ret) fun _ => ?_
  refine Ult.ifS (by rw [igt_eq]; unfold len; simp only [decide_eq_decide]; omega) (fun _ => Ult.ret) fun _ => ?_
  refine (Ult.forI (lp_le _ _ fun _ => Nat.le_refl _) L[j].2.length (fun i => if chkVals (L[j].2.take i) (L[j].2.drop i) ≠ 0 then chkVals (L[j].2.take i) (L[j].2.drop i) else if notAbove (prevOf L j) L[j].1 = true then 8 else rest) fun i hi nexti => ?_).eq (by rw [List.drop_zero, List.take_zero])
  try dsimp only
  rw [iltL]
  by_cases hit' : ¬ i < L[j].2.length
  · refine Ult.no (decide_eq_false hit') ?_
    rw [List.drop_eq_nil_of_le (by omega), chkVals, if_neg (by simp)]
    have nx := next'.lift
    rw [igt0]
    by_cases h0 : 0 < j
    · refine Ult.yes (decide_eq_true h0) ?_
      rw [ipred (n := L.length) h0 (by omega) (by omega)]
      refine Ult.bindc (at?_nat (show j - 1 < L.length by omega)) ?_
      have hp : prevOf L j = some L[j - 1].1 := by unfold prevOf; rw [dif_pos ⟨h0, by omega⟩]
      rw [hp]
      exact Ult.ifS (dec_true _) (fun _ => Ult.ret) fun _ => nx
    · refine Ult.no (decide_eq_false h0) ?_
      have : j = 0 := by omega
      subst this
      rw [prevOf_zero, if_neg (by simp [notAbove])]
      exact nx
  have hit : i < L[j].2.length := Decidable.not_not.1 hit'
  refine Ult.yes (decide_eq_true hit) (Ult.bindc (at?_nat hit) ?_)
  rw [isucc hit (by omega)]
  have hwv := S113_spec L[j].2[i] (by have := hs3 _ (List.getElem_mem hit); omega)
  refine Ult.bind (Ult.call (f := fun k => S113 k (L[j].2[i], ())) (lp_le _ _ (lp_le _ _ fun _ => Nat.le_refl _)) hwv) ?_
  have nexti' := nexti hit
  clear nexti
  rw [chkVals_step hit]
  by_cases h1 : isWord L[j].2[i] = false
  · rw [h1]
    exact Ult.yes rfl (Ult.ret.eq (by simp))
  rw [if_neg h1]
  rw [Bool.not_eq_false] at h1
  rw [h1]
  refine Ult.no rfl (Ult.bindc (cut?_take (by omega)) ?_)
  have hm := S61_spec (L[j].2.take i) L[j].2[i] (by rw [List.length_take]; omega)
  refine Ult.bind (Ult.call (f := fun k => S61 k (L[j].2.take i, L[j].2[i], ())) (lp_le _ _ (lp_le _ _ fun _ => Nat.le_refl _)) hm) ?_
  cases h2 : memB (L[j].2.take i) L[j].2[i]
  · exact Ult.no rfl (nexti'.eq (by simp))
  · exact Ult.yes rfl (Ult.ret.eq (by simp))
/-- smithyardref3.CheckSettings -/
theorem S83_spec (L : List Setting) (hL : SetSz L) : Ultk (fun k => S83 k (L, ())) (chkSettings L) := by
  unfold S83 chkSettings
  refine Ult.ifS (by rw [igt_eq]; unfold len; simp only [decide_eq_decide]; omega) (fun _ => Ult.ret) fun h30 => ?_
  have hlen := hL.len
  refine (Ult.forI (fun _ => Nat.le_refl _) L.length (fun j => chkSets (prevOf L j) (L.drop j)) fun j hj next => ?_).eq (by rw [List.drop_zero, prevOf_zero])
  dsimp only
  rw [iltL]
  by_cases hlt' : ¬ j < L.length
  · refine Ult.no (decide_eq_false hlt') (Ult.ret.eq ?_)
    rw [List.drop_eq_nil_of_le (by omega)]
    cases prevOf L j <;> rfl
  have hlt : j < L.length := Decidable.not_not.1 hlt'
  refine Ult.yes (decide_eq_true hlt) (Ult.bindc (at?_nat hlt) ?_)
  rw [chkSets_step hlt, isucc hlt (by omega)]
  obtain ⟨hs1, hs2, hs3⟩ := hL.2 _ (List.getElem_mem hlt)
  have hs2' := len_big hs2 (by omega)
  have next' := next hlt
  clear next
  generalize chkSets (prevOf L (j + 1)) (L.drop (j + 1)) = rest at next' ⊢
  have hw := S115_spec L[j].1 (by omega)
  refine Ult.bind (Ult.call (f := fun k => S115 k (L[j].1, ())) (lp_le _ _ fun _ => Nat.le_refl _) hw) ?_
  refine Ult.ifS (by rw [bnot_eq]; cases isWord L[j].1 <;> rfl) (fun _ => Ult.ret) fun _ => ?_
  refine Ult.ifS (by rw [ieq_eq]; unfold len; simp only [decide_eq_decide]; rw [← List.length_eq_zero_iff]; omega) (fun _ => Ult.ret) fun _ => ?_
  refine Ult.ifS (by rw [igt_eq]; unfold len; simp only [decide_eq_decide]; omega) (fun _ => Ult.ret) fun _ => ?_
  refine (Ult.forI (lp_le _ _ fun _ => Nat.le_refl _) L[j].2.length (fun i => if chkVals (L[j].2.take i) (L[j].2.drop i) ≠ 0 then chkVals (L[j].2.take i) (L[j].2.drop i) else if notAbove (prevOf L j) L[j].1 = true then 8 else rest) fun i hi nexti => ?_).eq (by rw [List.drop_zero, List.take_zero])
  try dsimp only
  rw [iltL]
  by_cases hit' : ¬ i < L[j].2.length
  · refine Ult.no (decide_eq_false hit') ?_
    rw [List.drop_eq_nil_of_le (by omega), chkVals, if_neg (by simp)]
    have nx := next'.lift
    rw [igt0]
    by_cases h0 : 0 < j
    · refine Ult.yes (decide_eq_true h0) ?_
      rw [ipred (n := L.length) h0 (by omega) (by omega)]
      refine Ult.bindc (at?_nat (show j - 1 < L.length by omega)) ?_
      have hp : prevOf L j = some L[j - 1].1 := by unfold prevOf; rw [dif_pos ⟨h0, by omega⟩]
      rw [hp]
      exact Ult.ifS (dec_true _) (fun _ => Ult.ret) fun _ => nx
    · refine Ult.no (decide_eq_false h0) ?_
      have : j = 0 := by omega
      subst this
      rw [prevOf_zero, if_neg (by simp [notAbove])]
      exact nx
  have hit : i < L[j].2.length := Decidable.not_not.1 hit'
  refine Ult.yes (decide_eq_true hit) (Ult.bindc (at?_nat hit) ?_)
  rw [isucc hit (by omega)]
  have hwv := S115_spec L[j].2[i] (by have := hs3 _ (List.getElem_mem hit); omega)
  refine Ult.bind (Ult.call (f := fun k => S115 k (L[j].2[i], ())) (lp_le _ _ (lp_le _ _ fun _ => Nat.le_refl _)) hwv) ?_
  have nexti' := nexti hit
  clear nexti
  rw [chkVals_step hit]
  by_cases h1 : isWord L[j].2[i] = false
  · rw [h1]
    exact Ult.yes rfl (Ult.ret.eq (by simp))
  rw [if_neg h1]
  rw [Bool.not_eq_false] at h1
  rw [h1]
  refine Ult.no rfl (Ult.bindc (cut?_take (by omega)) ?_)
  have hm := S61_spec (L[j].2.take i) L[j].2[i] (by rw [List.length_take]; omega)
  refine Ult.bind (Ult.call (f := fun k => S61 k (L[j].2.take i, L[j].2[i], ())) (lp_le _ _ (lp_le _ _ fun _ => Nat.le_refl _)) hm) ?_
  cases h2 : memB (L[j].2.take i) L[j].2[i]
  · exact Ult.no rfl (nexti'.eq (by simp))
  · exact Ult.yes rfl (Ult.ret.eq (by simp))
end Go.Proofs.YtonfimidgbppeaaGreatDoor.Ev

namespace Go.Proofs.YtonfimidgbppeaaGreatDoor.Ev
open Go Go.RowKit
set_option linter.unusedVariables false
set_option linter.unusedSimpArgs false
def chkSet (L : List Setting) (plain : Bool) : Option ByteArray → List Pair → Int
  | _, [] => 0
  | prev, p :: r => match look L p.1 with
    | none => 5
    | some s => if memB s.2 p.2 = false then 1 else if plain = true ∧ s.2.head? = some p.2 then 3 else if notAbove prev p.1 = true then 8 else chkSet L plain (some p.1) r
theorem chkSet_none {L : List Setting} {b : Bool} {C : List Pair} {j : Nat} (h : j < C.length) (hl : look L C[j].1 = none) : chkSet L b (prevOf C j) (C.drop j) = 5 := by
  rw [drop_cons h, chkSet, hl]
theorem chkSet_some {L : List Setting} {b : Bool} {C : List Pair} {j : Nat} (h : j < C.length) {s : Setting} (hl : look L C[j].1 = some s) : chkSet L b (prevOf C j) (C.drop j) =
    if memB s.2 C[j].2 = false then 1 else if b = true ∧ s.2.head? = some C[j].2 then 3 else if notAbove (prevOf C j) C[j].1 = true then 8 else chkSet L b (prevOf C (j + 1)) (C.drop (j + 1)) := by
  rw [drop_cons h, chkSet, hl, prevOf_succ h]
theorem not_false_eq (b : Bool) : bnot b = decide (b = false) := by cases b <;> rfl
theorem head_of_mem {l : List ByteArray} {x : ByteArray} (h : memB l x = true) : ∃ v r, l = v :: r := by
  cases l with
  | nil => cases memB_iff.1 h
  | cons v r => exact ⟨v, r, rfl⟩
/-- the order of names, and what comes then -/
theorem order_step {ι : Type} {l : ι → Nat} {C : List Pair} {j : Nat} (hlt : j < C.length) (hC : C.length ≤ 9223372036854775807) {rest : Int} {f : ι → Option Int} (nx : Ult l f rest) :
    Ult l (fun i => cnd (igt (j : Int) 0) (bnd (at? C (isub .i64 (j : Int) 1)) fun a => cnd (sle C[j].1 a.1) (some 8) (f i)) (f i)) (if notAbove (prevOf C j) C[j].1 = true then 8 else rest) := by
  rw [igt0]
  by_cases h0 : 0 < j
  · refine Ult.yes (decide_eq_true h0) ?_
    rw [ipred (n := C.length) h0 (by omega) (by omega)]
    refine Ult.bindc (at?_nat (show j - 1 < C.length by omega)) ?_
    have hp : prevOf C j = some C[j - 1].1 := by unfold prevOf; rw [dif_pos ⟨h0, by omega⟩]
    rw [hp]
    exact Ult.ifS (dec_true _) (fun _ => Ult.ret) fun _ => nx
  · refine Ult.no (decide_eq_false h0) ?_
    have : j = 0 := by omega
    subst this
    rw [prevOf_zero, if_neg (by simp [notAbove])]
    exact nx
theorem S64_spec (L : List Setting) (C : List Pair) (b : Bool) (hL : SetSz L) (hC : C.length ≤ 140737488355328) : Ultk (fun k => S64 k (L, C, b, ())) (chkSet L b none C) := by
  unfold S64
  have hlen := hL.len
  refine (Ult.forI (fun _ => Nat.le_refl _) C.length (fun j => chkSet L b (prevOf C j) (C.drop j)) fun j hj next => ?_).eq (by rw [List.drop_zero, prevOf_zero])
  dsimp only
  rw [iltL]
  by_cases hlt' : ¬ j < C.length
  · refine Ult.no (decide_eq_false hlt') (Ult.ret.eq ?_)
    rw [List.drop_eq_nil_of_le (by omega)]
    cases prevOf C j <;> rfl
  have hlt : j < C.length := Decidable.not_not.1 hlt'
  refine Ult.yes (decide_eq_true hlt) (Ult.bindc (at?_nat hlt) ?_)
  rw [isucc hlt (by omega)]
  have next' := next hlt
  clear next
  refine Ult.bind (Ult.call (f := fun k => S59 k (L, C[j].1, ())) (lp_le _ _ fun _ => Nat.le_refl _) (S59_spec L C[j].1 (by omega))) ?_
  cases hl : look L C[j].1 with
  | none =>
    rw [chkSet_none hlt hl]
    exact Ult.yes (by rw [ilt_eq]; exact decide_eq_true (idxF_neg.2 hl)) Ult.ret
  | some s =>
    rw [chkSet_some hlt hl]
    obtain ⟨i1, i2⟩ := idxF_at (p := fun s : Setting => decide (s.1 = C[j].1)) hl
    have i1 : at? L (idxN L C[j].1) = some s := i1
    have i2 : 0 ≤ idxN L C[j].1 := i2
    refine Ult.no (by rw [ilt_eq]; exact decide_eq_false (by omega)) (Ult.bindc i1 ?_)
    obtain ⟨m1, m2⟩ := look_name hl
    obtain ⟨hs1, hs2, hs3⟩ := hL.2 s m1
    have hs2' := len_big hs2 (by omega)
    refine Ult.bind (Ult.call (f := fun k => S61 k (s.2, C[j].2, ())) (lp_le _ _ fun _ => Nat.le_refl _) (S61_spec s.2 C[j].2 (by omega))) ?_
    refine Ult.ifS (not_false_eq _) (fun _ => Ult.ret) fun hm => ?_
    rw [Bool.not_eq_false] at hm
    obtain ⟨v0, r0, e0⟩ := head_of_mem hm
    refine Ult.jn ?_
    refine Ult.ite (fun hb => ?_) (fun hb => ?_)
    · refine Ult.bindc i1 (Ult.bindc (show at? s.2 0 = some v0 by rw [e0]; rfl) (Ult.ifS ?_ (fun _ => Ult.ret) fun _ => order_step hlt (by omega) next'))
      rw [seq_eq, e0]
      have hb : b = true := hb
      simp only [decide_eq_decide, hb, true_and, List.head?_cons, Option.some.injEq]
      exact eq_comm
    · exact Ult.ifS (by have hb : b = false := hb; rw [hb]; simp) (fun _ => Ult.ret) fun _ => order_step hlt (by omega) next'
/-- config.CheckConfig -/
def chkConfig (L : List Setting) (C : List Pair) : Int := if chkSettings L ≠ 0 then chkSettings L else chkSet L true none C
theorem S28_spec (L : List Setting) (C : List Pair) (hL : SetSz L) (hC : C.length ≤ 140737488355328) : Ultk (fun k => S28 k (L, C, ())) (chkConfig L C) := by
  unfold S28 chkConfig
  refine Ult.bind (S63_spec L hL) (Ult.ifS (ine_eq _ _) (fun _ => Ult.ret) fun _ => Ult.bind (S64_spec L C true hL hC) Ult.ret)
theorem S65_spec (L : List Setting) (C : List Pair) (hL : SetSz L) (hC : C.length ≤ 140737488355328) : Ultk (fun k => S65 k (L, C, ())) (chkConfig L C) := by
  unfold S65 chkConfig
  refine Ult.bind (S83_spec L hL) (Ult.ifS (ine_eq _ _) (fun _ => Ult.ret) fun _ => ?_)
  have hlen := hL.len
  refine (Ult.forI (fun _ => Nat.le_refl _) C.length (fun j => chkSet L true (prevOf C j) (C.drop j)) fun j hj next => ?_).eq (by rw [List.drop_zero, prevOf_zero])
  dsimp only
  rw [iltL]
  by_cases hlt' : ¬ j < C.length
  · refine Ult.no (decide_eq_false hlt') (Ult.ret.eq ?_)
    rw [List.drop_eq_nil_of_le (by omega)]
    cases prevOf C j <;> rfl
  have hlt : j < C.length := Decidable.not_not.1 hlt'
  refine Ult.yes (decide_eq_true hlt) (Ult.bindc (at?_nat hlt) ?_)
  rw [isucc hlt (by omega)]
  have next' := next hlt
  clear next
  refine Ult.bind (Ult.call (f := fun k => S114 k (L, C[j].1, ())) (lp_le _ _ fun _ => Nat.le_refl _) (S114_spec L C[j].1 (by omega))) ?_
  cases hl : look L C[j].1 with
  | none =>
    rw [chkSet_none hlt hl]
    have : lookS L C[j].1 = ((⟨#[]⟩, []), false) := by unfold lookS; rw [hl]
    rw [this]
    exact Ult.yes rfl Ult.ret
  | some s =>
    rw [chkSet_some hlt hl]
    have : lookS L C[j].1 = (s, true) := by unfold lookS; rw [hl]
    rw [this]
    refine Ult.no rfl ?_
    obtain ⟨m1, m2⟩ := look_name hl
    obtain ⟨hs1, hs2, hs3⟩ := hL.2 s m1
    have hs2' := len_big hs2 (by omega)
    refine Ult.bind (Ult.call (f := fun k => S61 k (s.2, C[j].2, ())) (lp_le _ _ fun _ => Nat.le_refl _) (S61_spec s.2 C[j].2 (by omega))) ?_
    refine Ult.ifS (not_false_eq _) (fun _ => Ult.ret) fun hm => ?_
    rw [Bool.not_eq_false] at hm
    obtain ⟨v0, r0, e0⟩ := head_of_mem hm
    refine Ult.bindc (show at? s.2 0 = some v0 by rw [e0]; rfl) ?_
    refine Ult.ifS ?_ (fun _ => Ult.ret) fun _ => order_step hlt (by omega) next'
    rw [seq_eq, e0]
    simp

/-! ### values -/
theorem chkSets_ne {L : List Setting} : ∀ {prev : Option ByteArray}, chkSets prev L = 0 → ∀ s ∈ L, s.2 ≠ [] ∧ isWord s.1 = true ∧ chkVals [] s.2 = 0 := by
  induction L with
  | nil => intro prev _ s hs; cases hs
  | cons t L ih =>
    intro prev h s hs
    rw [chkSets] at h
    split at h
    · cases h
    · rename_i h1
      split at h
      · cases h
      · rename_i h2
        split at h
        · cases h
        · split at h
          · rename_i h4; exact absurd h h4
          · rename_i h4
            split at h
            · cases h
            · rcases List.mem_cons.1 hs with rfl | hs
              · exact ⟨h2, by simpa using h1, by simpa using h4⟩
              · exact ih h s hs
theorem chkSettings_ne {L : List Setting} (h : chkSettings L = 0) : L.length ≤ 30 ∧ ∀ s ∈ L, s.2 ≠ [] ∧ isWord s.1 = true ∧ chkVals [] s.2 = 0 := by
  unfold chkSettings at h
  split at h
  · cases h
  · exact ⟨by omega, chkSets_ne h⟩
theorem chkConfig_ok {L : List Setting} {C : List Pair} (h : chkConfig L C = 0) : chkSettings L = 0 ∧ chkSet L true none C = 0 := by
  unfold chkConfig at h
  split at h
  · rename_i q; exact absurd h q
  · rename_i q; exact ⟨Decidable.not_not.1 q, h⟩
/-- the value of a setting that there is -/
def valOf (L : List Setting) (C : List Pair) (n : ByteArray) : Option ByteArray := match look C n with
  | some p => some p.2
  | none => (look L n).bind fun s => s.2.head?
theorem S60_spec (L : List Setting) (C : List Pair) (n v : ByteArray) (hL : L.length ≤ 9223372036854775807) (hC : C.length ≤ 9223372036854775807) (hv : valOf L C n = some v) : Ultk (fun k => S60 k (L, C, n, ())) v := by
  unfold S60
  refine Ult.bind (S105_spec C n hC) ?_
  unfold valOf at hv
  unfold lookV
  cases hc : look C n with
  | some p =>
    rw [hc] at hv
    cases hv
    exact Ult.yes rfl Ult.ret
  | none =>
    rw [hc] at hv
    refine Ult.no rfl (Ult.bind (S59_spec L n hL) ?_)
    cases hl : look L n with
    | none => rw [hl] at hv; cases hv
    | some s =>
      rw [hl] at hv
      obtain ⟨i1, i2⟩ := idxF_at (p := fun s : Setting => decide (s.1 = n)) hl
      refine Ult.bindc i1 ?_
      have hv : s.2.head? = some v := hv
      cases hs : s.2 with
      | nil => rw [hs] at hv; cases hv
      | cons a r =>
        rw [hs] at hv
        cases hv
        exact Ult.bindc (show at? (v :: r) 0 = some v from rfl) Ult.ret
theorem S116_spec (L : List Setting) (C : List Pair) (n v : ByteArray) (hL : L.length ≤ 9223372036854775807) (hC : C.length ≤ 9223372036854775807) (hv : valOf L C n = some v) : Ultk (fun k => S116 k (L, C, n, ())) v := by
  unfold S116
  have hd : ∀ j, j ≤ C.length → (match look (C.drop j) n with | some p => some p.2 | none => (look L n).bind fun s => s.2.head?) = some v ∨ ∃ i, i < j ∧ True := fun j _ => by
    cases j with
    | zero => exact .inl (by rw [List.drop_zero]; exact hv)
    | succ j => exact .inr ⟨0, by omega, trivial⟩
  clear hd
  refine Ult.forA (A := Unit) (fun _ => Nat.le_refl _) C.length (fun _ j => (j : Int)) (fun _ j => valOf L (C.drop j) n = some v) (fun _ _ => v) () (by rw [List.drop_zero]; exact hv) fun _ j hj hI next => ?_
  dsimp only
  rw [iltL]
  by_cases hlt' : ¬ j < C.length
  · refine Ult.no (decide_eq_false hlt') ?_
    rw [List.drop_eq_nil_of_le (by omega)] at hI
    have hI : (look L n).bind (fun s => s.2.head?) = some v := hI
    refine Ult.bind (Ult.call (f := fun k => S114 k (L, n, ())) (lp_le _ _ fun _ => Nat.le_refl _) (S114_spec L n hL)) ?_
    unfold lookS
    cases hl : look L n with
    | none => rw [hl] at hI; cases hI
    | some s =>
      rw [hl] at hI
      have hI : s.2.head? = some v := hI
      cases hs : s.2 with
      | nil => rw [hs] at hI; cases hI
      | cons a r =>
        rw [hs] at hI
        cases hI
        exact Ult.bindc (show at? (v :: r) 0 = some v from rfl) Ult.ret
  have hlt : j < C.length := Decidable.not_not.1 hlt'
  refine Ult.yes (decide_eq_true hlt) (Ult.bindc (at?_nat hlt) ?_)
  rw [isucc hlt hC, seq_eq]
  rw [drop_cons hlt] at hI
  unfold valOf look at hI
  by_cases h : C[j].1 = n
  · rw [List.find?_cons_of_pos (by simpa using h)] at hI
    cases hI
    exact Ult.yes (decide_eq_true h) Ult.ret
  · rw [List.find?_cons_of_neg (by simpa using h)] at hI
    exact Ult.no (decide_eq_false h) (next () hlt hI)
theorem valOf_some {L : List Setting} {C : List Pair} {n : ByteArray} (hL : chkSettings L = 0) {s : Setting} (hl : look L n = some s) : ∃ v, valOf L C n = some v := by
  unfold valOf
  cases look C n with
  | some p => exact ⟨_, rfl⟩
  | none =>
    rw [hl]
    have := ((chkSettings_ne hL).2 s (look_name hl).1).1
    cases hs : s.2 with
    | nil => exact absurd hs this
    | cons a r => exact ⟨a, by simp [hs]⟩
/-- config.ValueOf -/
def valueOf (L : List Setting) (C : List Pair) (n : ByteArray) : ByteArray × Int := if chkConfig L C ≠ 0 then (⟨#[]⟩, chkConfig L C) else if look L n = none then (⟨#[]⟩, 5) else ((valOf L C n).getD ⟨#[]⟩, 0)
end Go.Proofs.YtonfimidgbppeaaGreatDoor.Ev

namespace Go.Proofs.YtonfimidgbppeaaGreatDoor.Ev
open Go Go.RowKit
set_option linter.unusedVariables false
set_option linter.unusedSimpArgs false
theorem S38_spec (L : List ByteArray) (h : L.length * 16 ≤ 140737488355328) : Ultk (fun k => S38 k (L, ())) L := ⟨0, fun k _ => if_pos h⟩
theorem S7_spec (L : List Pair) (h : L.length * 32 ≤ 140737488355328) : Ultk (fun k => S7 k (L, ())) L := ⟨0, fun k _ => if_pos h⟩
theorem S29_spec (L : List Setting) (hL : SetSz L) : Ultk (fun k => S29 k (L, ())) L := by
  unfold S29
  have hlen := hL.len
  have h40 := hL.1
  refine Ult.forA (A := List Setting) (fun _ => Nat.le_refl _) L.length (fun a j => (a, (j : Int))) (fun a j => a = L.take j) (fun _ _ => L) [] (by simp) fun a j hj ha next => ?_
  subst ha
  dsimp only
  rw [iltL]
  by_cases hlt' : ¬ j < L.length
  · refine Ult.no (decide_eq_false hlt') (Ult.ret.eq ?_)
    exact List.take_of_length_le (by omega)
  have hlt : j < L.length := Decidable.not_not.1 hlt'
  refine Ult.yes (decide_eq_true hlt) (Ult.bindc (at?_nat hlt) ?_)
  obtain ⟨hs1, hs2, hs3⟩ := hL.2 _ (List.getElem_mem hlt)
  refine Ult.bind (Ult.call (f := fun k => S38 k (L[j].2, ())) (lp_le _ _ fun _ => Nat.le_refl _) (S38_spec L[j].2 (by omega))) ?_
  refine Ult.bindc (app?_ok (by simp only [List.length_take, List.length_cons, List.length_nil]; have := Nat.min_le_left j L.length; show (min j L.length + (0 + 1)) * 40 ≤ _; omega)) ?_
  rw [isucc hlt (by omega), show L.take j ++ [(L[j].1, L[j].2)] = L.take (j + 1) by rw [List.take_succ_eq_append_getElem hlt]]
  exact next _ hlt rfl
theorem S25_self (L : List ByteArray) (hL : L.length ≤ 9223372036854775807) : Ultk (fun k => S25 k (L, L, ())) true := by
  unfold S25
  refine Ult.no (by rw [ine_eq]; simp) ?_
  refine Ult.forI (fun _ => Nat.le_refl _) L.length (fun _ => true) fun j hj next => ?_
  dsimp only
  rw [iltL]
  by_cases hlt' : ¬ j < L.length
  · exact Ult.no (decide_eq_false hlt') Ult.ret
  have hlt : j < L.length := Decidable.not_not.1 hlt'
  refine Ult.yes (decide_eq_true hlt) (Ult.bindc (at?_nat hlt) (Ult.bindc (at?_nat hlt) (Ult.no (by rw [sne_eq]; simp) ?_)))
  rw [isucc hlt hL]
  exact next hlt
theorem S15_self (L : List Pair) (hL : L.length ≤ 9223372036854775807) : Ultk (fun k => S15 k (L, L, ())) true := by
  unfold S15
  refine Ult.no (by rw [ine_eq]; simp) ?_
  refine Ult.forI (fun _ => Nat.le_refl _) L.length (fun _ => true) fun j hj next => ?_
  dsimp only
  rw [iltL]
  by_cases hlt' : ¬ j < L.length
  · exact Ult.no (decide_eq_false hlt') Ult.ret
  have hlt : j < L.length := Decidable.not_not.1 hlt'
  refine Ult.yes (decide_eq_true hlt) (Ult.bindc (at?_nat hlt) (Ult.bindc (at?_nat hlt) (Ult.no (by rw [kbeq_pair]; simp [bnot]) ?_)))
  rw [isucc hlt hL]
  exact next hlt
theorem S42_self (L : List Setting) (hL : SetSz L) : Ultk (fun k => S42 k (L, L, ())) true := by
  unfold S42
  have hlen := hL.len
  refine Ult.no (by rw [ine_eq]; simp) ?_
  refine Ult.forI (fun _ => Nat.le_refl _) L.length (fun _ => true) fun j hj next => ?_
  dsimp only
  rw [iltL]
  by_cases hlt' : ¬ j < L.length
  · exact Ult.no (decide_eq_false hlt') Ult.ret
  have hlt : j < L.length := Decidable.not_not.1 hlt'
  obtain ⟨hs1, hs2, hs3⟩ := hL.2 _ (List.getElem_mem hlt)
  have hs2' := len_big hs2 (by omega)
  refine Ult.yes (decide_eq_true hlt) (Ult.bindc (at?_nat hlt) (Ult.bindc (at?_nat hlt) (Ult.no (by rw [sne_eq]; simp) (Ult.bindc (at?_nat hlt) (Ult.bindc (at?_nat hlt) ?_)))))
  refine Ult.bind (Ult.call (f := fun k => S25 k (L[j].2, L[j].2, ())) (lp_le _ _ fun _ => Nat.le_refl _) (S25_self L[j].2 (by omega))) (Ult.no rfl ?_)
  rw [isucc hlt (by omega)]
  exact next hlt

/-! ### what a right configuration is -/
theorem chkVals_ok {L : List ByteArray} : ∀ {seen : List ByteArray}, chkVals seen L = 0 → (∀ v ∈ L, isWord v = true ∧ v ∉ seen) ∧ L.Nodup := by
  induction L with
  | nil => intro seen _; exact ⟨fun v h => (by cases h), List.nodup_nil⟩
  | cons a L ih =>
    intro seen h
    rw [chkVals] at h
    split at h
    · cases h
    · rename_i h1
      split at h
      · cases h
      · rename_i h2
        obtain ⟨i1, i2⟩ := ih h
        refine ⟨fun v hv => ?_, List.nodup_cons.2 ⟨fun hm => (i1 a hm).2 (by simp), i2⟩⟩
        rcases List.mem_cons.1 hv with rfl | hv
        · exact ⟨by simpa using h1, fun hm => h2 (memB_iff.2 hm)⟩
        · exact ⟨(i1 v hv).1, fun hm => (i1 v hv).2 (by simp [hm])⟩
theorem notAbove_false {prev : Option ByteArray} {n : ByteArray} (h : ¬ notAbove prev n = true) : ∀ m, prev = some m → lt m n := by
  intro m hm
  subst hm
  have h : ¬ sle n m = true := h
  rw [sle_eq] at h
  unfold lt
  simpa using h
theorem lt_trans' {a b c : ByteArray} (h : lt a b) (h' : lt b c) : lt a c := List.lt_trans h h'
theorem lt_irr (a : ByteArray) : ¬ lt a a := List.lt_irrefl _
theorem chkSet_ok {L : List Setting} {b : Bool} : ∀ {C : List Pair} {prev : Option ByteArray}, chkSet L b prev C = 0 →
    (∀ p ∈ C, ∃ s, look L p.1 = some s ∧ p.2 ∈ s.2 ∧ (b = true → s.2.head? ≠ some p.2) ∧ ∀ m, prev = some m → lt m p.1) ∧ C.Pairwise (fun p q => lt p.1 q.1)
  | [], prev, _ => ⟨fun p h => (by cases h), List.Pairwise.nil⟩
  | p :: C, prev, h => by
    rw [chkSet] at h
    split at h
    · cases h
    · rename_i s hs
      split at h
      · cases h
      · rename_i h1
        split at h
        · cases h
        · rename_i h2
          split at h
          · cases h
          · rename_i h3
            obtain ⟨i1, i2⟩ := chkSet_ok h
            have hp := notAbove_false h3
            refine ⟨fun q hq => ?_, List.pairwise_cons.2 ⟨fun q hq => ?_, i2⟩⟩
            · rcases List.mem_cons.1 hq with rfl | hq
              · exact ⟨s, hs, memB_iff.1 (by simpa using h1), fun hb e => h2 ⟨hb, e⟩, hp⟩
              · obtain ⟨t, t1, t2, t3, t4⟩ := i1 q hq
                exact ⟨t, t1, t2, t3, fun m hm => lt_trans' (hp m hm) (t4 _ rfl)⟩
            · obtain ⟨t, t1, t2, t3, t4⟩ := i1 q hq
              exact t4 _ rfl
theorem pigeon {α : Type} : ∀ {A B : List α}, A.Nodup → (∀ a ∈ A, a ∈ B) → A.length ≤ B.length
  | [], _, _, _ => Nat.zero_le _
  | a :: A, B, hn, hs => by
    obtain ⟨s, t, rfl⟩ := List.append_of_mem (hs a (by simp))
    obtain ⟨h1, h2⟩ := List.nodup_cons.1 hn
    have := pigeon (B := s ++ t) h2 fun x hx => by
      have := hs x (by simp [hx])
      rcases List.mem_append.1 this with q | q
      · exact List.mem_append_left _ q
      · rcases List.mem_cons.1 q with rfl | q
        · exact absurd hx h1
        · exact List.mem_append_right _ q
    simp only [List.length_append, List.length_cons] at this ⊢
    omega
theorem cfg_len {L : List Setting} {b : Bool} {prev : Option ByteArray} {C : List Pair} (h : chkSet L b prev C = 0) : C.length ≤ L.length := by
  obtain ⟨h1, h2⟩ := chkSet_ok h
  have := pigeon (A := C.map (·.1)) (B := L.map (·.1)) (by
      unfold List.Nodup
      rw [List.pairwise_map]
      exact h2.imp fun {p q} (h : lt p.1 q.1) (e : p.1 = q.1) => lt_irr q.1 (e ▸ h)) fun a ha => by
    obtain ⟨p, hp, rfl⟩ := List.mem_map.1 ha
    obtain ⟨s, hs, _⟩ := h1 p hp
    obtain ⟨m1, m2⟩ := look_name hs
    exact List.mem_map.2 ⟨s, m1, m2⟩
  simpa using this
theorem cfg_words {L : List Setting} {b : Bool} {prev : Option ByteArray} {C : List Pair} (hL : chkSettings L = 0) (h : chkSet L b prev C = 0) : ∀ p ∈ C, isWord p.1 = true ∧ isWord p.2 = true := by
  intro p hp
  obtain ⟨s, hs, h2, _⟩ := (chkSet_ok h).1 p hp
  obtain ⟨m1, m2⟩ := look_name hs
  obtain ⟨_, w1, w2⟩ := (chkSettings_ne hL).2 s m1
  exact ⟨m2 ▸ w1, ((chkVals_ok w2).1 _ h2).1⟩
end Go.Proofs.YtonfimidgbppeaaGreatDoor.Ev

namespace Go.Proofs.YtonfimidgbppeaaGreatDoor.Ev
open Go Go.RowKit
set_option linter.unusedVariables false
set_option linter.unusedSimpArgs false
def partOf (p : Pair) : ByteArray := p.1 ++ (⟨#[61]⟩ : ByteArray) ++ p.2
def joinB (l : List ByteArray) : ByteArray := ⟨(Lib.join (l.map (·.data.toList)) [44]).toArray⟩
def cfgText (L : List Setting) (C : List Pair) : ByteArray × Int := if chkConfig L C ≠ 0 then (⟨#[]⟩, chkConfig L C) else if C = [] then (⟨#[45]⟩, 0) else (joinB (C.map partOf), 0)
theorem joinTail_len (sep : List UInt8) (m : Nat) : ∀ (l : List (List UInt8)), (∀ x ∈ l, x.length ≤ m) → (Lib.joinTail sep l).length ≤ l.length * (m + sep.length)
  | [], _ => by simp [Lib.joinTail]
  | x :: l, h => by
    have ih := joinTail_len sep m l fun y hy => h y (by simp [hy])
    have hx := h x (by simp)
    unfold Lib.joinTail at ih ⊢
    simp only [List.map_cons, List.flatten_cons, List.length_append, List.length_cons]
    rw [Nat.add_mul]
    omega
theorem join_len (sep : List UInt8) (m : Nat) (l : List (List UInt8)) (h : ∀ x ∈ l, x.length ≤ m) : (Lib.join l sep).length ≤ l.length * (m + sep.length) := by
  cases l with
  | nil => simp [Lib.join_nil]
  | cons x l =>
    rw [Lib.join_cons, List.length_append, List.length_cons, Nat.add_mul]
    have h1 := joinTail_len sep m l fun y hy => h y (by simp [hy])
    have h2 := h x (by simp)
    omega
theorem partOf_size (p : Pair) : (partOf p).size = p.1.size + 1 + p.2.size := by
  unfold partOf
  rw [ByteArray.size_append, ByteArray.size_append]; rfl
theorem part_small {L : List Setting} {C : List Pair} (h : chkConfig L C = 0) : C.length ≤ 30 ∧ ∀ p ∈ C, p.1.size ≤ 40 ∧ p.2.size ≤ 40 := by
  obtain ⟨h1, h2⟩ := chkConfig_ok h
  have := cfg_len h2
  have := (chkSettings_ne h1).1
  exact ⟨by omega, fun p hp => ⟨(isWord_size (cfg_words h1 h2 p hp).1).2, (isWord_size (cfg_words h1 h2 p hp).2).2⟩⟩
theorem joinF_ok {l : List ByteArray} (h1 : l.length ≤ 30) (h2 : ∀ x ∈ l, x.size ≤ 81) : joinF l ⟨#[44]⟩ = some (joinB l) := by
  unfold joinF
  have hs : (⟨#[44]⟩ : ByteArray).data.toList = [44] := rfl
  rw [hs]
  have := join_len [44] 81 (l.map (·.data.toList)) fun x hx => by
    obtain ⟨y, hy, rfl⟩ := List.mem_map.1 hx
    have := h2 y hy
    simpa using this
  rw [List.length_map] at this
  have h3 : l.length * (81 + 1) ≤ 30 * 82 := Nat.mul_le_mul_right _ h1
  rw [if_pos ⟨by omega, Nat.le_trans this (Nat.le_trans h3 (by decide))⟩]
  rfl
theorem S45_spec (L : List Setting) (C : List Pair) (hL : SetSz L) (hC : C.length ≤ 140737488355328) : Ultk (fun k => S45 k (L, C, ())) (cfgText L C) := by
  unfold S45 cfgText
  refine Ult.bind (S28_spec L C hL hC) (Ult.ifS (ine_eq _ _) (fun _ => Ult.ret) fun h0 => ?_)
  obtain ⟨h30, hp⟩ := part_small (Decidable.not_not.1 h0)
  refine Ult.ifS (by rw [ieq_eq]; unfold len; simp only [decide_eq_decide]; rw [← List.length_eq_zero_iff]; omega) (fun _ => Ult.ret) fun hne => ?_
  refine Ult.forA (A := List ByteArray) (fun _ => Nat.le_refl _) C.length (fun a j => (a, (j : Int))) (fun a j => a = (C.take j).map partOf) (fun _ _ => (joinB (C.map partOf), 0)) [] (by simp) fun a j hj ha next => ?_
  subst ha
  dsimp only
  rw [iltL]
  by_cases hlt' : ¬ j < C.length
  · refine Ult.no (decide_eq_false hlt') ?_
    rw [List.take_of_length_le (by omega)]
    have hjn : ∀ k, S82 k (C.map partOf, (⟨#[44]⟩ : ByteArray), ()) = some (joinB (C.map partOf)) := fun k => joinF_ok (by rw [List.length_map]; exact h30) fun x hx => by
      obtain ⟨p, hpm, rfl⟩ := List.mem_map.1 hx
      have := hp p hpm
      rw [partOf_size]; omega
    exact Ult.bind ⟨0, fun i _ => hjn _⟩ Ult.ret
  have hlt : j < C.length := Decidable.not_not.1 hlt'
  have hpj := hp _ (List.getElem_mem hlt)
  refine Ult.yes (decide_eq_true hlt) (Ult.bindc (at?_nat hlt) ?_)
  refine Ult.bindc (cat?_ok (show C[j].1.size + (⟨#[61]⟩ : ByteArray).size ≤ _ by rw [show (⟨#[61]⟩ : ByteArray).size = 1 from rfl]; omega)) ?_
  refine Ult.bindc (cat?_ok (show (C[j].1 ++ (⟨#[61]⟩ : ByteArray)).size + C[j].2.size ≤ _ by rw [ByteArray.size_append, show (⟨#[61]⟩ : ByteArray).size = 1 from rfl]; omega)) ?_
  refine Ult.bindc (app?_ok (by simp only [List.length_map, List.length_take, List.length_cons, List.length_nil]; have := Nat.min_le_left j C.length; show (min j C.length + (0 + 1)) * 16 ≤ _; omega)) ?_
  rw [isucc hlt (by omega)]
  exact next _ hlt (by rw [List.take_succ_eq_append_getElem hlt, List.map_append]; rfl)
theorem S17_spec : Ultk (fun k => S17 k ()) true := by
  unfold S17
  have h : cfgText [((⟨#[109]⟩ : ByteArray), [(⟨#[97]⟩ : ByteArray), (⟨#[98]⟩ : ByteArray)])] [((⟨#[109]⟩ : ByteArray), (⟨#[98]⟩ : ByteArray))] = (⟨#[109, 61, 98]⟩, 0) := by decide +kernel
  have hs := S45_spec [((⟨#[109]⟩ : ByteArray), [(⟨#[97]⟩ : ByteArray), (⟨#[98]⟩ : ByteArray)])] [((⟨#[109]⟩ : ByteArray), (⟨#[98]⟩ : ByteArray))] ⟨by decide, fun s hs => by
    obtain rfl : s = ((⟨#[109]⟩ : ByteArray), [(⟨#[97]⟩ : ByteArray), (⟨#[98]⟩ : ByteArray)]) := by simpa using hs
    refine ⟨by decide, by decide, fun v hv => ?_⟩
    rcases List.mem_cons.1 hv with rfl | hv
    · decide
    · obtain rfl : v = (⟨#[98]⟩ : ByteArray) := by simpa using hv
      decide⟩ (by decide)
  rw [h] at hs
  refine Ult.bind hs (Ult.yes rfl (Ult.ret.eq ?_))
  rw [seq_eq]
  exact decide_eq_true rfl
end Go.Proofs.YtonfimidgbppeaaGreatDoor.Ev

namespace Go.Proofs.YtonfimidgbppeaaGreatDoor.Ev
open Go Go.RowKit
set_option linter.unusedVariables false
set_option linter.unusedSimpArgs false
abbrev Platform : Type := ByteArray × List Pair
abbrev Tool : Type := ByteArray × ByteArray × List Pair × List Pair
abbrev Condition : Type := ByteArray × List Pair × List Pair
abbrev Transition : Type := ByteArray × List Pair × List ByteArray
abbrev CWorld : Type := List Setting × List Condition × List Platform × List Tool × List Transition
def PlatSz (L : List Platform) : Prop := L.length * 40 ≤ 140737488351232 ∧ ∀ p ∈ L, p.1.size ≤ 140737488351232 ∧ PairSz p.2
def ToolSz (L : List Tool) : Prop := L.length * 80 ≤ 140737488351232 ∧ ∀ p ∈ L, p.1.size ≤ 140737488351232 ∧ p.2.1.size ≤ 140737488351232 ∧ PairSz p.2.2.1 ∧ PairSz p.2.2.2
def CondSz (L : List Condition) : Prop := L.length * 64 ≤ 140737488351232 ∧ ∀ p ∈ L, p.1.size ≤ 140737488351232 ∧ PairSz p.2.1 ∧ PairSz p.2.2
def StrsSz (L : List ByteArray) : Prop := L.length * 16 ≤ 140737488351232 ∧ ∀ s ∈ L, s.size ≤ 140737488351232
def TranSz (L : List Transition) : Prop := L.length * 64 ≤ 140737488351232 ∧ ∀ p ∈ L, p.1.size ≤ 140737488351232 ∧ PairSz p.2.1 ∧ StrsSz p.2.2
def WorldSz (x : CWorld) : Prop := SetSz x.1 ∧ CondSz x.2.1 ∧ PlatSz x.2.2.1 ∧ ToolSz x.2.2.2.1 ∧ TranSz x.2.2.2.2
variable {ι R α : Type} {l : ι → Nat}

/-! ### loops that only look -/
theorem idx_loop {kk : ι → Nat} (hk : ∀ i, l i ≤ kk i) (L : List α) (f : ι → α → Option Bool) (p : α → Bool) (hf : ∀ a ∈ L, Ult l (fun i => f i a) (p a)) (hL : L.length ≤ 9223372036854775807) :
    Ult l (fun i => loopN (kk i) (fun (next : Int → Option Int) (j : Int) => cnd (ilt j (len L)) (bnd (at? L j) fun a => bnd (f i a) fun b => cnd b (some j) (next (iadd .i64 j 1))) (some (-1))) 0) (idxF p 0 L) := by
  refine (Ult.forI hk L.length (fun j => idxF p j (L.drop j)) fun j hj next => ?_).eq (by rw [List.drop_zero])
  rw [iltL]
  by_cases hlt' : ¬ j < L.length
  · refine Ult.no (decide_eq_false hlt') (Ult.ret.eq ?_)
    rw [List.drop_eq_nil_of_le (by omega)]; rfl
  have hlt : j < L.length := Decidable.not_not.1 hlt'
  refine Ult.yes (decide_eq_true hlt) (Ult.bindc (at?_nat hlt) (Ult.bind (hf _ (List.getElem_mem hlt)).lift ?_))
  rw [drop_cons hlt, idxF, isucc hlt hL]
  exact Ult.ifS (by simp) (fun h => Ult.ret) (fun h => next hlt)
theorem any_loop {kk : ι → Nat} (hk : ∀ i, l i ≤ kk i) (L : List α) (g : α → Bool) {r1 r2 : R} {y n : ι → Option R} (hy : Ult l y r1) (hn : Ult l n r2) (hL : L.length ≤ 9223372036854775807) :
    Ult l (fun i => loopN (kk i) (fun (next : Int → Option R) (j : Int) => cnd (ilt j (len L)) (bnd (at? L j) fun a => cnd (g a) (y i) (next (iadd .i64 j 1))) (n i)) 0) (if L.any g = true then r1 else r2) := by
  refine (Ult.forI hk L.length (fun j => if (L.drop j).any g = true then r1 else r2) fun j hj next => ?_).eq (by rw [List.drop_zero])
  rw [iltL]
  by_cases hlt' : ¬ j < L.length
  · refine Ult.no (decide_eq_false hlt') (hn.lift.eq ?_)
    rw [List.drop_eq_nil_of_le (by omega)]; rfl
  have hlt : j < L.length := Decidable.not_not.1 hlt'
  refine Ult.yes (decide_eq_true hlt) (Ult.bindc (at?_nat hlt) ?_)
  rw [drop_cons hlt, List.any_cons, isucc hlt hL]
  cases hg : g L[j]
  · exact Ult.no rfl (next hlt)
  · exact Ult.yes rfl (hy.lift.eq (by simp))
theorem all_loop {kk : ι → Nat} (hk : ∀ i, l i ≤ kk i) (L : List α) (f : ι → α → Option Bool) (p : α → Bool) {r1 r2 : R} {y n : ι → Option R} (hy : Ult l y r1) (hn : Ult l n r2) (hf : ∀ a ∈ L, Ult l (fun i => f i a) (p a)) (hL : L.length ≤ 9223372036854775807) :
    Ult l (fun i => loopN (kk i) (fun (next : Int → Option R) (j : Int) => cnd (ilt j (len L)) (bnd (at? L j) fun a => bnd (f i a) fun b => cnd (bnot b) (n i) (next (iadd .i64 j 1))) (y i)) 0) (if L.all p = true then r1 else r2) := by
  refine (Ult.forI hk L.length (fun j => if (L.drop j).all p = true then r1 else r2) fun j hj next => ?_).eq (by rw [List.drop_zero])
  rw [iltL]
  by_cases hlt' : ¬ j < L.length
  · refine Ult.no (decide_eq_false hlt') (hy.lift.eq ?_)
    rw [List.drop_eq_nil_of_le (by omega)]; rfl
  have hlt : j < L.length := Decidable.not_not.1 hlt'
  refine Ult.yes (decide_eq_true hlt) (Ult.bindc (at?_nat hlt) (Ult.bind (hf _ (List.getElem_mem hlt)).lift ?_))
  rw [drop_cons hlt, List.all_cons, isucc hlt hL]
  cases hg : p L[j]
  · exact Ult.yes rfl (hn.lift.eq (by simp))
  · exact Ult.no rfl (next hlt)
theorem idxF_any {p : α → Bool} {L : List α} : ige (idxF p 0 L) 0 = L.any p := by
  rw [ige_eq]
  rcases idxF_cases p 0 L with ⟨h1, h2⟩ | ⟨i, hi, h1, h2, h3⟩
  · rw [h1]
    rw [List.find?_eq_none] at h2
    have : L.any p = false := by
      rw [List.any_eq_false]
      intro a ha; exact h2 a ha
    rw [this]; rfl
  · rw [h1, decide_eq_true (Int.natCast_nonneg _)]
    exact (List.any_eq_true.2 ⟨L[i], List.getElem_mem hi, h3⟩).symm

/-! ### pairs -/
def chkPairs : Option ByteArray → List Pair → Int
  | _, [] => 0
  | prev, p :: r => if isWord p.1 = false then 5 else if isWord p.2 = false then 1 else if notAbove prev p.1 = true then 8 else chkPairs (some p.1) r
def chkPairsL (L : List Pair) : Int := if 30 < L.length then 2 else chkPairs none L
theorem S98_spec (L : List Pair) (hL : PairSz L) : Ultk (fun k => S98 k (L, ())) (chkPairsL L) := by
  unfold S98 chkPairsL
  have hlen := hL.len
  refine Ult.ifS (by rw [igt_eq]; unfold len; simp only [decide_eq_decide]; omega) (fun _ => Ult.ret) fun h30 => ?_
  refine (Ult.forI (fun _ => Nat.le_refl _) L.length (fun j => chkPairs (prevOf L j) (L.drop j)) fun j hj next => ?_).eq (by rw [List.drop_zero, prevOf_zero])
  dsimp only
  rw [iltL]
  by_cases hlt' : ¬ j < L.length
  · refine Ult.no (decide_eq_false hlt') (Ult.ret.eq ?_)
    rw [List.drop_eq_nil_of_le (by omega)]
    cases prevOf L j <;> rfl
  have hlt : j < L.length := Decidable.not_not.1 hlt'
  refine Ult.yes (decide_eq_true hlt) (Ult.bindc (at?_nat hlt) ?_)
  obtain ⟨s1, s2⟩ := hL.2 _ (List.getElem_mem hlt)
  rw [drop_cons hlt, chkPairs, ← prevOf_succ hlt, isucc hlt (by omega)]
  refine Ult.bind (Ult.call (f := fun k => S113 k (L[j].1, ())) (lp_le _ _ fun _ => Nat.le_refl _) (S113_spec L[j].1 (by omega))) (Ult.ifS (not_false_eq _) (fun _ => Ult.ret) fun _ => ?_)
  refine Ult.bind (Ult.call (f := fun k => S113 k (L[j].2, ())) (lp_le _ _ fun _ => Nat.le_refl _) (S113_spec L[j].2 (by omega))) (Ult.ifS (not_false_eq _) (fun _ => Ult.ret) fun _ => ?_)
  exact order_step hlt (by omega) (next hlt)
theorem S86_spec (L : List Pair) (hL : PairSz L) : Ultk (fun k => S86 k (L, ())) (chkPairsL L) := by
  unfold S86 chkPairsL
  have hlen := hL.len
  refine Ult.ifS (by rw [igt_eq]; unfold len; simp only [decide_eq_decide]; omega) (fun _ => Ult.ret) fun h30 => ?_
  refine (Ult.forI (fun _ => Nat.le_refl _) L.length (fun j => chkPairs (prevOf L j) (L.drop j)) fun j hj next => ?_).eq (by rw [List.drop_zero, prevOf_zero])
  dsimp only
  rw [iltL]
  by_cases hlt' : ¬ j < L.length
  · refine Ult.no (decide_eq_false hlt') (Ult.ret.eq ?_)
    rw [List.drop_eq_nil_of_le (by omega)]
    cases prevOf L j <;> rfl
  have hlt : j < L.length := Decidable.not_not.1 hlt'
  refine Ult.yes (decide_eq_true hlt) (Ult.bindc (at?_nat hlt) ?_)
  obtain ⟨s1, s2⟩ := hL.2 _ (List.getElem_mem hlt)
  rw [drop_cons hlt, chkPairs, ← prevOf_succ hlt, isucc hlt (by omega)]
  refine Ult.bind (Ult.call (f := fun k => S115 k (L[j].1, ())) (lp_le _ _ fun _ => Nat.le_refl _) (S115_spec L[j].1 (by omega))) (Ult.ifS (not_false_eq _) (fun _ => Ult.ret) fun _ => ?_)
  refine Ult.bind (Ult.call (f := fun k => S115 k (L[j].2, ())) (lp_le _ _ fun _ => Nat.le_refl _) (S115_spec L[j].2 (by omega))) (Ult.ifS (not_false_eq _) (fun _ => Ult.ret) fun _ => ?_)
  exact order_step hlt (by omega) (next hlt)

/-! ### platforms -/
def chkPlats : List Platform → List Platform → Int
  | _, [] => 0
  | seen, p :: r => if isWord p.1 = false then 5 else if chkPairsL p.2 ≠ 0 then chkPairsL p.2 else if (seen.any fun q => decide (q.1 = p.1)) = true then 7 else chkPlats (seen ++ [p]) r
def chkPlatforms (L : List Platform) : Int := if 50 < L.length then 2 else chkPlats [] L
theorem S159_spec {kk : ι → Nat} (hk : ∀ i, l i ≤ kk i) (L : List Platform) (f : ι → Platform → Option Bool) (p : Platform → Bool) (hf : ∀ a ∈ L, Ult l (fun i => f i a) (p a)) (hL : L.length ≤ 9223372036854775807) : Ult l (fun i => S159 (kk i) (L, f i, ())) (idxF p 0 L) := by
  unfold S159
  exact idx_loop hk L f p hf hL
theorem S119_spec {kk : ι → Nat} (hk : ∀ i, l i ≤ kk i) (L : List Platform) (f : ι → Platform → Option Bool) (p : Platform → Bool) (hf : ∀ a ∈ L, Ult l (fun i => f i a) (p a)) (hL : L.length ≤ 9223372036854775807) : Ult l (fun i => S119 (kk i) (L, f i, ())) (L.any p) := by
  unfold S119
  exact Ult.bind (S159_spec hk L f p hf hL) (Ult.ret.eq idxF_any)
theorem S70_spec (L : List Platform) (hL : PlatSz L) : Ultk (fun k => S70 k (L, ())) (chkPlatforms L) := by
  unfold S70 chkPlatforms
  have hlen := len_big hL.1 (by omega)
  refine Ult.ifS (by rw [igt_eq]; unfold len; simp only [decide_eq_decide]; omega) (fun _ => Ult.ret) fun h30 => ?_
  refine (Ult.forI (fun _ => Nat.le_refl _) L.length (fun j => chkPlats (L.take j) (L.drop j)) fun j hj next => ?_).eq (by rw [List.drop_zero, List.take_zero])
  dsimp only
  rw [iltL]
  by_cases hlt' : ¬ j < L.length
  · refine Ult.no (decide_eq_false hlt') (Ult.ret.eq ?_)
    rw [List.drop_eq_nil_of_le (by omega)]; rfl
  have hlt : j < L.length := Decidable.not_not.1 hlt'
  refine Ult.yes (decide_eq_true hlt) (Ult.bindc (at?_nat hlt) ?_)
  obtain ⟨s1, s2⟩ := hL.2 _ (List.getElem_mem hlt)
  rw [drop_cons hlt, chkPlats, ← List.take_succ_eq_append_getElem hlt, isucc hlt (by omega)]
  have hsp := S98_spec L[j].2 s2
  refine Ult.bind (Ult.call (f := fun k => S113 k (L[j].1, ())) (lp_le _ _ fun _ => Nat.le_refl _) (S113_spec L[j].1 (by omega))) (Ult.ifS (not_false_eq _) (fun _ => Ult.ret) fun _ => ?_)
  refine Ult.bind (Ult.call (f := fun k => S98 k (L[j].2, ())) (lp_le _ _ fun _ => Nat.le_refl _) hsp) (Ult.ifS (ine_eq _ _) (fun _ => Ult.ret) fun _ => ?_)
  refine Ult.bindc (cut?_take (by omega)) ?_
  have ha := S119_spec (l := lp fun k => k) (kk := fun p => p.1) (lp_le _ _ fun _ => Nat.le_refl _) (L.take j) (fun p a => S120 p.1 (a, (L[j].1, L[j].2), ())) (fun q => decide (q.1 = L[j].1)) (fun a _ => Ult.ret.eq (seq_eq _ _)) (by rw [List.length_take]; omega)
  exact Ult.bind ha (Ult.ifS (dec_true _) (fun _ => Ult.ret) fun _ => next hlt)
theorem S66_spec (L : List Platform) (hL : PlatSz L) : Ultk (fun k => S66 k (L, ())) (chkPlatforms L) := by
  unfold S66 chkPlatforms
  have hlen := len_big hL.1 (by omega)
  refine Ult.ifS (by rw [igt_eq]; unfold len; simp only [decide_eq_decide]; omega) (fun _ => Ult.ret) fun h30 => ?_
  refine (Ult.forI (fun _ => Nat.le_refl _) L.length (fun j => chkPlats (L.take j) (L.drop j)) fun j hj next => ?_).eq (by rw [List.drop_zero, List.take_zero])
  dsimp only
  rw [iltL]
  by_cases hlt' : ¬ j < L.length
  · refine Ult.no (decide_eq_false hlt') (Ult.ret.eq ?_)
    rw [List.drop_eq_nil_of_le (by omega)]; rfl
  have hlt : j < L.length := Decidable.not_not.1 hlt'
  refine Ult.yes (decide_eq_true hlt) (Ult.bindc (at?_nat hlt) ?_)
  obtain ⟨s1, s2⟩ := hL.2 _ (List.getElem_mem hlt)
  rw [drop_cons hlt, chkPlats, ← List.take_succ_eq_append_getElem hlt, isucc hlt (by omega)]
  have hsp := S86_spec L[j].2 s2
  refine Ult.bind (Ult.call (f := fun k => S115 k (L[j].1, ())) (lp_le _ _ fun _ => Nat.le_refl _) (S115_spec L[j].1 (by omega))) (Ult.ifS (not_false_eq _) (fun _ => Ult.ret) fun _ => ?_)
  refine Ult.bind (Ult.call (f := fun k => S86 k (L[j].2, ())) (lp_le _ _ fun _ => Nat.le_refl _) hsp) (Ult.ifS (ine_eq _ _) (fun _ => Ult.ret) fun _ => ?_)
  refine Ult.bindc (cut?_take (by omega)) ?_
  have ha := any_loop (l := lp fun k => k) (kk := fun p => p.1) (lp_le _ _ fun _ => Nat.le_refl _) (L.take j) (fun q => seq q.1 L[j].1) (Ult.ret (r := (7 : Int))) (next hlt) (by rw [List.length_take]; omega)
  have e : (fun q : Platform => decide (q.1 = L[j].1)) = fun q => seq q.1 L[j].1 := funext fun q => (seq_eq _ _).symm
  rw [e]
  exact ha

/-! ### tools -/
def chkTls : List Tool → List Tool → Int
  | _, [] => 0
  | seen, p :: r => if isWord p.1 = false then 5 else if isWord p.2.1 = false then 5 else if chkPairsL p.2.2.1 ≠ 0 then chkPairsL p.2.2.1 else if chkPairsL p.2.2.2 ≠ 0 then chkPairsL p.2.2.2 else if (seen.any fun q => decide (q.1 = p.1)) = true then 7 else chkTls (seen ++ [p]) r
def chkTools (L : List Tool) : Int := if 100 < L.length then 2 else chkTls [] L
def chkKinds : Option ByteArray → List ByteArray → Int
  | _, [] => 0
  | prev, p :: r => if isWord p = false then 5 else if notAbove prev p = true then 8 else chkKinds (some p) r
def prevK (L : List ByteArray) (j : Nat) : Option ByteArray := if h : 0 < j ∧ j - 1 < L.length then some (L[j - 1]'h.2) else none
theorem prevK_succ {L : List ByteArray} {j : Nat} (h : j < L.length) : prevK L (j + 1) = some L[j] := by unfold prevK; rw [dif_pos ⟨Nat.succ_pos _, by simpa using h⟩]; simp
theorem order_stepK {C : List ByteArray} {j : Nat} (hlt : j < C.length) (hC : C.length ≤ 9223372036854775807) {e rest : R} {y f : ι → Option R} (he : Ult l y e) (nx : Ult l f rest) :
    Ult l (fun i => cnd (igt (j : Int) 0) (bnd (at? C (isub .i64 (j : Int) 1)) fun a => cnd (sle C[j] a) (y i) (f i)) (f i)) (if notAbove (prevK C j) C[j] = true then e else rest) := by
  rw [igt0]
  by_cases h0 : 0 < j
  · refine Ult.yes (decide_eq_true h0) ?_
    rw [ipred (n := C.length) h0 (by omega) (by omega)]
    refine Ult.bindc (at?_nat (show j - 1 < C.length by omega)) ?_
    have hp : prevK C j = some C[j - 1] := by unfold prevK; rw [dif_pos ⟨h0, by omega⟩]
    rw [hp]
    exact Ult.ifS (dec_true _) (fun _ => he) fun _ => nx
  · refine Ult.no (decide_eq_false h0) ?_
    have : j = 0 := by omega
    subst this
    rw [show prevK C 0 = none from rfl, if_neg (by simp [notAbove])]
    exact nx
def hasP (L : List Pair) (p : Pair) : Bool := L.any fun q => decide (p = q)
theorem S183_spec (L : List Pair) (p : Pair) (hL : L.length ≤ 9223372036854775807) : Ultk (fun k => S183 k (L, p, ())) (idxF (fun q => decide (p = q)) 0 L) := by
  unfold S183
  have h := idx_loop (l := fun k : Nat => k) (fun _ => Nat.le_refl _) L (fun _ a => some (kbeq (Kd.agg (Kd.pair Kd.str Kd.str)) (p.1, p.2) a)) (fun q => decide (p = q)) (fun a _ => Ult.ret.eq (kbeq_pair _ _)) hL
  exact h
theorem S158_spec (L : List Pair) (p : Pair) (hL : L.length ≤ 9223372036854775807) : Ultk (fun k => S158 k (L, p, ())) (hasP L p) := by
  unfold S158
  exact Ult.bind (S183_spec L p hL) (Ult.ret.eq idxF_any)
def fitP (A B : List Pair) : Bool := A.all fun p => hasP B p
theorem if_all (b : Bool) : (if b = true then true else false) = b := by cases b <;> rfl
theorem S126_spec (A B : List Pair) (hA : A.length ≤ 9223372036854775807) (hB : B.length ≤ 9223372036854775807) : Ultk (fun k => S126 k (A, B, ())) (fitP A B) := by
  unfold S126
  have h := all_loop (l := fun k : Nat => k) (fun _ => Nat.le_refl _) A (fun k a => S158 k (B, (a.1, a.2), ())) (fun p => hasP B p) (Ult.ret (r := true)) (Ult.ret (r := false)) (fun a _ => S158_spec B a hB) hA
  exact h.eq (if_all _)
theorem S117_spec (A : List Pair) (p : Platform) (hA : A.length ≤ 9223372036854775807) (hB : p.2.length ≤ 9223372036854775807) : Ultk (fun k => S117 k (A, p, ())) (fitP A p.2) := by
  unfold S117
  have h := all_loop (l := fun k : Nat => k) (fun _ => Nat.le_refl _) A (fun k a => S158 k (p.2, (a.1, a.2), ())) (fun q => hasP p.2 q) (Ult.ret (r := true)) (Ult.ret (r := false)) (fun a _ => S158_spec p.2 a hB) hA
  exact h.eq (if_all _)
end Go.Proofs.YtonfimidgbppeaaGreatDoor.Ev

namespace Go.Proofs.YtonfimidgbppeaaGreatDoor.Ev
open Go Go.RowKit
set_option linter.unusedVariables false
set_option linter.unusedSimpArgs false
variable {ι R α X : Type} {l : ι → Nat}
theorem Ult.copyI {st : ι → (X → Option R) → X → Option R} {k : ι → Nat} (hk : ∀ i, l i ≤ k i) (L : List α) (mk : List α → Nat → X) (r : R)
    (hd : Ult (lp l) (fun p => st p.1 (loopN p.2 (st p.1)) (mk L L.length)) r)
    (hs : ∀ j, (h : j < L.length) → Ult (lp l) (fun p => loopN p.2 (st p.1) (mk (L.take j ++ [L[j]]) (j + 1))) r → Ult (lp l) (fun p => st p.1 (loopN p.2 (st p.1)) (mk (L.take j) j)) r) :
    Ult l (fun i => loopN (k i) (st i) (mk [] 0)) r := by
  refine Ult.forA (A := List α) hk L.length mk (fun v j => v = L.take j) (fun _ _ => r) [] (by simp) fun v j hj hv next => ?_
  subst hv
  by_cases hlt' : ¬ j < L.length
  · have : j = L.length := by omega
    subst this
    rw [List.take_of_length_le (Nat.le_refl _)]
    exact hd
  have hlt : j < L.length := Decidable.not_not.1 hlt'
  refine hs j hlt ?_
  rw [show L.take j ++ [L[j]] = L.take (j + 1) by rw [List.take_succ_eq_append_getElem hlt]]
  exact next _ hlt rfl
theorem iltE (L : List α) : ilt (L.length : Int) (len L) = false := by rw [iltL]; simp
theorem takeL {L : List α} {j : Nat} (h : j < L.length) : (L.take j).length = j := by rw [List.length_take]; omega

theorem S30_spec (p : Condition) (h1 : PairSz p.2.1) (h2 : PairSz p.2.2) : Ultk (fun k => S30 k (p, ())) p := by
  unfold S30
  exact Ult.bind (S7_spec p.2.1 (by have := h1.1; omega)) (Ult.bind (S7_spec p.2.2 (by have := h2.1; omega)) Ult.ret)
theorem S8_spec (p : Platform) (h1 : PairSz p.2) : Ultk (fun k => S8 k (p, ())) p := by
  unfold S8
  exact Ult.bind (S7_spec p.2 (by have := h1.1; omega)) Ult.ret
theorem S31_spec (p : Transition) (h1 : PairSz p.2.1) (h2 : StrsSz p.2.2) : Ultk (fun k => S31 k (p, ())) p := by
  unfold S31
  exact Ult.bind (S7_spec p.2.1 (by have := h1.1; omega)) (Ult.bind (S38_spec p.2.2 (by have := h2.1; omega)) Ult.ret)
theorem S6_spec (x : CWorld) (hx : WorldSz x) : Ultk (fun k => S6 k (x, ())) x := by
  obtain ⟨a, b, c, d, e⟩ := x
  obtain ⟨ha, hb, hc, hd, he⟩ := hx
  dsimp only at ha hb hc hd he
  have lb := len_big hb.1 (by omega)
  have lc := len_big hc.1 (by omega)
  have ld := len_big hd.1 (by omega)
  have le := len_big he.1 (by omega)
  have mb := hb.1
  have mc := hc.1
  have md := hd.1
  have me := he.1
  unfold S6
  try dsimp only
  refine Ult.bind (S29_spec a ha) ?_
  refine Ult.copyI (fun _ => Nat.le_refl _) b (fun v j => ((j : Int), a, v, ([] : List Platform), ([] : List Tool), ([] : List Transition))) _ ?_ fun j hlt next => ?_
  rotate_left
  · try dsimp only
    rw [iltL]
    obtain ⟨s1, s2, s3⟩ := hb.2 _ (List.getElem_mem hlt)
    refine Ult.yes (decide_eq_true hlt) (Ult.bindc (at?_nat hlt) ?_)
    refine Ult.bind (Ult.call (f := fun k => S30 k (b[j], ())) (lp_le _ _ fun _ => Nat.le_refl _) (S30_spec b[j] s2 s3)) ?_
    refine Ult.bindc (app?_ok (by rw [takeL hlt]; show (j + 1) * 64 ≤ _; omega)) ?_
    rw [isucc hlt (by omega)]
    exact next
  try dsimp only
  refine Ult.no (iltE _) ?_
  refine Ult.copyI (lp_le _ _ fun _ => Nat.le_refl _) c (fun v j => ((j : Int), a, b, v, ([] : List Tool), ([] : List Transition))) _ ?_ fun j hlt next => ?_
  rotate_left
  · try dsimp only
    rw [iltL]
    obtain ⟨s1, s2⟩ := hc.2 _ (List.getElem_mem hlt)
    refine Ult.yes (decide_eq_true hlt) (Ult.bindc (at?_nat hlt) ?_)
    refine Ult.bind (Ult.call (f := fun k => S8 k (c[j], ())) (lp_le _ _ (lp_le _ _ fun _ => Nat.le_refl _)) (S8_spec c[j] s2)) ?_
    refine Ult.bindc (app?_ok (by rw [takeL hlt]; show (j + 1) * 40 ≤ _; omega)) ?_
    rw [isucc hlt (by omega)]
    exact next
  try dsimp only
  refine Ult.no (iltE _) ?_
  refine Ult.copyI (lp_le _ _ (lp_le _ _ fun _ => Nat.le_refl _)) d (fun v j => ((j : Int), a, b, c, v, ([] : List Transition))) _ ?_ fun j hlt next => ?_
  rotate_left
  · try dsimp only
    rw [iltL]
    obtain ⟨s1, s2, s3, s4⟩ := hd.2 _ (List.getElem_mem hlt)
    refine Ult.yes (decide_eq_true hlt) (Ult.bindc (at?_nat hlt) ?_)
    refine Ult.bind (Ult.call (f := fun k => S7 k (d[j].2.2.1, ())) (lp_le _ _ (lp_le _ _ (lp_le _ _ fun _ => Nat.le_refl _))) (S7_spec d[j].2.2.1 (by have := s3.1; omega))) ?_
    refine Ult.bind (Ult.call (f := fun k => S7 k (d[j].2.2.2, ())) (lp_le _ _ (lp_le _ _ (lp_le _ _ fun _ => Nat.le_refl _))) (S7_spec d[j].2.2.2 (by have := s4.1; omega))) ?_
    refine Ult.bindc (app?_ok (by rw [takeL hlt]; show (j + 1) * 80 ≤ _; omega)) ?_
    rw [isucc hlt (by omega)]
    exact next
  try dsimp only
  refine Ult.no (iltE _) ?_
  refine Ult.copyI (lp_le _ _ (lp_le _ _ (lp_le _ _ fun _ => Nat.le_refl _))) e (fun v j => ((j : Int), a, b, c, d, v)) _ ?_ fun j hlt next => ?_
  rotate_left
  · try dsimp only
    rw [iltL]
    obtain ⟨s1, s2, s3⟩ := he.2 _ (List.getElem_mem hlt)
    refine Ult.yes (decide_eq_true hlt) (Ult.bindc (at?_nat hlt) ?_)
    refine Ult.bind (Ult.call (f := fun k => S31 k (e[j], ())) (lp_le _ _ (lp_le _ _ (lp_le _ _ (lp_le _ _ fun _ => Nat.le_refl _)))) (S31_spec e[j] s2 s3)) ?_
    refine Ult.bindc (app?_ok (by rw [takeL hlt]; show (j + 1) * 64 ≤ _; omega)) ?_
    rw [isucc hlt (by omega)]
    exact next
  try dsimp only
  exact Ult.no (iltE _) Ult.ret

/-! ### compared with themselves -/
theorem S43_self (p : Condition) (h1 : PairSz p.2.1) (h2 : PairSz p.2.2) : Ultk (fun k => S43 k (p, p, ())) true := by
  unfold S43
  have l1 := h1.len
  have l2 := h2.len
  exact Ult.yes (by rw [seq_eq]; simp) (Ult.bind (S15_self p.2.1 (by omega)) (Ult.yes rfl (Ult.bind (S15_self p.2.2 (by omega)) Ult.ret)))
theorem S16_self (p : Platform) (h1 : PairSz p.2) : Ultk (fun k => S16 k (p, p, ())) true := by
  unfold S16
  have l1 := h1.len
  exact Ult.yes (by rw [seq_eq]; simp) (Ult.bind (S15_self p.2 (by omega)) Ult.ret)
theorem S44_self (p : Transition) (h1 : PairSz p.2.1) (h2 : StrsSz p.2.2) : Ultk (fun k => S44 k (p, p, ())) true := by
  unfold S44
  have l1 := h1.len
  have l2 := len_big h2.1 (by omega)
  exact Ult.yes (by rw [seq_eq]; simp) (Ult.bind (S15_self p.2.1 (by omega)) (Ult.yes rfl (Ult.bind (S25_self p.2.2 (by omega)) Ult.ret)))
theorem S14_self (x : CWorld) (hx : WorldSz x) : Ultk (fun k => S14 k (x, x, ())) true := by
  obtain ⟨a, b, c, d, e⟩ := x
  obtain ⟨ha, hb, hc, hd, he⟩ := hx
  dsimp only at ha hb hc hd he
  have lb := len_big hb.1 (by omega)
  have lc := len_big hc.1 (by omega)
  have ld := len_big hd.1 (by omega)
  have le := len_big he.1 (by omega)
  unfold S14
  try dsimp only
  refine Ult.jn (Ult.bind (S42_self a ha) (Ult.no rfl (Ult.no (by rw [ine_eq]; simp) (Ult.no (by rw [ine_eq]; simp) (Ult.no (by rw [ine_eq]; simp) (Ult.no (by rw [ine_eq]; simp) ?_))))))
  refine Ult.copyI (fun _ => Nat.le_refl _) b (fun _ j => (j : Int)) _ ?_ fun j hlt next => ?_
  rotate_left
  · try dsimp only
    rw [iltL]
    obtain ⟨s1, s2, s3⟩ := hb.2 _ (List.getElem_mem hlt)
    refine Ult.yes (decide_eq_true hlt) (Ult.bindc (at?_nat hlt) (Ult.bindc (at?_nat hlt) ?_))
    refine Ult.bind (Ult.call (f := fun k => S43 k (b[j], b[j], ())) (lp_le _ _ fun _ => Nat.le_refl _) (S43_self b[j] s2 s3)) (Ult.no rfl ?_)
    rw [isucc hlt (by omega)]
    exact next
  try dsimp only
  refine Ult.no (iltE _) ?_
  refine Ult.copyI (lp_le _ _ fun _ => Nat.le_refl _) c (fun _ j => (j : Int)) _ ?_ fun j hlt next => ?_
  rotate_left
  · try dsimp only
    rw [iltL]
    obtain ⟨s1, s2⟩ := hc.2 _ (List.getElem_mem hlt)
    refine Ult.yes (decide_eq_true hlt) (Ult.bindc (at?_nat hlt) (Ult.bindc (at?_nat hlt) ?_))
    refine Ult.bind (Ult.call (f := fun k => S16 k (c[j], c[j], ())) (lp_le _ _ (lp_le _ _ fun _ => Nat.le_refl _)) (S16_self c[j] s2)) (Ult.no rfl ?_)
    rw [isucc hlt (by omega)]
    exact next
  try dsimp only
  refine Ult.no (iltE _) ?_
  refine Ult.copyI (lp_le _ _ (lp_le _ _ fun _ => Nat.le_refl _)) d (fun _ j => (j : Int)) _ ?_ fun j hlt next => ?_
  rotate_left
  · try dsimp only
    rw [iltL]
    obtain ⟨s1, s2, s3, s4⟩ := hd.2 _ (List.getElem_mem hlt)
    have l3 := s3.len
    have l4 := s4.len
    refine Ult.yes (decide_eq_true hlt) (Ult.bindc (at?_nat hlt) (Ult.bindc (at?_nat hlt) (Ult.jn (Ult.no (by rw [sne_eq]; simp) (Ult.no (by rw [sne_eq]; simp) ?_)))))
    refine Ult.bind (Ult.call (f := fun k => S15 k (d[j].2.2.1, d[j].2.2.1, ())) (lp_le _ _ (lp_le _ _ (lp_le _ _ fun _ => Nat.le_refl _))) (S15_self d[j].2.2.1 (by omega))) (Ult.no rfl ?_)
    refine Ult.bind (Ult.call (f := fun k => S15 k (d[j].2.2.2, d[j].2.2.2, ())) (lp_le _ _ (lp_le _ _ (lp_le _ _ fun _ => Nat.le_refl _))) (S15_self d[j].2.2.2 (by omega))) (Ult.no rfl ?_)
    rw [isucc hlt (by omega)]
    exact next
  try dsimp only
  refine Ult.no (iltE _) ?_
  refine Ult.copyI (lp_le _ _ (lp_le _ _ (lp_le _ _ fun _ => Nat.le_refl _))) e (fun _ j => (j : Int)) _ ?_ fun j hlt next => ?_
  rotate_left
  · try dsimp only
    rw [iltL]
    obtain ⟨s1, s2, s3⟩ := he.2 _ (List.getElem_mem hlt)
    refine Ult.yes (decide_eq_true hlt) (Ult.bindc (at?_nat hlt) (Ult.bindc (at?_nat hlt) ?_))
    refine Ult.bind (Ult.call (f := fun k => S44 k (e[j], e[j], ())) (lp_le _ _ (lp_le _ _ (lp_le _ _ (lp_le _ _ fun _ => Nat.le_refl _)))) (S44_self e[j] s2 s3)) (Ult.no rfl ?_)
    rw [isucc hlt (by omega)]
    exact next
  try dsimp only
  exact Ult.no (iltE _) Ult.ret
end Go.Proofs.YtonfimidgbppeaaGreatDoor.Ev

namespace Go.Proofs.YtonfimidgbppeaaGreatDoor.Ev
open Go Go.RowKit
set_option linter.unusedVariables false
set_option linter.unusedSimpArgs false
variable {ι R α X : Type} {l : ι → Nat}
def fitT (kd : ByteArray) (p q : Platform) (t : Tool) : Bool := if t.2.1 = kd then (if fitP t.2.2.1 p.2 = true then fitP t.2.2.2 q.2 else false) else false
def toolsOn (T : List Tool) (p q : Platform) : List ByteArray → List ByteArray → List ByteArray × Bool
  | acc, [] => (acc, true)
  | acc, kd :: r => match T.find? (fitT kd p q) with
    | none => ([], false)
    | some t => toolsOn T p q (acc ++ [t.1]) r
abbrev Ans : Type := ByteArray × List ByteArray × Bool × Int
def orErr (n : Int) (r : Ans) : Ans := if n ≠ 0 then (⟨#[]⟩, [], false, n) else r
theorem orErr_ite {P : Prop} [Decidable P] {x y : Int} {r : Ans} : orErr (if P then x else y) r = if P then orErr x r else orErr y r := by split <;> rfl
theorem orErr_zero {r : Ans} : orErr 0 r = r := rfl
def kindsChk (K : List ByteArray) : Int := if 30 < K.length then 2 else chkKinds none K
def firstPlat (T : List Tool) (K : List ByteArray) (q : Platform) : List Platform → Ans
  | [] => (⟨#[]⟩, [], false, 0)
  | p :: r => if (toolsOn T p q [] K).2 = true then (p.1, (toolsOn T p q [] K).1, true, 0) else firstPlat T K q r
def toolsAns (P : List Platform) (T : List Tool) (K : List ByteArray) (q : Platform) : Ans :=
  orErr (chkPlatforms P) (orErr (chkTools T) (orErr (kindsChk K) (orErr (chkPlatforms [q]) (firstPlat T K q P))))
theorem PlatSz.one {q : Platform} (h1 : q.1.size ≤ 140737488351232) (h2 : PairSz q.2) : PlatSz [q] :=
  ⟨by show 1 * 40 ≤ _; omega, fun p hp => by rw [List.mem_singleton] at hp; subst hp; exact ⟨h1, h2⟩⟩
theorem first_loop {kk : ι → Nat} (hk : ∀ i, l i ≤ kk i) (T : List Tool) (K : List ByteArray) (q : Platform) (P : List Platform) (f : ι → Platform → Option (List ByteArray × Bool)) (hf : ∀ p ∈ P, Ult l (fun i => f i p) (toolsOn T p q [] K)) (hP : P.length ≤ 9223372036854775807) :
    Ult l (fun i => loopN (kk i) (fun (a6 : Int → Option Ans) (a7 : Int) => cnd (ilt a7 (len P)) (bnd (at? P a7) fun a8 => bnd (f i a8) fun a9 => cnd a9.2 (some (a8.1, a9.1, true, 0)) (a6 (iadd .i64 a7 1))) (some ((⟨#[]⟩ : ByteArray), ([] : List ByteArray), false, 0))) 0) (firstPlat T K q P) := by
  refine (Ult.forI hk P.length (fun j => firstPlat T K q (P.drop j)) fun j hj next => ?_).eq (by rw [List.drop_zero])
  rw [iltL]
  by_cases hlt' : ¬ j < P.length
  · refine Ult.no (decide_eq_false hlt') (Ult.ret.eq ?_)
    rw [List.drop_eq_nil_of_le (by omega)]; rfl
  have hlt : j < P.length := Decidable.not_not.1 hlt'
  refine Ult.yes (decide_eq_true hlt) (Ult.bindc (at?_nat hlt) (Ult.bind (hf _ (List.getElem_mem hlt)).lift ?_))
  rw [drop_cons hlt, firstPlat, isucc hlt hP]
  exact Ult.ifS (dec_true _) (fun _ => Ult.ret) (fun _ => next hlt)
theorem toolsOn_len {T : List Tool} {p q : Platform} : ∀ {K acc : List ByteArray}, (toolsOn T p q acc K).1.length ≤ acc.length + K.length
  | [], acc => Nat.le_refl _
  | kd :: r, acc => by
    rw [toolsOn]
    split
    · exact Nat.zero_le _
    · have := toolsOn_len (T := T) (p := p) (q := q) (K := r) (acc := acc ++ [(‹Tool›).1])
      simp only [List.length_append, List.length_cons, List.length_nil] at this ⊢
      omega
theorem firstPlat_len {T : List Tool} {K : List ByteArray} {q : Platform} : ∀ {P : List Platform}, (firstPlat T K q P).2.1.length ≤ K.length
  | [] => Nat.zero_le _
  | p :: r => by
    rw [firstPlat]
    split
    · have := toolsOn_len (T := T) (p := p) (q := q) (K := K) (acc := [])
      simpa using this
    · exact firstPlat_len
theorem orErr_len {n : Int} {r : Ans} {m : Nat} (h : r.2.1.length ≤ m) : (orErr n r).2.1.length ≤ m := by
  unfold orErr
  split
  · exact Nat.zero_le _
  · exact h
theorem toolsAns_len {P : List Platform} {T : List Tool} {K : List ByteArray} {q : Platform} : (toolsAns P T K q).2.1.length ≤ K.length := orErr_len (orErr_len (orErr_len (orErr_len firstPlat_len)))
end Go.Proofs.YtonfimidgbppeaaGreatDoor.Ev

namespace Go.Proofs.YtonfimidgbppeaaGreatDoor.Ev
open Go Go.RowKit
set_option linter.unusedVariables false
set_option linter.unusedSimpArgs false
variable {ι R α X : Type} {l : ι → Nat}
def okB (b : UInt8) : Bool := decide (32 ≤ b.toNat ∧ b.toNat ≤ 126)
def dflt : ByteArray := ⟨#[100, 101, 102, 97, 117, 108, 116]⟩
def isCond (s : ByteArray) : Bool := s.data.toList.all okB && (decide (1 ≤ s.size ∧ s.size ≤ 1000) && decide (s ≠ dflt))
theorem S96_78 (k k' : Nat) (s : ByteArray) : S96 k (s, (fun a => S97 k' (a, ())), ()) = some (!(s.data.toList.all okB)) := by
  have hv : ∀ n : Nat, S97 k' ((n : Int), ()) = some (decide (n < 32 ∨ 126 < n)) := fun n => by
    unfold S97
    dsimp only
    rw [ilt_eq, igt_eq]
    by_cases h : n < 32
    · rw [decide_eq_true (show (n : Int) < 32 by omega), decide_eq_true (Or.inl h)]; rfl
    · rw [decide_eq_false (show ¬ (n : Int) < 32 by omega)]
      show some (decide ((126 : Int) < n)) = _
      congr 1
      simp only [decide_eq_decide]
      omega
  unfold S96 containsF
  rw [if_pos (show Runes _ from fun n _ => ⟨_, hv n⟩)]
  congr 1
  rw [show (fun x : Nat => (S97 k' ((x : Int), ())).getD false) = fun n => decide (n < 32 ∨ 126 < n) from funext fun n => by rw [hv n]; rfl]
  unfold Lib.idxFunc
  rw [idxFrom_any _ (fun r hr => by simp; omega) s s.size 0 (by omega), List.drop_zero]
  rw [List.not_all_eq_any_not]
  congr 1
  funext b
  unfold okB
  rw [← decide_not]
  simp only [decide_eq_decide]
  omega
theorem S84_spec (s : ByteArray) (hs : s.size ≤ 9223372036854775807) : Ultk (fun k => S84 k (s, ())) (isCond s) := by
  unfold S84 isCond
  have hl : s.data.toList.length = s.size := by simp
  refine (Ult.forI (fun _ => Nat.le_refl _) s.size (fun j => (s.data.toList.drop j).all okB && (decide (1 ≤ s.size ∧ s.size ≤ 1000) && decide (s ≠ dflt))) fun j hj next => ?_).eq (by rw [List.drop_zero])
  dsimp only
  by_cases hlt' : ¬ j < s.size
  · refine Ult.no (by rw [iltS]; exact decide_eq_false hlt') ?_
    rw [List.drop_eq_nil_of_le (by omega), List.all_nil, Bool.true_and]
    have h100 : Ultk (fun k => S132 k (ssz s, 1, 1000, ())) (decide (1 ≤ s.size ∧ s.size ≤ 1000)) := by
      unfold S132
      by_cases h1 : 1 ≤ s.size
      · refine Ult.yes (by simp only [ile_eq, ssz, decide_eq_true_eq]; omega) (Ult.ret.eq ?_)
        simp only [ile_eq, ssz]
        by_cases h2 : s.size ≤ 1000
        · rw [decide_eq_true (by omega), decide_eq_true ⟨h1, h2⟩]
        · rw [decide_eq_false (by omega), decide_eq_false (by omega)]
      · refine Ult.no (by simp only [ile_eq, ssz, decide_eq_false_iff_not]; omega) (Ult.ret.eq ?_)
        rw [decide_eq_false (by omega)]
    refine Ult.bind (Ult.call (lp_le _ _ fun _ => Nat.le_refl _) h100) ?_
    cases decide (1 ≤ s.size ∧ s.size ≤ 1000)
    · exact Ult.no rfl Ult.ret
    · exact Ult.yes rfl (Ult.ret.eq (by rw [sne_eq]; rfl))
  have hlt : j < s.size := Decidable.not_not.1 hlt'
  have hb := bt?_nat hlt
  have e := bt_get hlt
  refine Ult.yes (by rw [iltS]; exact decide_eq_true hlt) (Ult.bindc hb ?_)
  rw [drop_cons (by omega : j < s.data.toList.length), List.all_cons, isucc hlt hs, e]
  unfold okB at *
  by_cases h1 : (s.data.toList[j]'(by omega)).toNat < 32
  · refine Ult.yes (by rw [ilt_eq]; exact decide_eq_true (by omega)) (Ult.ret.eq ?_)
    rw [decide_eq_false (by omega), Bool.false_and, Bool.false_and]
  refine Ult.no (by rw [ilt_eq]; exact decide_eq_false (by omega)) (Ult.bindc hb ?_)
  rw [e]
  by_cases h2 : 126 < (s.data.toList[j]'(by omega)).toNat
  · refine Ult.yes (by rw [igt_eq]; exact decide_eq_true (by omega)) (Ult.ret.eq ?_)
    rw [decide_eq_false (by omega), Bool.false_and, Bool.false_and]
  refine Ult.no (by rw [igt_eq]; exact decide_eq_false (by omega)) ?_
  rw [decide_eq_true (by omega), Bool.true_and]
  exact next hlt
theorem isCond_join {l : ι → Nat} (s : ByteArray) {k k' : ι → Nat} {g : ι → Bool → Option R} {r : R} (h : Ult l (fun i => g i (!isCond s)) r) :
    Ult l (fun i => jn (fun a6 => cnd (ilt (ssz s) 1) (a6 true) (cnd (igt (ssz s) 1000) (a6 true) (cnd (seq s (⟨#[100, 101, 102, 97, 117, 108, 116]⟩ : ByteArray)) (a6 true) (bnd (S96 (k i) (s, (fun a => S97 (k' i) (a, ())), ())) (fun a7 => a6 a7))))) (g i)) r := by
  refine Ult.jn ?_
  by_cases h1 : s.size < 1
  · refine Ult.yes (by simp only [ilt_eq, ssz, decide_eq_true_eq]; omega) ?_
    rw [show isCond s = false by unfold isCond; rw [decide_eq_false (by omega : ¬ (1 ≤ s.size ∧ s.size ≤ 1000)), Bool.false_and, Bool.and_false]] at h
    exact h
  refine Ult.no (by simp only [ilt_eq, ssz, decide_eq_false_iff_not]; omega) ?_
  by_cases h2 : 1000 < s.size
  · refine Ult.yes (by simp only [igt_eq, ssz, decide_eq_true_eq]; omega) ?_
    rw [show isCond s = false by unfold isCond; rw [decide_eq_false (by omega : ¬ (1 ≤ s.size ∧ s.size ≤ 1000)), Bool.false_and, Bool.and_false]] at h
    exact h
  refine Ult.no (by simp only [igt_eq, ssz, decide_eq_false_iff_not]; omega) ?_
  by_cases h3 : s = dflt
  · refine Ult.yes (by rw [seq_eq]; exact decide_eq_true h3) ?_
    rw [show isCond s = false by unfold isCond; rw [decide_eq_false (by simpa using h3 : ¬ (s ≠ dflt)), Bool.and_false, Bool.and_false]] at h
    exact h
  refine Ult.no (by rw [seq_eq]; exact decide_eq_false h3) ?_
  rw [show isCond s = s.data.toList.all okB by unfold isCond; rw [decide_eq_true h3, decide_eq_true (by omega : 1 ≤ s.size ∧ s.size ≤ 1000)]; simp] at h
  exact h.congr fun i => by rw [S96_78]; rfl

/-- the order of names, and what comes then -/
theorem order_stepG {C : List (ByteArray × α)} {j : Nat} (hlt : j < C.length) (hC : C.length ≤ 9223372036854775807) {e rest : R} {f : ι → Option R} (nx : Ult l f rest) :
    Ult l (fun i => cnd (igt (j : Int) 0) (bnd (at? C (isub .i64 (j : Int) 1)) fun a => cnd (sle C[j].1 a.1) (some e) (f i)) (f i)) (if notAbove (prevOf C j) C[j].1 = true then e else rest) := by
  rw [igt0]
  by_cases h0 : 0 < j
  · refine Ult.yes (decide_eq_true h0) ?_
    rw [ipred (n := C.length) h0 (by omega) (by omega)]
    refine Ult.bindc (at?_nat (show j - 1 < C.length by omega)) ?_
    have hp : prevOf C j = some C[j - 1].1 := by unfold prevOf; rw [dif_pos ⟨h0, by omega⟩]
    rw [hp]
    exact Ult.ifS (dec_true _) (fun _ => Ult.ret) fun _ => nx
  · refine Ult.no (decide_eq_false h0) ?_
    have : j = 0 := by omega
    subst this
    rw [prevOf_zero, if_neg (by simp [notAbove])]
    exact nx
theorem S85_spec (L : List Setting) (C : List Pair) (hL : SetSz L) (hC : C.length ≤ 140737488355328) : Ultk (fun k => S85 k (L, C, ())) (chkSet L false none C) := by
  unfold S85
  have hlen := hL.len
  refine (Ult.forI (fun _ => Nat.le_refl _) C.length (fun j => chkSet L false (prevOf C j) (C.drop j)) fun j hj next => ?_).eq (by rw [List.drop_zero, prevOf_zero])
  dsimp only
  rw [iltL]
  by_cases hlt' : ¬ j < C.length
  · refine Ult.no (decide_eq_false hlt') (Ult.ret.eq ?_)
    rw [List.drop_eq_nil_of_le (by omega)]
    cases prevOf C j <;> rfl
  have hlt : j < C.length := Decidable.not_not.1 hlt'
  refine Ult.yes (decide_eq_true hlt) (Ult.bindc (at?_nat hlt) ?_)
  rw [isucc hlt (by omega)]
  have next' := next hlt
  clear next
  refine Ult.bind (Ult.call (f := fun k => S114 k (L, C[j].1, ())) (lp_le _ _ fun _ => Nat.le_refl _) (S114_spec L C[j].1 (by omega))) ?_
  cases hl : look L C[j].1 with
  | none =>
    rw [chkSet_none hlt hl]
    have : lookS L C[j].1 = ((⟨#[]⟩, []), false) := by unfold lookS; rw [hl]
    rw [this]
    exact Ult.yes rfl Ult.ret
  | some s =>
    rw [chkSet_some hlt hl]
    have : lookS L C[j].1 = (s, true) := by unfold lookS; rw [hl]
    rw [this]
    refine Ult.no rfl ?_
    obtain ⟨m1, m2⟩ := look_name hl
    obtain ⟨hs1, hs2, hs3⟩ := hL.2 s m1
    have hs2' := len_big hs2 (by omega)
    refine Ult.bind (Ult.call (f := fun k => S61 k (s.2, C[j].2, ())) (lp_le _ _ fun _ => Nat.le_refl _) (S61_spec s.2 C[j].2 (by omega))) ?_
    refine Ult.ifS (not_false_eq _) (fun _ => Ult.ret) fun hm => ?_
    rw [if_neg (by simp)]
    exact order_step hlt (by omega) next'
def chkConds (L : List Setting) : Option ByteArray → List Condition → Int
  | _, [] => 0
  | prev, x :: r => if isCond x.1 = false then 3 else if 30 < x.2.1.length then 2 else if 30 < x.2.2.length then 2 else if chkSet L false none x.2.1 ≠ 0 then chkSet L false none x.2.1 else if chkPairsL x.2.2 ≠ 0 then chkPairsL x.2.2 else if notAbove prev x.1 = true then 8 else chkConds L (some x.1) r
def chkConditions (L : List Setting) (M : List Condition) : Int := if chkSettings L ≠ 0 then chkSettings L else if 100 < M.length then 2 else chkConds L none M
theorem S54_spec (L : List Setting) (M : List Condition) (hL : SetSz L) (hM : CondSz M) : Ultk (fun k => S54 k (L, M, ())) (chkConditions L M) := by
  unfold S54 chkConditions
  have hlen := len_big hM.1 (by omega)
  refine Ult.bind (S63_spec L hL) (Ult.ifS (ine_eq _ _) (fun _ => Ult.ret) fun _ => ?_)
  refine Ult.ifS (by rw [igt_eq]; unfold len; simp only [decide_eq_decide]; omega) (fun _ => Ult.ret) fun h30 => ?_
  refine (Ult.forI (fun _ => Nat.le_refl _) M.length (fun j => chkConds L (prevOf M j) (M.drop j)) fun j hj next => ?_).eq (by rw [List.drop_zero, prevOf_zero])
  dsimp only
  rw [iltL]
  by_cases hlt' : ¬ j < M.length
  · refine Ult.no (decide_eq_false hlt') (Ult.ret.eq ?_)
    rw [List.drop_eq_nil_of_le (by omega)]
    cases prevOf M j <;> rfl
  have hlt : j < M.length := Decidable.not_not.1 hlt'
  refine Ult.yes (decide_eq_true hlt) (Ult.bindc (at?_nat hlt) ?_)
  obtain ⟨s1, s2, s3⟩ := hM.2 _ (List.getElem_mem hlt)
  have l2 := s2.len
  have l3 := s3.len
  rw [drop_cons hlt, chkConds, ← prevOf_succ hlt, isucc hlt (by omega)]
  refine (isCond_join _ (Ult.ifS (by cases isCond M[j].1 <;> rfl) (fun _ => Ult.ret) fun _ => Ult.jn ?_))
  refine Ult.ifS (by rw [igt_eq]; unfold len; simp only [decide_eq_decide]; omega) (fun _ => Ult.ret) fun _ => ?_
  refine Ult.ifS (by rw [igt_eq]; unfold len; simp only [decide_eq_decide]; omega) (fun _ => Ult.ret) fun _ => ?_
  refine Ult.bind (Ult.call (f := fun k => S64 k (L, M[j].2.1, false, ())) (lp_le _ _ fun _ => Nat.le_refl _) (S64_spec L M[j].2.1 false hL (by omega))) (Ult.ifS (ine_eq _ _) (fun _ => Ult.ret) fun _ => ?_)
  refine Ult.bind (Ult.call (f := fun k => S98 k (M[j].2.2, ())) (lp_le _ _ fun _ => Nat.le_refl _) (S98_spec M[j].2.2 s3)) (Ult.ifS (ine_eq _ _) (fun _ => Ult.ret) fun _ => ?_)
  exact order_stepG hlt (by omega) (next hlt)
theorem S46_spec (L : List Setting) (M : List Condition) (hL : SetSz L) (hM : CondSz M) : Ultk (fun k => S46 k (L, M, ())) (chkConditions L M) := by
  unfold S46 chkConditions
  have hlen := len_big hM.1 (by omega)
  refine Ult.bind (S83_spec L hL) (Ult.ifS (ine_eq _ _) (fun _ => Ult.ret) fun _ => ?_)
  refine Ult.ifS (by rw [igt_eq]; unfold len; simp only [decide_eq_decide]; omega) (fun _ => Ult.ret) fun h30 => ?_
  refine (Ult.forI (fun _ => Nat.le_refl _) M.length (fun j => chkConds L (prevOf M j) (M.drop j)) fun j hj next => ?_).eq (by rw [List.drop_zero, prevOf_zero])
  dsimp only
  rw [iltL]
  by_cases hlt' : ¬ j < M.length
  · refine Ult.no (decide_eq_false hlt') (Ult.ret.eq ?_)
    rw [List.drop_eq_nil_of_le (by omega)]
    cases prevOf M j <;> rfl
  have hlt : j < M.length := Decidable.not_not.1 hlt'
  refine Ult.yes (decide_eq_true hlt) (Ult.bindc (at?_nat hlt) ?_)
  obtain ⟨s1, s2, s3⟩ := hM.2 _ (List.getElem_mem hlt)
  have l2 := s2.len
  have l3 := s3.len
  rw [drop_cons hlt, chkConds, ← prevOf_succ hlt, isucc hlt (by omega)]
  refine Ult.bind (Ult.call (f := fun k => S84 k (M[j].1, ())) (lp_le _ _ fun _ => Nat.le_refl _) (S84_spec M[j].1 (by omega))) (Ult.ifS (not_false_eq _) (fun _ => Ult.ret) fun _ => Ult.jn ?_)
  refine Ult.ifS (by rw [igt_eq]; unfold len; simp only [decide_eq_decide]; omega) (fun _ => Ult.ret) fun _ => ?_
  refine Ult.ifS (by rw [igt_eq]; unfold len; simp only [decide_eq_decide]; omega) (fun _ => Ult.ret) fun _ => ?_
  refine Ult.bind (Ult.call (f := fun k => S85 k (L, M[j].2.1, ())) (lp_le _ _ fun _ => Nat.le_refl _) (S85_spec L M[j].2.1 hL (by omega))) (Ult.ifS (ine_eq _ _) (fun _ => Ult.ret) fun _ => ?_)
  refine Ult.bind (Ult.call (f := fun k => S86 k (M[j].2.2, ())) (lp_le _ _ fun _ => Nat.le_refl _) (S86_spec M[j].2.2 s3)) (Ult.ifS (ine_eq _ _) (fun _ => Ult.ret) fun _ => ?_)
  exact order_stepG hlt (by omega) (next hlt)

/-! ### holds -/
def needsOk (L : List Setting) (C : List Pair) (N : List Pair) : Bool := N.all fun n => decide (valOf L C n.1 = some n.2)
def holdsB (L : List Setting) (x : Condition) (C : List Pair) (p : Platform) : Bool := if needsOk L C x.2.1 = true then fitP x.2.2 p.2 else false
theorem holds_loop {kk : ι → Nat} (hk : ∀ i, l i ≤ kk i) (L : List Setting) (C N : List Pair) (f : ι → ByteArray → Option ByteArray) (hf : ∀ n ∈ N, ∃ v, valOf L C n.1 = some v ∧ Ult l (fun i => f i n.1) v) (hN : N.length ≤ 9223372036854775807) {y : ι → Option Bool} {r : Bool} (hy : Ult l y r) :
    Ult l (fun i => loopN (kk i) (fun (a2 : Int → Option Bool) (a3 : Int) => cnd (ilt a3 (len N)) (bnd (at? N a3) fun a4 => bnd (f i a4.1) fun a5 => cnd (sne a5 a4.2) (some false) (a2 (iadd .i64 a3 1))) (y i)) 0) (if needsOk L C N = true then r else false) := by
  refine (Ult.forI hk N.length (fun j => if needsOk L C (N.drop j) = true then r else false) fun j hj next => ?_).eq (by rw [List.drop_zero])
  rw [iltL]
  by_cases hlt' : ¬ j < N.length
  · refine Ult.no (decide_eq_false hlt') (hy.lift.eq ?_)
    rw [List.drop_eq_nil_of_le (by omega)]; rfl
  have hlt : j < N.length := Decidable.not_not.1 hlt'
  obtain ⟨v, v1, v2⟩ := hf _ (List.getElem_mem hlt)
  refine Ult.yes (decide_eq_true hlt) (Ult.bindc (at?_nat hlt) (Ult.bind v2.lift ?_))
  have nx := next hlt
  have e : needsOk L C (N.drop j) = (decide (valOf L C N[j].1 = some N[j].2) && needsOk L C (N.drop (j + 1))) := by rw [drop_cons hlt]; rfl
  rw [e, isucc hlt hN, v1]
  by_cases hv : v = N[j].2
  · refine Ult.no (by rw [sne_eq]; simpa using hv) ?_
    rw [decide_eq_true (by rw [hv]), Bool.true_and]
    exact nx
  · refine Ult.yes (by rw [sne_eq]; exact decide_eq_true hv) (Ult.ret.eq ?_)
    rw [decide_eq_false (by simpa using hv), Bool.false_and]; rfl
theorem S77_spec (L : List Setting) (x : Condition) (C : List Pair) (p : Platform) (hL : L.length ≤ 9223372036854775807) (hC : C.length ≤ 9223372036854775807) (h1 : PairSz x.2.1) (h2 : PairSz x.2.2) (h3 : PairSz p.2) (hv : ∀ n ∈ x.2.1, ∃ v, valOf L C n.1 = some v) : Ultk (fun k => S77 k (L, x, C, p, ())) (holdsB L x C p) := by
  unfold S77 holdsB
  have l1 := h1.len
  have l2 := h2.len
  have l3 := h3.len
  exact holds_loop (l := fun k : Nat => k) (fun _ => Nat.le_refl _) L C x.2.1 (fun k n => S60 k (L, C, n, ())) (fun n hn => by
    obtain ⟨v, hv⟩ := hv n hn
    exact ⟨v, hv, S60_spec L C n.1 v hL hC hv⟩) (by omega) (Ult.bind (S126_spec x.2.2 p.2 (by omega) (by omega)) Ult.ret)
theorem S67_spec (L : List Setting) (x : Condition) (C : List Pair) (p : Platform) (hL : L.length ≤ 9223372036854775807) (hC : C.length ≤ 9223372036854775807) (h1 : PairSz x.2.1) (h2 : PairSz x.2.2) (h3 : PairSz p.2) (hv : ∀ n ∈ x.2.1, ∃ v, valOf L C n.1 = some v) : Ultk (fun k => S67 k (L, x, C, p, ())) (holdsB L x C p) := by
  unfold S67 holdsB
  have l1 := h1.len
  have l2 := h2.len
  have l3 := h3.len
  exact holds_loop (l := fun k : Nat => k) (fun _ => Nat.le_refl _) L C x.2.1 (fun k n => S116 k (L, C, n, ())) (fun n hn => by
    obtain ⟨v, hv⟩ := hv n hn
    exact ⟨v, hv, S116_spec L C n.1 v hL hC hv⟩) (by omega) (Ult.bind (S117_spec x.2.2 p (by omega) (by omega)) Ult.ret)
def holdsAns (L : List Setting) (x : Condition) (C : List Pair) (p : Platform) : Bool × Int :=
  if chkConfig L C ≠ 0 then (false, chkConfig L C) else if chkConditions L [x] ≠ 0 then (false, chkConditions L [x]) else if chkPlatforms [p] ≠ 0 then (false, chkPlatforms [p]) else (holdsB L x C p, 0)
theorem chkConditions_one {L : List Setting} {x : Condition} (h : chkConditions L [x] = 0) : chkSettings L = 0 ∧ chkSet L false none x.2.1 = 0 := by
  unfold chkConditions at h
  split at h
  · rename_i q; exact absurd h q
  · rename_i q
    refine ⟨Decidable.not_not.1 q, ?_⟩
    rw [if_neg (by simp), chkConds] at h
    split at h
    · cases h
    split at h
    · cases h
    split at h
    · cases h
    split at h
    · rename_i q4; exact absurd h q4
    · rename_i q4; exact Decidable.not_not.1 q4
theorem CondSz.one {x : Condition} (h0 : x.1.size ≤ 140737488351232) (h1 : PairSz x.2.1) (h2 : PairSz x.2.2) : CondSz [x] :=
  ⟨by show 1 * 64 ≤ _; omega, fun p hp => by rw [List.mem_singleton] at hp; subst hp; exact ⟨h0, h1, h2⟩⟩
theorem holds_vals {L : List Setting} {x : Condition} {C : List Pair} (h : chkConditions L [x] = 0) : ∀ n ∈ x.2.1, ∃ v, valOf L C n.1 = some v := fun n hn => by
  obtain ⟨h1, h2⟩ := chkConditions_one h
  obtain ⟨s, hs, _⟩ := (chkSet_ok h2).1 n hn
  exact valOf_some h1 hs
end Go.Proofs.YtonfimidgbppeaaGreatDoor.Ev

namespace Go.Proofs.YtonfimidgbppeaaGreatDoor.Ev
open Go Go.RowKit
set_option linter.unusedVariables false
set_option linter.unusedSimpArgs false
variable {ι R α X : Type} {l : ι → Nat}
abbrev V0 : Type := Int × ByteArray × Int × List ByteArray × Nat
abbrev Case : Type := ByteArray × V0
abbrev V1 : Type := Int × ByteArray × Int × List ByteArray × List Case
theorem jn_and (c d : Bool) (g : Bool → Option R) : jn (fun a => cnd c (a d) (a false)) g = g (c && d) := by cases c <;> rfl
theorem jn_or (c d : Bool) (g : Bool → Option R) : jn (fun a => cnd c (a true) (a d)) g = g (c || d) := by cases c <;> rfl
/-! ### texts -/
def okT (b : UInt8) : Bool := decide (b.toNat = 10 ∨ 32 ≤ b.toNat ∧ b.toNat ≤ 126)
def isTxt (s : ByteArray) : Bool := s.data.toList.all okT
theorem txt_loop {kk : ι → Nat} (hk : ∀ i, l i ≤ kk i) (s : ByteArray) (hs : s.size ≤ 9223372036854775807) : Ult l (fun i => loopN (kk i) (fun (a2 : (Int → (Option Bool))) (a3 : Int) => cnd (ilt a3 (ssz s)) (bnd (bt? s a3) (fun (a4 : Int) => cnd (ine a4 10) (bnd (bt? s a3) (fun (a5 : Int) => cnd (ilt a5 32) (some false) (bnd (bt? s a3) (fun (a6 : Int) => cnd (igt a6 126) (some false) (a2 (iadd Go.IntKind.i64 a3 1)))))) (a2 (iadd Go.IntKind.i64 a3 1)))) (some true)) 0) (isTxt s) := by
  have hl : s.data.toList.length = s.size := by simp
  refine (Ult.forI hk s.size (fun j => (s.data.toList.drop j).all okT) fun j hj next => ?_).eq (by rw [List.drop_zero]; rfl)
  by_cases hlt' : ¬ j < s.size
  · refine Ult.no (by rw [iltS]; exact decide_eq_false hlt') (Ult.ret.eq ?_)
    rw [List.drop_eq_nil_of_le (by omega), List.all_nil]
  have hlt : j < s.size := Decidable.not_not.1 hlt'
  have hb := bt?_nat hlt
  have e := bt_get hlt
  refine Ult.yes (by rw [iltS]; exact decide_eq_true hlt) (Ult.bindc hb ?_)
  rw [drop_cons (by omega : j < s.data.toList.length), List.all_cons, isucc hlt hs, e]
  have nx := next hlt
  generalize hbb : s.data.toList[j]'(by omega) = b at e ⊢
  have step : okT b = true → Ult (lp l) (fun p => loopN p.2 _ ((j + 1 : Nat) : Int)) (okT b && (s.data.toList.drop (j + 1)).all okT) := fun h => by rw [h, Bool.true_and]; exact nx
  by_cases h10 : b.toNat = 10
  · refine Ult.no (by rw [ine_eq]; simp only [decide_eq_false_iff_not]; omega) ?_
    exact step (by unfold okT; rw [decide_eq_true (by omega)])
  refine Ult.yes (by rw [ine_eq]; exact decide_eq_true (by omega)) (Ult.bindc hb ?_)
  rw [e]
  by_cases h32 : b.toNat < 32
  · refine Ult.yes (by rw [ilt_eq]; exact decide_eq_true (by omega)) (Ult.ret.eq ?_)
    unfold okT; rw [decide_eq_false (by omega), Bool.false_and]
  refine Ult.no (by rw [ilt_eq]; exact decide_eq_false (by omega)) (Ult.bindc hb ?_)
  rw [e]
  by_cases h126 : 126 < b.toNat
  · refine Ult.yes (by rw [igt_eq]; exact decide_eq_true (by omega)) (Ult.ret.eq ?_)
    unfold okT; rw [decide_eq_false (by omega), Bool.false_and]
  refine Ult.no (by rw [igt_eq]; exact decide_eq_false (by omega)) ?_
  exact step (by unfold okT; rw [decide_eq_true (by omega)])
theorem txtP (s : ByteArray) (hs : s.size ≤ 9223372036854775807) : Ultk (fun k => S73 k (s, ())) (isTxt s) := by
  unfold S73
  exact txt_loop (l := fun k : Nat => k) (fun _ => Nat.le_refl _) s hs
theorem txtR (s : ByteArray) (hs : s.size ≤ 9223372036854775807) : Ultk (fun k => S35 k (s, ())) (isTxt s) := by
  unfold S35
  exact txt_loop (l := fun k : Nat => k) (fun _ => Nat.le_refl _) s hs
/-! ### the check of a value; n: how many cases it has, r: what is said of them -/
def badV (kd : Int) (tx : ByteArray) (nm : Int) (ls : List ByteArray) (n : Int) : Bool := (sne tx ⟨#[]⟩ && ine kd 1) || ((ine nm 0 && ine kd 2) || ((igt (len ls) 0 && ine kd 3) || (igt n 0 && ine kd 4)))
def bigV (tx : ByteArray) (ls : List ByteArray) (n : Int) : Bool := igt (ssz tx) 1000 || (igt (len ls) 1000 || (ls.any (fun s => igt (ssz s) 1000) || igt n 50))
def badT (tx : ByteArray) (ls : List ByteArray) : Bool := bnot (isTxt tx) || ls.any (fun s => bnot (isTxt s))
def chkVal (kd : Int) (tx : ByteArray) (nm : Int) (ls : List ByteArray) (n r : Int) : Int :=
  if (ilt kd 1 || igt kd 4) = true then 4 else if badV kd tx nm ls n = true then 3 else if bigV tx ls n = true then 2 else if badT tx ls = true then 3 else if (ilt nm 0 || igt nm 999999999) = true then 1 else if kd = 4 then r else 0
theorem strs_any {kk : ι → Nat} (hk : ∀ i, l i ≤ kk i) (L : List ByteArray) (f : ι → ByteArray → Option Bool) (p : ByteArray → Bool) (hf : ∀ a ∈ L, Ult l (fun i => f i a) (p a)) (hL : L.length ≤ 9223372036854775807) : Ult l (fun i => S71 (kk i) (L, f i, ())) (L.any p) := by
  unfold S71
  refine Ult.bind ?_ (Ult.ret.eq idxF_any)
  unfold S121
  exact idx_loop hk L f p hf hL
theorem chkVal_prog (kd : Int) (tx : ByteArray) (nm : Int) (ls : List ByteArray) (n r : Int) (y : Nat → Option Int) (h1 : tx.size ≤ 140737488351232) (h2 : StrsSz ls) (hy : kd = 4 → Ultk y r) :
    Ultk (fun k => jn (fun (a2 : (Bool → (Option Int))) => cnd (ilt kd 1) (a2 true) (a2 (igt kd 4))) (fun (a2 : Bool) => cnd a2 (some 4) (jn (fun (a3 : (Bool → (Option Int))) => jn (fun (a4 : (Bool → (Option Int))) => cnd (sne tx (⟨#[]⟩ : ByteArray)) (a4 (ine kd 1)) (a4 false)) (fun (a4 : Bool) => cnd a4 (a3 a4) (jn (fun (a5 : (Bool → (Option Int))) => cnd (ine nm 0) (a5 (ine kd 2)) (a5 false)) (fun (a5 : Bool) => cnd a5 (a3 a5) (jn (fun (a6 : (Bool → (Option Int))) => cnd (igt (len ls) 0) (a6 (ine kd 3)) (a6 false)) (fun (a6 : Bool) => cnd a6 (a3 a6) (cnd (igt n 0) (a3 (ine kd 4)) (a3 false)))))))) (fun (a3 : Bool) => cnd a3 (some 3) (jn (fun (a4 : (Bool → (Option Int))) => cnd (igt (ssz tx) 1000) (a4 true) (cnd (igt (len ls) 1000) (a4 true) (bnd (S71 k (ls, fun (a5 : ByteArray) => S72 k (a5, ()), ())) (fun (a5 : Bool) => cnd a5 (a4 true) (a4 (igt n 50)))))) (fun (a4 : Bool) => cnd a4 (some 2) (jn (fun (a5 : (Bool → (Option Int))) => bnd (S73 k (tx, ())) (fun (a6 : Bool) => cnd (bnot a6) (a5 true) (bnd (S71 k (ls, fun (a7 : ByteArray) => S74 k (a7, ()), ())) (fun (a7 : Bool) => a5 a7)))) (fun (a5 : Bool) => cnd a5 (some 3) (jn (fun (a6 : (Bool → (Option Int))) => cnd (ilt nm 0) (a6 true) (a6 (igt nm 999999999))) (fun (a6 : Bool) => cnd a6 (some 1) (cnd (ieq kd 4) (y k) (some 0)))))))))))) (chkVal kd tx nm ls n r) := by
  have hlen := len_big h2.1 (by omega)
  simp only [jn_and, jn_or]
  unfold chkVal
  refine Ult.ifS (dec_true _) (fun _ => Ult.ret) fun _ => ?_
  unfold badV
  have tail : Ultk (fun k => jn (fun (a4 : (Bool → (Option Int))) => cnd (igt (ssz tx) 1000) (a4 true) (cnd (igt (len ls) 1000) (a4 true) (bnd (S71 k (ls, fun (a5 : ByteArray) => S72 k (a5, ()), ())) (fun (a5 : Bool) => cnd a5 (a4 true) (a4 (igt n 50)))))) (fun (a4 : Bool) => cnd a4 (some 2) (jn (fun (a5 : (Bool → (Option Int))) => bnd (S73 k (tx, ())) (fun (a6 : Bool) => cnd (bnot a6) (a5 true) (bnd (S71 k (ls, fun (a7 : ByteArray) => S74 k (a7, ()), ())) (fun (a7 : Bool) => a5 a7)))) (fun (a5 : Bool) => cnd a5 (some 3) (cnd (ilt nm 0 || igt nm 999999999) (some 1) (cnd (ieq kd 4) (y k) (some 0))))))) (if bigV tx ls n = true then 2 else if badT tx ls = true then 3 else if (ilt nm 0 || igt nm 999999999) = true then 1 else if kd = 4 then r else 0) := by
    have last : Ultk (fun k => jn (fun (a5 : (Bool → (Option Int))) => bnd (S73 k (tx, ())) (fun (a6 : Bool) => cnd (bnot a6) (a5 true) (bnd (S71 k (ls, fun (a7 : ByteArray) => S74 k (a7, ()), ())) (fun (a7 : Bool) => a5 a7)))) (fun (a5 : Bool) => cnd a5 (some 3) (cnd (ilt nm 0 || igt nm 999999999) (some 1) (cnd (ieq kd 4) (y k) (some 0))))) (if badT tx ls = true then 3 else if (ilt nm 0 || igt nm 999999999) = true then 1 else if kd = 4 then r else 0) := by
      have fin : Ultk (fun k => cnd (ilt nm 0 || igt nm 999999999) (some 1) (cnd (ieq kd 4) (y k) (some 0))) (if (ilt nm 0 || igt nm 999999999) = true then 1 else if kd = 4 then r else 0) :=
        Ult.ifS (dec_true _) (fun _ => Ult.ret) fun _ => Ult.ifS (ieq_eq _ _) (fun h => hy h) fun _ => Ult.ret
      refine Ult.jn (Ult.bind (txtP tx (by omega)) ?_)
      unfold badT
      cases isTxt tx with
      | false => exact Ult.yes rfl (Ult.yes rfl Ult.ret)
      | true =>
        refine Ult.no rfl (Ult.bind (strs_any (l := fun k : Nat => k) (fun _ => Nat.le_refl _) ls (fun k a => S74 k (a, ())) (fun s => bnot (isTxt s)) (fun a ha => ?_) (by omega)) ?_)
        · unfold S74
          exact Ult.bind (txtP a (by have := h2.2 a ha; omega)) Ult.ret
        · show Ultk _ (if (false || ls.any fun s => bnot (isTxt s)) = true then _ else _)
          rw [Bool.false_or]
          exact Ult.ifS (dec_true _) (fun _ => Ult.ret) fun _ => fin
    refine Ult.jn ?_
    unfold bigV
    cases igt (ssz tx) 1000 with
    | true => exact Ult.yes rfl (Ult.yes rfl Ult.ret)
    | false =>
      refine Ult.no rfl ?_
      cases igt (len ls) 1000 with
      | true => exact Ult.yes rfl (Ult.yes rfl Ult.ret)
      | false =>
        refine Ult.no rfl (Ult.bind (strs_any (l := fun k : Nat => k) (fun _ => Nat.le_refl _) ls (fun k a => S72 k (a, ())) (fun s => igt (ssz s) 1000) (fun a _ => Ult.ret) (by omega)) ?_)
        cases ls.any (fun s => igt (ssz s) 1000) with
        | true => exact Ult.yes rfl (Ult.yes rfl Ult.ret)
        | false =>
          refine Ult.no rfl ?_
          cases igt n 50 with
          | true => exact Ult.yes rfl Ult.ret
          | false => exact Ult.no rfl last
  cases hb1 : (sne tx (⟨#[]⟩ : ByteArray) && ine kd 1) with
  | true => exact Ult.jn (Ult.yes rfl (Ult.yes rfl Ult.ret))
  | false =>
    refine Ult.jn (Ult.no rfl ?_)
    cases hb2 : (ine nm 0 && ine kd 2) with
    | true => exact Ult.yes rfl (Ult.yes rfl Ult.ret)
    | false =>
      refine Ult.no rfl ?_
      cases hb3 : (igt (len ls) 0 && ine kd 3) with
      | true => exact Ult.yes rfl (Ult.yes rfl Ult.ret)
      | false =>
        refine Ult.no rfl ?_
        cases hb4 : igt n 0 with
        | false => exact Ult.no rfl (Ult.no rfl tail)
        | true =>
          refine Ult.yes rfl ?_
          cases ine kd 4 with
          | true => exact Ult.yes rfl Ult.ret
          | false => exact Ult.no rfl tail
end Go.Proofs.YtonfimidgbppeaaGreatDoor.Ev

namespace Go.Proofs.YtonfimidgbppeaaGreatDoor.Ev
open Go Go.RowKit
set_option linter.unusedVariables false
set_option linter.unusedSimpArgs false
variable {ι R α X : Type} {l : ι → Nat}
theorem jn_u {c d : Bool} {a : Option R} {g : Unit → Option R} : jn (fun (next : Unit → Option R) => cnd c a (cnd d a (next ()))) g = cnd (c || d) a (g ()) := by cases c <;> rfl
theorem all_any (p : α → Bool) : ∀ L : List α, L.all p = bnot (L.any fun s => bnot (p s))
  | [] => rfl
  | a :: L => by
    rw [List.all_cons, List.any_cons, all_any p L]
    cases p a <;> rfl
theorem isPlain_eq (kd : Int) (tx : ByteArray) (nm : Int) (ls : List ByteArray) (n : Int) (hn : 0 ≤ n) : (cnd (seq tx (⟨#[]⟩ : ByteArray)) (cnd (ieq nm 0) (cnd (ieq (len ls) 0) (cnd (ieq n 0) (some true) (some (ieq kd 4))) (cnd (ieq kd 3) (cnd (ieq n 0) (some true) (some (ieq kd 4))) (some false))) (cnd (ieq kd 2) (cnd (ieq (len ls) 0) (cnd (ieq n 0) (some true) (some (ieq kd 4))) (cnd (ieq kd 3) (cnd (ieq n 0) (some true) (some (ieq kd 4))) (some false))) (some false))) (cnd (ieq kd 1) (cnd (ieq nm 0) (cnd (ieq (len ls) 0) (cnd (ieq n 0) (some true) (some (ieq kd 4))) (cnd (ieq kd 3) (cnd (ieq n 0) (some true) (some (ieq kd 4))) (some false))) (cnd (ieq kd 2) (cnd (ieq (len ls) 0) (cnd (ieq n 0) (some true) (some (ieq kd 4))) (cnd (ieq kd 3) (cnd (ieq n 0) (some true) (some (ieq kd 4))) (some false))) (some false))) (some false))) = some (bnot (badV kd tx nm ls n)) := by
  have hl : (0 : Int) ≤ len ls := by unfold len; exact Int.natCast_nonneg _
  have e1 : igt (len ls) 0 = !(ieq (len ls) 0) := by rw [igt_eq, ieq_eq]; by_cases h : len ls = 0 <;> simp only [h] <;> simp <;> omega
  have e2 : igt n 0 = !(ieq n 0) := by rw [igt_eq, ieq_eq]; by_cases h : n = 0 <;> simp only [h] <;> simp <;> omega
  have s1 : sne tx (⟨#[]⟩ : ByteArray) = !(seq tx ⟨#[]⟩) := by rw [sne_eq, seq_eq]; simp
  have i1 : ∀ a b : Int, ine a b = !(ieq a b) := fun a b => by rw [ine_eq, ieq_eq]; simp
  unfold badV
  rw [e1, e2, s1, i1, i1, i1, i1, i1]
  generalize seq tx (⟨#[]⟩ : ByteArray) = b1
  generalize ieq nm 0 = b2
  generalize ieq (len ls) 0 = b3
  generalize ieq n 0 = b4
  generalize ieq kd 1 = k1
  generalize ieq kd 2 = k2
  generalize ieq kd 3 = k3
  generalize ieq kd 4 = k4
  cases b1 <;> cases b2 <;> cases b3 <;> cases b4 <;> cases k1 <;> cases k2 <;> cases k3 <;> cases k4 <;> rfl
theorem chkVal_ref (kd : Int) (tx : ByteArray) (nm : Int) (ls : List ByteArray) (n r : Int) (y : Nat → Option Int) (z : Nat → Option Bool) (h1 : tx.size ≤ 140737488351232) (h2 : StrsSz ls) (hz : Ultk z (bnot (badV kd tx nm ls n))) (hy : kd = 4 → Ultk y r) :
    Ultk (fun k => jn (fun (a2 : (Unit → (Option Int))) => cnd (ilt kd 1) (some 4) (cnd (igt kd 4) (some 4) (a2 ()))) (fun (a2 : Unit) => bnd (z k) (fun (a3 : Bool) => cnd (bnot a3) (some 3) (jn (fun (a4 : (Unit → (Option Int))) => cnd (igt (ssz tx) 1000) (some 2) (cnd (igt (len ls) 1000) (some 2) (cnd (igt n 50) (some 2) (a4 ())))) (fun (a4 : Unit) => loopN k (fun (a5 : (Int → (Option Int))) (a6 : Int) => cnd (ilt a6 (len ls)) (bnd (at? ls a6) (fun (a7 : ByteArray) => cnd (igt (ssz a7) 1000) (some 2) (a5 (iadd Go.IntKind.i64 a6 1)))) (bnd (S35 k (tx, ())) (fun (a7 : Bool) => cnd (bnot a7) (some 3) (loopN k (fun (a8 : (Int → (Option Int))) (a9 : Int) => cnd (ilt a9 (len ls)) (bnd (at? ls a9) (fun (a10 : ByteArray) => bnd (S35 k (a10, ())) (fun (a11 : Bool) => cnd (bnot a11) (some 3) (a8 (iadd Go.IntKind.i64 a9 1))))) (bnd (S36 k (nm, 0, 999999999, ())) (fun (a10 : Bool) => cnd (bnot a10) (some 1) (cnd (ieq kd 4) (y k) (some 0))))) 0)))) 0))))) (chkVal kd tx nm ls n r) := by
  have hlen := len_big h2.1 (by omega)
  simp only [jn_u]
  unfold chkVal
  refine Ult.ifS (dec_true _) (fun _ => Ult.ret) fun _ => ?_
  refine Ult.bind hz ?_
  cases badV kd tx nm ls n with
  | true => exact Ult.yes rfl Ult.ret
  | false =>
    refine Ult.no rfl ?_
    have e0 : ∀ x : Int, (if (false = true) then (3 : Int) else x) = x := fun x => rfl
    rw [e0]
    have fin : Ultk (fun k => bnd (S36 k (nm, 0, 999999999, ())) (fun (a10 : Bool) => cnd (bnot a10) (some 1) (cnd (ieq kd 4) (y k) (some 0)))) (if (ilt nm 0 || igt nm 999999999) = true then 1 else if kd = 4 then r else 0) := by
      have tl : Ultk (fun k => cnd (ieq kd 4) (y k) (some (0 : Int))) (if kd = 4 then r else 0) := Ult.ifS (ieq_eq _ _) (fun h => hy h) fun _ => Ult.ret
      have hw : Ultk (fun k => S36 k (nm, 0, 999999999, ())) (bnot (ilt nm 0 || igt nm 999999999)) := by
        unfold S36
        dsimp only
        by_cases h : 0 ≤ nm
        · refine Ult.yes (by rw [ile_eq]; exact decide_eq_true h) (Ult.ret.eq ?_)
          rw [ile_eq, ilt_eq, igt_eq, bnot_eq, decide_eq_false (by omega : ¬ nm < 0), Bool.false_or]
          by_cases h' : nm ≤ 999999999
          · rw [decide_eq_true h', decide_eq_false (by omega)]; rfl
          · rw [decide_eq_false h', decide_eq_true (by omega)]; rfl
        · refine Ult.no (by rw [ile_eq]; exact decide_eq_false h) (Ult.ret.eq ?_)
          rw [ilt_eq, decide_eq_true (by omega : nm < 0)]; rfl
      refine Ult.bind hw ?_
      cases (ilt nm 0 || igt nm 999999999) with
      | true => exact Ult.yes rfl Ult.ret
      | false => exact Ult.no rfl tl
    have hall : ls.all (fun s => isTxt s) = bnot (ls.any fun s => bnot (isTxt s)) := all_any _ ls
    have loop2 := all_loop (l := fun k : Nat => k) (fun _ => Nat.le_refl _) ls (fun k a => S35 k (a, ())) (fun s => isTxt s) fin (Ult.ret (r := (3 : Int))) (fun a ha => txtR a (by have := h2.2 a ha; omega)) (by omega)
    have mid : Ultk (fun k => bnd (S35 k (tx, ())) (fun (a7 : Bool) => cnd (bnot a7) (some 3) (loopN k (fun (a8 : (Int → (Option Int))) (a9 : Int) => cnd (ilt a9 (len ls)) (bnd (at? ls a9) (fun (a10 : ByteArray) => bnd (S35 k (a10, ())) (fun (a11 : Bool) => cnd (bnot a11) (some 3) (a8 (iadd Go.IntKind.i64 a9 1))))) (bnd (S36 k (nm, 0, 999999999, ())) (fun (a10 : Bool) => cnd (bnot a10) (some 1) (cnd (ieq kd 4) (y k) (some 0))))) 0))) (if badT tx ls = true then 3 else if (ilt nm 0 || igt nm 999999999) = true then 1 else if kd = 4 then r else 0) := by
      refine Ult.bind (txtR tx (by omega)) ?_
      unfold badT
      cases isTxt tx with
      | false => exact Ult.yes rfl Ult.ret
      | true =>
        refine Ult.no rfl (loop2.eq ?_)
        show _ = if (false || ls.any fun s => bnot (isTxt s)) = true then _ else _
        rw [Bool.false_or, hall]
        cases (ls.any fun s => bnot (isTxt s)) <;> rfl
    have loop1 := any_loop (l := fun k : Nat => k) (kk := fun k => k) (fun _ => Nat.le_refl _) ls (fun s => igt (ssz s) 1000) (Ult.ret (r := (2 : Int))) mid (by omega)
    unfold bigV
    cases igt (ssz tx) 1000 with
    | true => exact Ult.jn (Ult.yes rfl Ult.ret)
    | false =>
      refine Ult.jn (Ult.no rfl ?_)
      cases igt (len ls) 1000 with
      | true => exact Ult.yes rfl Ult.ret
      | false =>
        refine Ult.no rfl ?_
        cases igt n 50 with
        | true =>
          refine Ult.yes rfl (Ult.ret.eq ?_)
          cases ls.any (fun s => igt (ssz s) 1000) <;> rfl
        | false =>
          refine Ult.no rfl (loop1.eq ?_)
          cases ls.any (fun s => igt (ssz s) 1000) <;> rfl
/-! ### values without cases, values with cases -/
def V0Sz (v : V0) : Prop := v.2.1.size ≤ 140737488351232 ∧ StrsSz v.2.2.2.1
def CasesSz (l : List Case) : Prop := l.length * 96 ≤ 140737488351232 ∧ ∀ c ∈ l, c.1.size ≤ 140737488351232 ∧ V0Sz c.2
def V1Sz (v : V1) : Prop := v.2.1.size ≤ 140737488351232 ∧ StrsSz v.2.2.2.1 ∧ CasesSz v.2.2.2.2
def chk0 (v : V0) : Int := chkVal v.1 v.2.1 v.2.2.1 v.2.2.2.1 (olen v.2.2.2.2) 0
theorem chk0_prog (v : V0) (h : V0Sz v) (hk : v.1 ≠ 4) : Ultk (fun k => S1040 k (v, ())) (chk0 v) := by
  unfold S1040
  exact chkVal_prog v.1 v.2.1 v.2.2.1 v.2.2.2.1 (olen v.2.2.2.2) 0 (fun _ => none) h.1 h.2 fun q => absurd q hk
theorem chk0_ref (v : V0) (h : V0Sz v) (hk : v.1 ≠ 4) : Ultk (fun k => S1010 k (v, ())) (chk0 v) := by
  unfold S1010
  refine chkVal_ref v.1 v.2.1 v.2.2.1 v.2.2.2.1 (olen v.2.2.2.2) 0 (fun _ => none) _ h.1 h.2 ?_ fun q => absurd q hk
  unfold S1034
  exact Ult.congr Ult.ret fun k => isPlain_eq _ _ _ _ _ (by unfold olen; exact Int.natCast_nonneg _)
end Go.Proofs.YtonfimidgbppeaaGreatDoor.Ev

namespace Go.Proofs.YtonfimidgbppeaaGreatDoor.Ev
open Go Go.RowKit
set_option linter.unusedVariables false
set_option linter.unusedSimpArgs false
variable {ι R α X : Type} {l : ι → Nat}
def chkTxt (s : ByteArray) : Int := if 1000 < s.size then 2 else if isTxt s = false then 3 else 0
theorem chkTxt_prog (s : ByteArray) (hs : s.size ≤ 9223372036854775807) : Ultk (fun k => S122 k (s, ())) (chkTxt s) := by
  unfold S122 chkTxt
  refine Ult.ifS (by rw [igt_eq]; unfold ssz; simp only [decide_eq_decide]; omega) (fun _ => Ult.ret) fun _ => ?_
  exact Ult.bind (txtP s hs) (Ult.ifS (not_false_eq _) (fun _ => Ult.ret) fun _ => Ult.ret)
theorem chkTxt_ref (s : ByteArray) (hs : s.size ≤ 9223372036854775807) : Ultk (fun k => S69 k (s, ())) (chkTxt s) := by
  unfold S69 chkTxt
  refine Ult.ifS (by rw [igt_eq]; unfold ssz; simp only [decide_eq_decide]; omega) (fun _ => Ult.ret) fun _ => ?_
  exact Ult.bind (txtR s hs) (Ult.ifS (not_false_eq _) (fun _ => Ult.ret) fun _ => Ult.ret)
def chkCs (k0 : Int) : List Case → List Case → Int
  | _, [] => 0
  | pre, c :: r => if chkTxt c.1 ≠ 0 then chkTxt c.1 else if pre.any (fun d => decide (d.1 = c.1)) = true then 7 else if c.2.1 = 4 then 4 else if chk0 c.2 ≠ 0 then chk0 c.2 else if c.2.1 ≠ k0 then 6 else chkCs k0 (pre ++ [c]) r
def chkCases : List Case → Int
  | [] => 9
  | c :: r => chkCs c.2.1 [] (c :: r)
theorem cases_idx {kk : ι → Nat} (hk : ∀ i, l i ≤ kk i) (L : List Case) (f : ι → Case → Option Bool) (p : Case → Bool) (hf : ∀ a ∈ L, Ult l (fun i => f i a) (p a)) (hL : L.length ≤ 9223372036854775807) : Ult l (fun i => S78 (kk i) (L, f i, ())) (idxF p 0 L) := by
  unfold S78
  exact idx_loop hk L f p hf hL
theorem cases_any {kk : ι → Nat} (hk : ∀ i, l i ≤ kk i) (L : List Case) (f : ι → Case → Option Bool) (p : Case → Bool) (hf : ∀ a ∈ L, Ult l (fun i => f i a) (p a)) (hL : L.length ≤ 9223372036854775807) : Ult l (fun i => S123 (kk i) (L, f i, ())) (L.any p) := by
  unfold S123
  exact Ult.bind (cases_idx hk L f p hf hL) (Ult.ret.eq idxF_any)
theorem cases_len {L : List Case} (h : CasesSz L) : L.length ≤ 9223372036854775807 := by have := len_big h.1 (by omega); omega
theorem chkCases_prog (L : List Case) (hL : CasesSz L) : Ultk (fun k => S75 k (L, ())) (chkCases L) := by
  unfold S75
  have hlen := cases_len hL
  cases hc : L with
  | nil => exact Ult.yes rfl Ult.ret
  | cons c0 L' =>
    rw [← hc]
    have hpos : 0 < L.length := by rw [hc]; simp
    have h0 : at? L 0 = some L[0] := at?_nat (i := 0) hpos
    have e0 : chkCases L = chkCs (L[0]).2.1 [] L := by subst hc; rfl
    refine Ult.no (by rw [ieq_eq]; show decide (((L.length : Nat) : Int) = 0) = false; exact decide_eq_false (by omega)) ?_
    rw [e0]
    refine (Ult.forI (fun _ => Nat.le_refl _) L.length (fun j => chkCs (L[0]).2.1 (L.take j) (L.drop j)) fun j hj next => ?_).eq (by rw [List.drop_zero, List.take_zero])
    dsimp only
    rw [iltL]
    by_cases hlt' : ¬ j < L.length
    · refine Ult.no (decide_eq_false hlt') (Ult.ret.eq ?_)
      rw [List.drop_eq_nil_of_le (by omega)]; rfl
    have hlt : j < L.length := Decidable.not_not.1 hlt'
    refine Ult.yes (decide_eq_true hlt) (Ult.bindc (at?_nat hlt) ?_)
    obtain ⟨s1, s2⟩ := hL.2 _ (List.getElem_mem hlt)
    rw [drop_cons hlt, chkCs, ← List.take_succ_eq_append_getElem hlt, isucc hlt hlen]
    refine Ult.bind (Ult.call (f := fun k => S122 k (L[j].1, ())) (lp_le _ _ fun _ => Nat.le_refl _) (chkTxt_prog L[j].1 (by omega))) (Ult.ifS (ine_eq _ _) (fun _ => Ult.ret) fun _ => ?_)
    refine Ult.bindc (cut?_take (by omega)) ?_
    have ha := cases_any (l := lp fun k => k) (kk := fun p => p.1) (lp_le _ _ fun _ => Nat.le_refl _) (L.take j) (fun p a => S124 p.1 (a, L[j], ())) (fun q => decide (q.1 = L[j].1)) (fun a _ => Ult.ret.eq (seq_eq _ _)) (by rw [List.length_take]; omega)
    refine Ult.bind ha (Ult.ifS (dec_true _) (fun _ => Ult.ret) fun _ => ?_)
    refine Ult.ifS (ieq_eq _ _) (fun _ => Ult.ret) fun h4 => ?_
    refine Ult.bind (Ult.call (f := fun k => S1040 k (L[j].2, ())) (lp_le _ _ fun _ => Nat.le_refl _) (chk0_prog L[j].2 s2 h4)) (Ult.ifS (ine_eq _ _) (fun _ => Ult.ret) fun _ => ?_)
    refine Ult.bindc h0 (Ult.ifS (ine_eq _ _) (fun _ => Ult.ret) fun _ => next hlt)
theorem chkCases_ref (L : List Case) (hL : CasesSz L) : Ultk (fun k => S37 k (L, ())) (chkCases L) := by
  unfold S37
  have hlen := cases_len hL
  cases hc : L with
  | nil => exact Ult.yes rfl Ult.ret
  | cons c0 L' =>
    rw [← hc]
    have hpos : 0 < L.length := by rw [hc]; simp
    have h0 : at? L 0 = some L[0] := at?_nat (i := 0) hpos
    have e0 : chkCases L = chkCs (L[0]).2.1 [] L := by subst hc; rfl
    refine Ult.no (by rw [ieq_eq]; show decide (((L.length : Nat) : Int) = 0) = false; exact decide_eq_false (by omega)) ?_
    rw [e0]
    refine (Ult.forI (fun _ => Nat.le_refl _) L.length (fun j => chkCs (L[0]).2.1 (L.take j) (L.drop j)) fun j hj next => ?_).eq (by rw [List.drop_zero, List.take_zero])
    dsimp only
    rw [iltL]
    by_cases hlt' : ¬ j < L.length
    · refine Ult.no (decide_eq_false hlt') (Ult.ret.eq ?_)
      rw [List.drop_eq_nil_of_le (by omega)]; rfl
    have hlt : j < L.length := Decidable.not_not.1 hlt'
    refine Ult.yes (decide_eq_true hlt) (Ult.bindc (at?_nat hlt) ?_)
    obtain ⟨s1, s2⟩ := hL.2 _ (List.getElem_mem hlt)
    rw [drop_cons hlt, chkCs, ← List.take_succ_eq_append_getElem hlt, isucc hlt hlen]
    refine Ult.bind (Ult.call (f := fun k => S69 k (L[j].1, ())) (lp_le _ _ fun _ => Nat.le_refl _) (chkTxt_ref L[j].1 (by omega))) (Ult.ifS (ine_eq _ _) (fun _ => Ult.ret) fun _ => ?_)
    refine Ult.bindc (cut?_take (by omega)) ?_
    have e : (fun a : Case => seq a.1 L[j].1) = fun d => decide (d.1 = L[j].1) := funext fun a => seq_eq _ _
    refine Ult.eq (r := if ((L.take j).any fun a : Case => seq a.1 L[j].1) = true then 7 else if L[j].2.1 = 4 then 4 else if chk0 L[j].2 ≠ 0 then chk0 L[j].2 else if L[j].2.1 ≠ (L[0]).2.1 then 6 else chkCs (L[0]).2.1 (L.take (j + 1)) (L.drop (j + 1))) ?_ (by rw [e])
    refine any_loop (l := lp fun k => k) (kk := fun p => p.1) (lp_le _ _ fun _ => Nat.le_refl _) (L.take j) (fun a : Case => seq a.1 L[j].1) (Ult.ret (r := (7 : Int))) ?_ (by rw [List.length_take]; omega)
    refine Ult.ifS (ieq_eq _ _) (fun _ => Ult.ret) fun h4 => ?_
    refine Ult.bind (Ult.call (f := fun k => S1010 k (L[j].2, ())) (lp_le _ _ fun _ => Nat.le_refl _) (chk0_ref L[j].2 s2 h4)) (Ult.ifS (ine_eq _ _) (fun _ => Ult.ret) fun _ => ?_)
    exact Ult.bindc h0 (Ult.ifS (ine_eq _ _) (fun _ => Ult.ret) fun _ => next hlt)
/-! ### values with cases -/
def chk1 (v : V1) : Int := chkVal v.1 v.2.1 v.2.2.1 v.2.2.2.1 (len v.2.2.2.2) (chkCases v.2.2.2.2)
theorem chk1_prog (v : V1) (h : V1Sz v) : Ultk (fun k => S40 k (v, ())) (chk1 v) := by
  unfold S40
  refine chkVal_prog v.1 v.2.1 v.2.2.1 v.2.2.2.1 (len v.2.2.2.2) _ (fun k => bnd (S75 k (v.2.2.2.2, ())) fun a => some a) h.1 h.2.1 fun _ => ?_
  exact Ult.bind (chkCases_prog _ h.2.2) Ult.ret
theorem chk1_ref (v : V1) (h : V1Sz v) : Ultk (fun k => S10 k (v, ())) (chk1 v) := by
  unfold S10
  refine chkVal_ref v.1 v.2.1 v.2.2.1 v.2.2.2.1 (len v.2.2.2.2) _ (fun k => bnd (S37 k (v.2.2.2.2, ())) fun a => some a) _ h.1 h.2.1 ?_ fun _ => ?_
  · unfold S34
    exact Ult.congr Ult.ret fun k => isPlain_eq _ _ _ _ _ (by unfold len; exact Int.natCast_nonneg _)
  · exact Ult.bind (chkCases_ref _ h.2.2) Ult.ret
/-- what a right value is: only a choice has cases, and theirs have none -/
theorem chkVal_zero {kd : Int} {tx : ByteArray} {nm : Int} {ls : List ByteArray} {n r : Int} (h : chkVal kd tx nm ls n r = 0) : badV kd tx nm ls n = false ∧ bigV tx ls n = false ∧ (kd = 4 → r = 0) := by
  unfold chkVal at h
  split at h
  · cases h
  split at h
  · cases h
  rename_i h1
  split at h
  · cases h
  rename_i h2
  refine ⟨by simpa using h1, by simpa using h2, fun hk => ?_⟩
  split at h
  · cases h
  split at h
  · cases h
  first | exact h | (rw [if_pos hk] at h; exact h)
theorem chk0_zero {v : V0} (h : chk0 v = 0) (hk : v.1 ≠ 4) : v.2.2.2.2 = 0 := by
  obtain ⟨h1, _, _⟩ := chkVal_zero h
  unfold badV at h1
  simp only [Bool.or_eq_false_iff, Bool.and_eq_false_iff] at h1
  rcases h1.2.2.2 with q | q
  · have q : ¬ (0 : Int) < ((v.2.2.2.2 : Nat) : Int) := by rw [igt_eq] at q; exact of_decide_eq_false q
    have : (v.2.2.2.2 : Nat) = 0 := by omega
    exact this
  · rw [ine_eq] at q
    simp only [decide_eq_false_iff_not] at q
    exact absurd (Decidable.not_not.1 q) hk
theorem chk1_zero {v : V1} (h : chk1 v = 0) : (v.1 ≠ 4 → v.2.2.2.2 = []) ∧ (v.1 = 4 → chkCases v.2.2.2.2 = 0) ∧ v.2.2.2.2.length ≤ 50 := by
  obtain ⟨h1, h2, h3⟩ := chkVal_zero h
  refine ⟨fun hk => ?_, h3, ?_⟩
  · unfold badV at h1
    simp only [Bool.or_eq_false_iff, Bool.and_eq_false_iff] at h1
    rcases h1.2.2.2 with q | q
    · have q : ¬ (0 : Int) < ((v.2.2.2.2.length : Nat) : Int) := by rw [igt_eq] at q; exact of_decide_eq_false q
      exact List.eq_nil_of_length_eq_zero (by omega)
    · rw [ine_eq] at q
      simp only [decide_eq_false_iff_not] at q
      exact absurd (Decidable.not_not.1 q) hk
  · unfold bigV at h2
    simp only [Bool.or_eq_false_iff] at h2
    have q := h2.2.2.2
    have q : ¬ (50 : Int) < ((v.2.2.2.2.length : Nat) : Int) := by rw [igt_eq] at q; exact of_decide_eq_false q
    omega
theorem chkCs_zero {k0 : Int} : ∀ {r pre : List Case}, chkCs k0 pre r = 0 → ∀ c ∈ r, c.2.1 ≠ 4 ∧ chk0 c.2 = 0
  | [], _, _, c, hc => by cases hc
  | a :: r, pre, h, c, hc => by
    rw [chkCs] at h
    split at h
    · rename_i q; exact absurd h q
    split at h
    · cases h
    split at h
    · cases h
    rename_i q4
    split at h
    · rename_i q; exact absurd h q
    rename_i q0
    split at h
    · cases h
    rcases List.mem_cons.1 hc with rfl | hc
    · exact ⟨q4, Decidable.not_not.1 q0⟩
    · exact chkCs_zero h c hc
theorem chkCases_zero {L : List Case} (h : chkCases L = 0) : L ≠ [] ∧ ∀ c ∈ L, c.2.1 ≠ 4 ∧ c.2.2.2.2.2 = 0 := by
  cases L with
  | nil => cases h
  | cons a r =>
    refine ⟨by simp, fun c hc => ?_⟩
    obtain ⟨h1, h2⟩ := chkCs_zero h c hc
    exact ⟨h1, chk0_zero h2 h1⟩
end Go.Proofs.YtonfimidgbppeaaGreatDoor.Ev
