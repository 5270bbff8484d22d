/- The plain laws (this session's own). No condition but those in the statements. -/
import Derived.Test.YtcbkiipcfdcdgaaGreatDoorFTra
import Derived.Test.YtcbkiipcfdcdgaaGreatDoorEv5
import Derived.Test.YtcbkiipcfdcdgaaGreatDoorEvD
import Derived.Test.YtcbkiipcfdcdgaaGreatDoorEvK
import Derived.Sort.Walk0
namespace Go.Proofs.YtcbkiipcfdcdgaaGreatDoor.Ev
open Go Go.RowKit
/-- THE ONE PURE STATEMENT. -/
def ConfigThenIsBothStated : Prop := ∀ (x0 : (.slice (.agg (.pair (.str) (.slice (.str)))) : Kd).T) (x1 : (.agg (.pair (.str) (.pair (.slice (.agg (.pair (.str) (.str)))) (.slice (.str)))) : Kd).T) (x2 : (.agg (.pair (.str) (.pair (.slice (.agg (.pair (.str) (.str)))) (.slice (.str)))) : Kd).T) (x3 : (.slice (.agg (.pair (.str) (.str))) : Kd).T), (WfS 40 (fun x => (fun s => s.size ≤ 140737488351232) x.1 ∧ (WfS 16 (fun s => s.size ≤ 140737488351232)) x.2)) x0 → (fun x => (fun s => s.size ≤ 140737488351232) x.1 ∧ (fun x => (WfS 32 (fun x => (fun s => s.size ≤ 140737488351232) x.1 ∧ (fun s => s.size ≤ 140737488351232) x.2)) x.1 ∧ (WfS 16 (fun s => s.size ≤ 140737488351232)) x.2) x.2) x1 → (fun x => (fun s => s.size ≤ 140737488351232) x.1 ∧ (fun x => (WfS 32 (fun x => (fun s => s.size ≤ 140737488351232) x.1 ∧ (fun s => s.size ≤ 140737488351232) x.2)) x.1 ∧ (WfS 16 (fun s => s.size ≤ 140737488351232)) x.2) x.2) x2 → (WfS 32 (fun x => (fun s => s.size ≤ 140737488351232) x.1 ∧ (fun s => s.size ≤ 140737488351232) x.2)) x3 → ∃ k, S4 k (x0, x1, x2, x3, ()) = some true
end Go.Proofs.YtcbkiipcfdcdgaaGreatDoor.Ev

namespace Go.Proofs.YtcbkiipcfdcdgaaGreatDoor.Ev
open Go.RowKit
set_option linter.unusedVariables false

/-- from some number of rounds on; l: the least of all numbers of rounds that matter -/
def Ult {ι R : Type} (l : ι → Nat) (f : ι → Option R) (r : R) : Prop := ∃ K, ∀ i, K ≤ l i → f i = some r
variable {ι R α : Type} {l : ι → Nat}
theorem Ult.ret {r : R} : Ult l (fun _ => some r) r := ⟨0, fun _ _ => rfl⟩
theorem Ult.congr {f g : ι → Option R} {r : R} (h : Ult l f r) (e : ∀ i, g i = f i) : Ult l g r := by
  obtain ⟨K, h⟩ := h
  exact ⟨K, fun i hi => (e i).trans (h i hi)⟩
theorem Ult.bind {f : ι → Option α} {g : ι → α → Option R} {a : α} {r : R} (h : Ult l f a) (k : Ult l (fun i => g i a) r) : Ult l (fun i => bnd (f i) (g i)) r := by
  obtain ⟨K, h⟩ := h
  obtain ⟨L, k⟩ := k
  refine ⟨max K L, fun i hi => ?_⟩
  show Option.bind (f i) (g i) = some r
  rw [h i (by omega)]
  exact k i (by omega)
theorem Ult.bindc {m : Option α} {g : ι → α → Option R} {a : α} {r : R} (h : m = some a) (k : Ult l (fun i => g i a) r) : Ult l (fun i => bnd m (g i)) r := Ult.bind ⟨0, fun _ _ => h⟩ k
theorem Ult.yes {c : Bool} {f g : ι → Option R} {r : R} (hc : c = true) (h : Ult l f r) : Ult l (fun i => cnd c (f i) (g i)) r := by subst hc; exact h
theorem Ult.no {c : Bool} {f g : ι → Option R} {r : R} (hc : c = false) (h : Ult l g r) : Ult l (fun i => cnd c (f i) (g i)) r := by subst hc; exact h
theorem Ult.ite {c : Bool} {f g : ι → Option R} {r : R} (h : c = true → Ult l f r) (k : c = false → Ult l g r) : Ult l (fun i => cnd c (f i) (g i)) r := by
  cases c
  · exact Ult.no rfl (k rfl)
  · exact Ult.yes rfl (h rfl)
/-- a function's own number of rounds -/
abbrev Ultk (f : Nat → Option R) (r : R) : Prop := Ult (fun k : Nat => k) f r
theorem Ult.call {f : Nat → Option R} {r : R} {k : ι → Nat} (hk : ∀ i, l i ≤ k i) (h : Ultk f r) : Ult l (fun i => f (k i)) r := by
  obtain ⟨K, h⟩ := h
  exact ⟨K, fun i hi => h (k i) (Nat.le_trans hi (hk i))⟩
theorem Ultk.call {f : Nat → Option R} {r : R} (h : Ultk f r) : Ultk (fun k => f k) r := h
/-- the rounds of a loop, told by a number of their own -/
def lp (l : ι → Nat) (p : ι × Nat) : Nat := min (l p.1) p.2
theorem lp_le (l : ι → Nat) (k : ι → Nat) (hk : ∀ i, l i ≤ k i) : ∀ p : ι × Nat, lp l p ≤ k p.1 := fun p => Nat.le_trans (Nat.min_le_left _ _) (hk _)
variable {X : Type}
theorem Ult.loop {st : ι → (X → Option R) → X → Option R} {x : X} {r : R} {k : ι → Nat} (hk : ∀ i, l i ≤ k i) (h : Ult (lp l) (fun p => loopN p.2 (st p.1) x) r) : Ult l (fun i => loopN (k i) (st i) x) r := by
  obtain ⟨K, h⟩ := h
  refine ⟨K, fun i hi => h (i, k i) ?_⟩
  have := hk i
  show K ≤ min (l i) (k i)
  omega
theorem Ult.round {st : ι → (X → Option R) → X → Option R} {x : X} {r : R} (h : Ult (lp l) (fun p => st p.1 (loopN p.2 (st p.1)) x) r) : Ult (lp l) (fun p => loopN p.2 (st p.1) x) r := by
  obtain ⟨K, h⟩ := h
  refine ⟨K + 1, fun p hp => ?_⟩
  obtain ⟨i, n⟩ := p
  have h1 : K + 1 ≤ min (l i) n := hp
  cases n with
  | zero => omega
  | succ n =>
    have h2 := h (i, n) (show K ≤ min (l i) n by omega)
    exact h2
/-- rounds by a measure -/
theorem Ult.rounds {st : ι → (X → Option R) → X → Option R} {r : R} (I : X → Prop) (μ : X → Nat) (h : ∀ x, I x → (∀ y, I y → μ y < μ x → Ult (lp l) (fun p => loopN p.2 (st p.1) y) r) → Ult (lp l) (fun p => st p.1 (loopN p.2 (st p.1)) x) r) :
    ∀ x, I x → Ult (lp l) (fun p => loopN p.2 (st p.1) x) r := by
  intro x
  generalize hn : μ x = n
  induction n using Nat.strongRecOn generalizing x with
  | _ n ih =>
    intro hI
    refine Ult.round (h x hI fun y hy hlt => ih (μ y) (by omega) y rfl hy)

/-- a loop by an invariant and a measure -/
theorem Ult.loopI {st : ι → (X → Option R) → X → Option R} {x : X} {r : R} {k : ι → Nat} (hk : ∀ i, l i ≤ k i) (I : X → Prop) (μ : X → Nat) (h0 : I x)
    (h : ∀ x, I x → (∀ y, I y → μ y < μ x → Ult (lp l) (fun p => loopN p.2 (st p.1) y) r) → Ult (lp l) (fun p => st p.1 (loopN p.2 (st p.1)) x) r) : Ult l (fun i => loopN (k i) (st i) x) r :=
  Ult.loop hk (Ult.rounds I μ h x h0)

/-! ### total correctness: it ends, and with what is wanted -/
def Fin {ι R : Type} (l : ι → Nat) (f : ι → Option R) (Q : R → Prop) : Prop := ∃ r, Q r ∧ Ult l f r
abbrev Fink {R : Type} (f : Nat → Option R) (Q : R → Prop) : Prop := Fin (fun k : Nat => k) f Q
variable {Q : R → Prop}
theorem Fin.ret {r : R} (h : Q r) : Fin l (fun _ => some r) Q := ⟨r, h, Ult.ret⟩
theorem Fin.bind {f : ι → Option α} {g : ι → α → Option R} {Qa : α → Prop} (h : Fin l f Qa) (k : ∀ a, Qa a → Fin l (fun i => g i a) Q) : Fin l (fun i => bnd (f i) (g i)) Q := by
  obtain ⟨a, ha, h⟩ := h
  obtain ⟨r, hr, k⟩ := k a ha
  exact ⟨r, hr, Ult.bind h k⟩
theorem Fin.bindu {f : ι → Option α} {g : ι → α → Option R} {a : α} (h : Ult l f a) (k : Fin l (fun i => g i a) Q) : Fin l (fun i => bnd (f i) (g i)) Q := by
  obtain ⟨r, hr, k⟩ := k
  exact ⟨r, hr, Ult.bind h k⟩
theorem Fin.bindc {m : Option α} {g : ι → α → Option R} {a : α} (h : m = some a) (k : Fin l (fun i => g i a) Q) : Fin l (fun i => bnd m (g i)) Q := Fin.bindu ⟨0, fun _ _ => h⟩ k
theorem Fin.ite {c : Bool} {f g : ι → Option R} (h : c = true → Fin l f Q) (k : c = false → Fin l g Q) : Fin l (fun i => cnd c (f i) (g i)) Q := by
  cases c
  · exact k rfl
  · exact h rfl
theorem Fin.mono {Q' : R → Prop} {f : ι → Option R} (h : Fin l f Q) (k : ∀ r, Q r → Q' r) : Fin l f Q' := by
  obtain ⟨r, hr, h⟩ := h
  exact ⟨r, k r hr, h⟩
theorem Fin.of {f : ι → Option R} {r : R} (h : Ult l f r) (hq : Q r) : Fin l f Q := ⟨r, hq, h⟩
theorem Fin.ult {f : ι → Option R} {r : R} (h : Fin l f (fun x => x = r)) : Ult l f r := by
  obtain ⟨_, rfl, h⟩ := h
  exact h
theorem Fin.call {f : Nat → Option R} {k : ι → Nat} (hk : ∀ i, l i ≤ k i) (h : Fink f Q) : Fin l (fun i => f (k i)) Q := by
  obtain ⟨r, hr, h⟩ := h
  exact ⟨r, hr, Ult.call hk h⟩
/-- a loop by an invariant and a measure -/
theorem Fin.loopI {st : ι → (X → Option R) → X → Option R} {x : X} {k : ι → Nat} (hk : ∀ i, l i ≤ k i) (I : X → Prop) (μ : X → Nat) (h0 : I x)
    (h : ∀ x, I x → (∀ y, I y → μ y < μ x → Fin (lp l) (fun p => loopN p.2 (st p.1) y) Q) → Fin (lp l) (fun p => st p.1 (loopN p.2 (st p.1)) x) Q) : Fin l (fun i => loopN (k i) (st i) x) Q := by
  have key : ∀ (n : Nat) (x : X), μ x = n → I x → Fin (lp l) (fun p => loopN p.2 (st p.1) x) Q := by
    intro n
    induction n using Nat.strongRecOn with
    | _ n ih =>
      intro x hn hI
      obtain ⟨r, hr, hu⟩ := h x hI fun y hy hlt => ih (μ y) (by omega) y rfl hy
      exact ⟨r, hr, Ult.round hu⟩
  obtain ⟨r, hr, hu⟩ := key _ x rfl h0
  exact ⟨r, hr, Ult.loop hk hu⟩
theorem Ult.lift {f : ι → Option R} {r : R} (h : Ult l f r) : Ult (lp l) (fun q => f q.1) r := by
  obtain ⟨K, h⟩ := h
  exact ⟨K, fun q hq => h q.1 (Nat.le_trans hq (Nat.min_le_left _ _))⟩
theorem Fin.lift {f : ι → Option R} (h : Fin l f Q) : Fin (lp l) (fun q => f q.1) Q := by
  obtain ⟨r, hr, h⟩ := h
  exact ⟨r, hr, h.lift⟩
theorem Ultk.unique {f : Nat → Option R} {a b : R} (h : Ultk f a) (k : Ultk f b) : a = b := by
  obtain ⟨K, h⟩ := h
  obtain ⟨L, k⟩ := k
  have h1 := h (max K L) (Nat.le_max_left _ _)
  rw [k (max K L) (Nat.le_max_right _ _)] at h1
  exact (Option.some.inj h1).symm

/-! ### the operations -/
theorem wrap64 {n : Int} (h0 : -9223372036854775808 ≤ n) (h1 : n ≤ 9223372036854775807) : IntKind.i64.wrap n = n := by
  rw [IntKind.wrap_i64]; omega
theorem iadd64 {a b : Int} (h0 : -9223372036854775808 ≤ a + b) (h1 : a + b ≤ 9223372036854775807) : iadd .i64 a b = a + b := wrap64 h0 h1
theorem isub64 {a b : Int} (h0 : -9223372036854775808 ≤ a - b) (h1 : a - b ≤ 9223372036854775807) : isub .i64 a b = a - b := wrap64 h0 h1
theorem at?_nat {l : List α} {i : Nat} (h : i < l.length) : at? l (i : Int) = some l[i] := by
  unfold at?
  rw [if_pos (Int.natCast_nonneg _), Int.toNat_natCast, List.getElem?_eq_getElem h]
theorem bt?_nat {s : ByteArray} {i : Nat} (h : i < s.size) : bt? s (i : Int) = some (bt s (i : Int)) := by
  unfold bt?
  rw [if_pos ⟨Int.natCast_nonneg _, by omega⟩]
theorem len_def {l : List α} : len l = (l.length : Int) := rfl

end Go.Proofs.YtcbkiipcfdcdgaaGreatDoor.Ev

namespace Go.Proofs.YtcbkiipcfdcdgaaGreatDoor.Ev
open Go Go.RowKit
set_option linter.unusedVariables false
set_option linter.unusedSimpArgs false
variable {ι R X A α β : Type} {l : ι → Nat}

/-- a loop by an index and what is gathered; 'res': what comes of it from there on -/
theorem Ult.forA {st : ι → (X → Option R) → X → Option R} {k : ι → Nat} (hk : ∀ i, l i ≤ k i) (n : Nat) (mk : A → Nat → X) (I : A → Nat → Prop) (res : A → Nat → R) (a0 : A) (h0 : I a0 0)
    (h : ∀ a j, j ≤ n → I a j → (∀ a', j < n → I a' (j + 1) → Ult (lp l) (fun p => loopN p.2 (st p.1) (mk a' (j + 1))) (res a' (j + 1))) → Ult (lp l) (fun p => st p.1 (loopN p.2 (st p.1)) (mk a j)) (res a j)) :
    Ult l (fun i => loopN (k i) (st i) (mk a0 0)) (res a0 0) := by
  have key : ∀ (d j : Nat) (a : A), n - j = d → j ≤ n → I a j → Ult (lp l) (fun p => loopN p.2 (st p.1) (mk a j)) (res a j) := by
    intro d
    induction d with
    | zero => intro j a hd hj hI; exact Ult.round (h a j hj hI fun a' hlt _ => by omega)
    | succ d ih => intro j a hd hj hI; exact Ult.round (h a j hj hI fun a' hlt hI' => ih (j + 1) a' (by omega) (by omega) hI')
  exact Ult.loop hk (key n 0 a0 (by omega) (Nat.zero_le _) h0)
theorem Ult.forI {st : ι → (Int → Option R) → Int → Option R} {k : ι → Nat} (hk : ∀ i, l i ≤ k i) (n : Nat) (res : Nat → R)
    (h : ∀ j, j ≤ n → (j < n → Ult (lp l) (fun p => loopN p.2 (st p.1) ((j + 1 : Nat) : Int)) (res (j + 1))) → Ult (lp l) (fun p => st p.1 (loopN p.2 (st p.1)) (j : Int)) (res j)) :
    Ult l (fun i => loopN (k i) (st i) 0) (res 0) :=
  Ult.forA (A := Unit) hk n (fun _ j => (j : Int)) (fun _ _ => True) (fun _ j => res j) () trivial fun _ j hj _ hn => h j hj fun hlt => hn () hlt trivial
theorem Ult.jn {f : ι → (X → Option R) → Option R} {g : ι → X → Option R} {r : R} (h : Ult l (fun i => f i (g i)) r) : Ult l (fun i => jn (f i) (g i)) r := h
theorem Ult.eq {f : ι → Option R} {r r' : R} (h : Ult l f r) (e : r = r') : Ult l f r' := e ▸ h
theorem Ult.iteS {c : Bool} {f g : ι → Option R} {r r' : R} (h : c = true → Ult l f r) (k : c = false → Ult l g r') : Ult l (fun i => cnd c (f i) (g i)) (if c then r else r') := by
  cases c
  · exact Ult.no rfl (k rfl)
  · exact Ult.yes rfl (h rfl)
theorem Ult.ifS {c : Bool} {p : Prop} [Decidable p] (e : c = decide p) {f g : ι → Option R} {r r' : R} (h : p → Ult l f r) (k : ¬ p → Ult l g r') : Ult l (fun i => cnd c (f i) (g i)) (if p then r else r') := by
  subst e
  by_cases hp : p
  · rw [if_pos hp]; exact Ult.yes (decide_eq_true hp) (h hp)
  · rw [if_neg hp]; exact Ult.no (decide_eq_false hp) (k hp)

/-! ### operations -/
theorem seq_eq (a b : ByteArray) : seq a b = decide (a = b) := by
  unfold seq
  by_cases h : a = b
  · subst h; simp
  · rw [decide_eq_false h, beq_eq_false_iff_ne]
    intro e
    refine h ?_
    rw [ByteArray.toList_eq, ByteArray.toList_eq] at e
    obtain ⟨⟨x⟩⟩ := a
    obtain ⟨⟨y⟩⟩ := b
    simpa using e
theorem sne_eq (a b : ByteArray) : sne a b = decide (a ≠ b) := by
  have := seq_eq a b
  unfold seq at this
  unfold sne
  rw [this]
  by_cases h : a = b <;> simp [h]
theorem ieq_eq (a b : Int) : ieq a b = decide (a = b) := by
  unfold ieq
  by_cases h : a = b <;> simp [h]
theorem ine_eq (a b : Int) : ine a b = decide (a ≠ b) := by
  unfold ine
  by_cases h : a = b <;> simp [h]
theorem igt_eq (a b : Int) : igt a b = decide (b < a) := rfl
theorem ige_eq (a b : Int) : ige a b = decide (b ≤ a) := rfl
theorem ilt_eq (a b : Int) : ilt a b = decide (a < b) := rfl
theorem ile_eq (a b : Int) : ile a b = decide (a ≤ b) := rfl
theorem bnot_eq (a : Bool) : bnot a = !a := rfl
theorem iltL (j : Nat) (l : List α) : ilt (j : Int) (len l) = decide (j < l.length) := by
  unfold ilt len
  by_cases h : j < l.length
  · rw [decide_eq_true h, decide_eq_true (by omega)]
  · rw [decide_eq_false h, decide_eq_false (by omega)]
theorem igt0 (j : Nat) : igt (j : Int) 0 = decide (0 < j) := by
  unfold igt
  by_cases h : 0 < j
  · rw [decide_eq_true h, decide_eq_true (by omega)]
  · rw [decide_eq_false h, decide_eq_false (by omega)]
theorem isucc {j n : Nat} (h : j < n) (hn : n ≤ 9223372036854775807) : iadd .i64 (j : Int) 1 = ((j + 1 : Nat) : Int) := by rw [iadd64 (by omega) (by omega)]; rfl
theorem ipred {j n : Nat} (h0 : 0 < j) (h : j ≤ n) (hn : n ≤ 9223372036854775807) : isub .i64 (j : Int) 1 = ((j - 1 : Nat) : Int) := by rw [isub64 (by omega) (by omega)]; omega
theorem app?_ok {b : Nat} {l r : List α} (h : (l.length + r.length) * (max b 1) ≤ 140737488355328) : app? b l r = some (l ++ r) := by unfold app?; rw [if_pos h]
theorem cat?_ok {a b : ByteArray} (h : a.size + b.size ≤ 9223372036854775807) : cat? a b = some (a ++ b) := by unfold cat?; rw [if_pos h]
theorem cut?_take {l : List α} {j : Nat} (h : j ≤ l.length) : cut? l 0 (j : Int) = some (l.take j) := by
  unfold cut?
  rw [if_pos ⟨Int.le_refl _, by omega, by omega⟩]
  simp
theorem kbeq_pair (a b : ByteArray × ByteArray) : kbeq (.agg (.pair .str .str)) a b = decide (a = b) := by
  show (seq a.1 b.1 && seq a.2 b.2) = _
  rw [seq_eq, seq_eq]
  by_cases h1 : a.1 = b.1 <;> by_cases h2 : a.2 = b.2 <;> simp [h1, h2, Prod.ext_iff]
theorem drop_cons {l : List α} {j : Nat} (h : j < l.length) : l.drop j = l[j] :: l.drop (j + 1) := List.drop_eq_getElem_cons h

/-! ### strings in order -/
def lt (a b : ByteArray) : Prop := a.data.toList < b.data.toList
theorem slt_eq (a b : ByteArray) : slt a b = decide (a.data.toList < b.data.toList) := by
  unfold slt
  rw [ByteArray.toList_eq, ByteArray.toList_eq]
  exact bytesLess_eq _ _
theorem bytes_ext {a b : ByteArray} (h : a.data.toList = b.data.toList) : a = b := by
  obtain ⟨⟨x⟩⟩ := a
  obtain ⟨⟨y⟩⟩ := b
  simpa using h
theorem sle_eq (a b : ByteArray) : sle a b = decide (¬ b.data.toList < a.data.toList) := by
  have h : sle a b = (Op.bytesLess a.toList b.toList || a.toList == b.toList) := rfl
  rw [h, ByteArray.toList_eq, ByteArray.toList_eq, bytesLess_eq]
  by_cases h1 : a.data.toList < b.data.toList
  · simp [h1, List.lt_asymm h1]
  · by_cases h2 : a.data.toList = b.data.toList
    · rw [h2]; simp [List.lt_irrefl]
    · have h3 : b.data.toList < a.data.toList := by
        rcases List.le_total a.data.toList b.data.toList with q | q
        · rcases List.le_iff_lt_or_eq.1 q with q | q
          · exact absurd q h1
          · exact absurd q h2
        · rcases List.le_iff_lt_or_eq.1 q with q | q
          · exact q
          · exact absurd q.symm h2
      have h4 : ¬ a.data = b.data := fun e => h2 (by rw [e])
      simp [h1, h4, h3]
end Go.Proofs.YtcbkiipcfdcdgaaGreatDoor.Ev

namespace Go.Proofs.YtcbkiipcfdcdgaaGreatDoor.Ev
open Go Go.RowKit
set_option linter.unusedVariables false
set_option linter.unusedSimpArgs false
theorem bt_get {s : ByteArray} {j : Nat} (h : j < s.size) : bt s (j : Int) = ((s.data.toList[j]'(by simpa using h)).toNat : Int) := by
  unfold bt
  rw [dif_pos (by simpa using h)]
  simp [ByteArray.getElem_eq_getElem_data]
theorem bt?_get {s : ByteArray} {j : Nat} (h : j < s.size) : bt? s (j : Int) = some (bt s (j : Int)) := by unfold bt?; rw [if_pos ⟨Int.natCast_nonneg _, by omega⟩]
theorem toList_len (s : ByteArray) : s.data.toList.length = s.size := by simp
theorem iltS (j : Nat) (s : ByteArray) : ilt (j : Int) (ssz s) = decide (j < s.size) := by
  unfold ilt ssz
  by_cases h : j < s.size
  · rw [decide_eq_true h, decide_eq_true (by omega)]
  · rw [decide_eq_false h, decide_eq_false (by omega)]
/-- a byte of a word -/
def wc (c : Int) : Bool := decide (97 ≤ c ∧ c ≤ 122) || decide (48 ≤ c ∧ c ≤ 57) || decide (c = 45) || decide (c = 95)
def allW (l : List UInt8) : Bool := l.all fun b => wc (b.toNat : Int)
def isWord (s : ByteArray) : Bool := decide (1 ≤ s.size ∧ s.size ≤ 40) && (decide (97 ≤ bt s 0 ∧ bt s 0 ≤ 122) && allW s.data.toList)
theorem isWord_size {s : ByteArray} (h : isWord s = true) : 1 ≤ s.size ∧ s.size ≤ 40 := by
  simp only [isWord, Bool.and_eq_true, decide_eq_true_eq] at h
  exact h.1
theorem isWord_all {s : ByteArray} (h : isWord s = true) : allW s.data.toList = true := by
  simp only [isWord, Bool.and_eq_true, decide_eq_true_eq] at h
  exact h.2.2
def wset : List UInt8 := [97, 98, 99, 100, 101, 102, 103, 104, 105, 106, 107, 108, 109, 110, 111, 112, 113, 114, 115, 116, 117, 118, 119, 120, 121, 122, 48, 49, 50, 51, 52, 53, 54, 55, 56, 57, 95, 45]
theorem wset_mem (b : UInt8) : wset.contains b = wc (b.toNat : Int) := by
  have key : ∀ n : _root_.Fin 256, wset.contains (UInt8.ofNat n.1) = wc ((UInt8.ofNat n.1).toNat : Int) := by decide +kernel
  have := key ⟨b.toNat, b.toNat_lt⟩
  simpa using this
theorem dropWhile_nil {α : Type} {p : α → Bool} : ∀ {l : List α}, l.dropWhile p = [] ↔ ∀ x ∈ l, p x = true
  | [] => by simp
  | a :: l => by
    cases h : p a with
    | true => simp [List.dropWhile, h, dropWhile_nil (l := l)]
    | false => simp [List.dropWhile, h]
theorem trimS_nil (l cs : List UInt8) : (Lib.trimS l cs = []) ↔ ∀ b ∈ l, cs.contains b = true := by
  unfold Lib.trimS Lib.trimLeftS Lib.trimRightS
  constructor
  · intro h
    rw [dropWhile_nil] at h
    have h2 : l.reverse.dropWhile (cs.contains ·) = [] := by
      cases hd : l.reverse.dropWhile (cs.contains ·) with
      | nil => rfl
      | cons a r =>
        have h3 := h a (by rw [hd]; simp)
        have h4 : ((l.reverse.dropWhile (cs.contains ·)).head?).all (fun x => !(cs.contains x)) = true := by
          have := List.head?_dropWhile_not (cs.contains ·) l.reverse
          rw [hd] at this ⊢
          simpa using this
        rw [hd] at h4
        simp only [List.head?_cons, Option.all_some, Bool.not_eq_true'] at h4
        rw [h4] at h3; cases h3
    rw [dropWhile_nil] at h2
    intro b hb
    exact h2 b (by simpa using hb)
  · intro h
    have h2 : l.reverse.dropWhile (cs.contains ·) = [] := by
      rw [dropWhile_nil]
      intro b hb
      exact h b (by simpa using hb)
    rw [h2]; rfl
theorem all_contains (l : List UInt8) : (∀ b ∈ l, wset.contains b = true) ↔ allW l = true := by
  unfold allW
  rw [List.all_eq_true]
  exact ⟨fun h b hb => by rw [← wset_mem]; exact h b hb, fun h b hb => by rw [wset_mem]; exact h b hb⟩
/-- config.IsWord -/
theorem S52_spec (s : ByteArray) (hs : s.size ≤ 9223372036854775807) : Ultk (fun k => S52 k (s, ())) (isWord s) := by
  unfold S52 isWord
  refine Ult.jn ?_
  dsimp only
  by_cases h1 : s.size < 1
  · refine Ult.yes (by simp only [ilt_eq, ssz, decide_eq_true_eq]; omega) (Ult.yes rfl (Ult.ret.eq ?_))
    rw [decide_eq_false (by omega)]; rfl
  refine Ult.no (by simp only [ilt_eq, ssz, decide_eq_false_iff_not]; omega) ?_
  by_cases h2 : 40 < s.size
  · refine Ult.yes (by simp only [igt_eq, ssz, decide_eq_true_eq]; omega) (Ult.yes rfl (Ult.ret.eq ?_))
    rw [decide_eq_false (by omega)]; rfl
  refine Ult.no (by simp only [igt_eq, ssz, decide_eq_false_iff_not]; omega) ?_
  have h0 : bt? s 0 = some (bt s 0) := bt?_get (j := 0) (by omega)
  rw [decide_eq_true (show 1 ≤ s.size ∧ s.size ≤ 40 by omega), Bool.true_and]
  refine Ult.bindc h0 ?_
  by_cases h3 : bt s 0 < 97
  · refine Ult.yes (decide_eq_true h3) (Ult.yes rfl (Ult.ret.eq ?_))
    rw [decide_eq_false (by omega)]; rfl
  refine Ult.no (decide_eq_false h3) (Ult.bindc h0 ?_)
  by_cases h4 : 122 < bt s 0
  · refine Ult.yes (decide_eq_true h4) (Ult.ret.eq ?_)
    rw [decide_eq_false (by omega)]; rfl
  refine Ult.no (decide_eq_false h4) ?_
  rw [decide_eq_true (show 97 ≤ bt s 0 ∧ bt s 0 ≤ 122 by omega), Bool.true_and]
  have hc : (⟨#[97, 98, 99, 100, 101, 102, 103, 104, 105, 106, 107, 108, 109, 110, 111, 112, 113, 114, 115, 116, 117, 118, 119, 120, 121, 122, 48, 49, 50, 51, 52, 53, 54, 55, 56, 57, 95, 45]⟩ : ByteArray).data.toList = wset := rfl
  have ht : ∀ k, S104 k (s, (⟨#[97, 98, 99, 100, 101, 102, 103, 104, 105, 106, 107, 108, 109, 110, 111, 112, 113, 114, 115, 116, 117, 118, 119, 120, 121, 122, 48, 49, 50, 51, 52, 53, 54, 55, 56, 57, 95, 45]⟩ : ByteArray), ()) = some ⟨(Lib.trimS s.data.toList wset).toArray⟩ := fun k => by
    show trimF s (⟨#[97, 98, 99, 100, 101, 102, 103, 104, 105, 106, 107, 108, 109, 110, 111, 112, 113, 114, 115, 116, 117, 118, 119, 120, 121, 122, 48, 49, 50, 51, 52, 53, 54, 55, 56, 57, 95, 45]⟩ : ByteArray) = _
    unfold trimF
    rw [if_pos ⟨hs, by decide, by decide⟩, hc]
  refine Ult.bind ⟨0, fun k _ => ht k⟩ (Ult.ret.eq ?_)
  rw [seq_eq]
  by_cases h5 : allW s.data.toList = true
  · rw [h5]
    refine decide_eq_true ?_
    rw [(trimS_nil _ _).2 ((all_contains _).2 h5)]
  · rw [Bool.not_eq_true] at h5
    rw [h5]
    refine decide_eq_false fun e => ?_
    have : Lib.trimS s.data.toList wset = [] := by
      have := congrArg (fun b : ByteArray => b.data.toList) e
      simpa using this
    rw [trimS_nil, all_contains, h5] at this
    cases this
theorem wc_tree {R : Type} (c : Int) (J : Bool → Option R) : cnd (ilt c 97) (cnd (ilt c 48) (cnd (ine c 45) (J (ine c 95)) (J false)) (cnd (igt c 57) (cnd (ine c 45) (J (ine c 95)) (J false)) (J false))) (cnd (igt c 122) (cnd (ilt c 48) (cnd (ine c 45) (J (ine c 95)) (J false)) (cnd (igt c 57) (cnd (ine c 45) (J (ine c 95)) (J false)) (J false))) (J false)) = J (!wc c) := by
  rcases (by omega : c = 95 ∨ c = 45 ∨ (c < 48 ∧ c ≠ 45) ∨ (48 ≤ c ∧ c ≤ 57) ∨ (58 ≤ c ∧ c < 97 ∧ c ≠ 95) ∨ (97 ≤ c ∧ c ≤ 122) ∨ 122 < c) with h | h | h | h | h | h | h <;>
    simp (disch := omega) only [ilt_eq, igt_eq, ine_eq, wc, cnd, decide_eq_true, decide_eq_false, cond_true, cond_false, Bool.or_true, Bool.or_false, Bool.not_true, Bool.not_false, Bool.true_or, Bool.false_or]
/-- smithyardref3.IsWord -/
theorem S59_spec (s : ByteArray) (hs : s.size ≤ 9223372036854775807) : Ultk (fun k => S59 k (s, ())) (isWord s) := by
  unfold S59 isWord
  refine Ult.jn ?_
  dsimp only
  have h100 : Ultk (fun k => S106 k (ssz s, 1, 40, ())) (decide (1 ≤ s.size ∧ s.size ≤ 40)) := by
    unfold S106
    by_cases h1 : 1 ≤ s.size
    · refine Ult.yes (by simp only [ile_eq, ssz, decide_eq_true_eq]; omega) (Ult.ret.eq ?_)
      simp only [ile_eq, ssz]
      by_cases h2 : s.size ≤ 40
      · rw [decide_eq_true (by omega), decide_eq_true ⟨h1, h2⟩]
      · rw [decide_eq_false (by omega), decide_eq_false (by omega)]
    · refine Ult.no (by simp only [ile_eq, ssz, decide_eq_false_iff_not]; omega) (Ult.ret.eq ?_)
      rw [decide_eq_false (by omega)]
  refine Ult.bind h100 ?_
  by_cases h1' : ¬ (1 ≤ s.size ∧ s.size ≤ 40)
  · rw [decide_eq_false h1']
    exact Ult.yes rfl Ult.ret
  have h1 : 1 ≤ s.size ∧ s.size ≤ 40 := Decidable.not_not.1 h1'
  rw [decide_eq_true h1]
  refine Ult.no rfl ?_
  have h0 : bt? s 0 = some (bt s 0) := bt?_get (j := 0) (by omega)
  refine Ult.bindc h0 ?_
  rw [Bool.true_and]
  by_cases h3 : bt s 0 < 97
  · refine Ult.yes (decide_eq_true h3) (Ult.ret.eq ?_)
    rw [decide_eq_false (by omega)]; rfl
  refine Ult.no (decide_eq_false h3) (Ult.bindc h0 ?_)
  by_cases h4 : 122 < bt s 0
  · refine Ult.yes (decide_eq_true h4) (Ult.ret.eq ?_)
    rw [decide_eq_false (by omega)]; rfl
  refine Ult.no (decide_eq_false h4) ?_
  rw [decide_eq_true (show 97 ≤ bt s 0 ∧ bt s 0 ≤ 122 by omega), Bool.true_and]
  refine (Ult.forI (fun _ => Nat.le_refl _) s.size (fun j => allW (s.data.toList.drop j)) fun j hj next => ?_).eq (by rw [List.drop_zero])
  rw [iltS]
  by_cases hlt' : ¬ j < s.size
  · refine Ult.no (decide_eq_false hlt') (Ult.ret.eq ?_)
    rw [List.drop_eq_nil_of_le (by simp; omega)]; rfl
  have hlt : j < s.size := Decidable.not_not.1 hlt'
  refine Ult.yes (decide_eq_true hlt) (Ult.bindc (bt?_get hlt) ?_)
  have hd : allW (s.data.toList.drop j) = (wc (bt s (j : Int)) && allW (s.data.toList.drop (j + 1))) := by
    rw [drop_cons (show j < s.data.toList.length by simpa using hlt), bt_get hlt]; rfl
  rw [isucc hlt hs, hd]
  generalize bt s (j : Int) = c
  refine Ult.jn ?_
  dsimp only
  rw [show (fun p : Nat × Nat => _) = _ from funext fun p => wc_tree c fun a6 => cnd a6 (some false) (loopN p.2 _ ((j + 1 : Nat) : Int))]
  cases h : wc c
  · exact Ult.yes rfl Ult.ret
  · rw [Bool.true_and]; exact Ult.no rfl (next hlt)
end Go.Proofs.YtcbkiipcfdcdgaaGreatDoor.Ev

namespace Go.Proofs.YtcbkiipcfdcdgaaGreatDoor.Ev
open Go Go.RowKit
set_option linter.unusedVariables false
set_option linter.unusedSimpArgs false
variable {ι : Type} {l : ι → Nat} {α : Type}
abbrev Setting : Type := ByteArray × List ByteArray
abbrev Pair : Type := ByteArray × ByteArray

/-! ### searches -/
/-- the place of the first that is wanted, or -1 -/
def idxF (p : α → Bool) : Nat → List α → Int
  | _, [] => -1
  | j, a :: r => if p a = true then (j : Int) else idxF p (j + 1) r
theorem idxF_cases (p : α → Bool) : ∀ (j : Nat) (L : List α), (idxF p j L = -1 ∧ L.find? p = none) ∨ ∃ (i : Nat) (h : i < L.length), idxF p j L = ((j + i : Nat) : Int) ∧ L.find? p = some L[i] ∧ p L[i] = true
  | j, [] => .inl ⟨rfl, rfl⟩
  | j, a :: r => by
    cases h : p a with
    | true => exact .inr ⟨0, by simp, by simp [idxF, h], by simp [h], by simpa using h⟩
    | false =>
      rcases idxF_cases p (j + 1) r with ⟨h1, h2⟩ | ⟨i, hi, h1, h2, h3⟩
      · exact .inl ⟨by simp [idxF, h, h1], by simp [h, h2]⟩
      · exact .inr ⟨i + 1, by simpa using hi, by simp only [idxF, h, Bool.false_eq_true, if_false, h1]; congr 1; omega, by simp [h, h2], by simpa using h3⟩
theorem idxF_neg {p : α → Bool} {L : List α} : idxF p 0 L < 0 ↔ L.find? p = none := by
  rcases idxF_cases p 0 L with ⟨h1, h2⟩ | ⟨i, hi, h1, h2, h3⟩
  · simp [h1, h2]
  · rw [h1, h2]
    constructor
    · intro h; omega
    · intro h; cases h
theorem idxF_at {p : α → Bool} {L : List α} {a : α} (h : L.find? p = some a) : at? L (idxF p 0 L) = some a ∧ 0 ≤ idxF p 0 L := by
  rcases idxF_cases p 0 L with ⟨h1, h2⟩ | ⟨i, hi, h1, h2, h3⟩
  · rw [h2] at h; cases h
  · rw [h1, Nat.zero_add, at?_nat hi, ← h2, h]
    exact ⟨rfl, Int.natCast_nonneg _⟩
theorem len_big {b : Nat} {L : List α} (h : L.length * b ≤ 140737488351232) (hb : 0 < b) : L.length ≤ 140737488351232 := by
  have : L.length * 1 ≤ L.length * b := Nat.mul_le_mul_left _ hb
  omega
theorem S107_spec (L : List ByteArray) (x : ByteArray) (hL : L.length ≤ 9223372036854775807) : Ultk (fun k => S107 k (L, x, ())) (idxF (fun a => decide (x = a)) 0 L) := by
  unfold S107
  refine (Ult.forI (fun _ => Nat.le_refl _) L.length (fun j => idxF (fun a => decide (x = a)) j (L.drop j)) fun j hj next => ?_).eq (by rw [List.drop_zero])
  dsimp only
  rw [iltL]
  by_cases hlt' : ¬ j < L.length
  · refine Ult.no (decide_eq_false hlt') (Ult.ret.eq ?_)
    rw [List.drop_eq_nil_of_le (by omega)]; rfl
  have hlt : j < L.length := Decidable.not_not.1 hlt'
  refine Ult.yes (decide_eq_true hlt) (Ult.bindc (at?_nat hlt) ?_)
  rw [drop_cons hlt, idxF, isucc hlt hL]
  exact Ult.ifS (by rw [seq_eq]; simp) (fun h => Ult.ret) (fun h => next hlt)
theorem any_mem (L : List ByteArray) (x : ByteArray) : (L.find? (fun a => decide (x = a)) = none) ↔ x ∉ L := by
  rw [List.find?_eq_none]
  constructor
  · intro h hx; exact h x hx (by simp)
  · intro h a ha e
    have e := of_decide_eq_true e
    exact h (e ▸ ha)
def memB (L : List ByteArray) (x : ByteArray) : Bool := L.any fun a => decide (x = a)
theorem memB_iff {L : List ByteArray} {x : ByteArray} : memB L x = true ↔ x ∈ L := by
  unfold memB
  rw [List.any_eq_true]
  exact ⟨fun ⟨a, ha, e⟩ => of_decide_eq_true e ▸ ha, fun h => ⟨x, h, decide_eq_true rfl⟩⟩
theorem S63_spec (L : List ByteArray) (x : ByteArray) (hL : L.length ≤ 9223372036854775807) : Ultk (fun k => S63 k (L, x, ())) (memB L x) := by
  unfold S63
  refine Ult.bind (S107_spec L x hL) (Ult.ret.eq ?_)
  rw [ige_eq]
  by_cases h : x ∈ L
  · rw [memB_iff.2 h]
    refine decide_eq_true ?_
    rcases Int.lt_or_le (idxF (fun a => decide (x = a)) 0 L) 0 with q | q
    · exact absurd h ((any_mem _ _).1 (idxF_neg.1 q))
    · exact q
  · have h' : memB L x = false := by
      cases hb : memB L x with
      | false => rfl
      | true => exact absurd (memB_iff.1 hb) h
    rw [h']
    have := idxF_neg.2 ((any_mem L x).2 h)
    exact decide_eq_false (by omega)
/-- slices.IndexFunc at settings -/
theorem S142_spec {kk : ι → Nat} (hk : ∀ i, l i ≤ kk i) (L : List Setting) (f : ι → Setting → Option Bool) (p : Setting → Bool) (hf : ∀ a, Ult l (fun i => f i a) (p a)) (hL : L.length ≤ 9223372036854775807) :
    Ult l (fun i => S142 (kk i) (L, f i, ())) (idxF p 0 L) := by
  unfold S142
  refine (Ult.forI hk L.length (fun j => idxF p j (L.drop j)) fun j hj next => ?_).eq (by rw [List.drop_zero])
  dsimp only
  rw [iltL]
  by_cases hlt' : ¬ j < L.length
  · refine Ult.no (decide_eq_false hlt') (Ult.ret.eq ?_)
    rw [List.drop_eq_nil_of_le (by omega)]; rfl
  have hlt : j < L.length := Decidable.not_not.1 hlt'
  refine Ult.yes (decide_eq_true hlt) (Ult.bindc (at?_nat hlt) (Ult.bind (hf _).lift ?_))
  rw [drop_cons hlt, idxF, isucc hlt hL]
  exact Ult.ifS (by simp) (fun h => Ult.ret) (fun h => next hlt)
/-- the first setting of a name -/
def look (L : List (ByteArray × α)) (n : ByteArray) : Option (ByteArray × α) := L.find? fun s => decide (s.1 = n)
theorem look_name {L : List (ByteArray × α)} {n : ByteArray} {s : ByteArray × α} (h : look L n = some s) : s ∈ L ∧ s.1 = n := by
  unfold look at h
  exact ⟨List.mem_of_find?_eq_some h, of_decide_eq_true (List.find?_some (p := fun s : ByteArray × α => decide (s.1 = n)) h)⟩
def idxN (L : List (ByteArray × α)) (n : ByteArray) : Int := idxF (fun s => decide (s.1 = n)) 0 L
theorem S90_spec (L : List Setting) (n : ByteArray) (hL : L.length ≤ 9223372036854775807) : Ultk (fun k => S90 k (L, n, ())) (idxN L n) := by
  unfold S90
  have h := S142_spec (l := fun k => k) (fun _ => Nat.le_refl _) L (fun k a => S143 k (a, n, ())) (fun s => decide (s.1 = n)) (fun a => Ult.ret.eq (seq_eq _ _)) hL
  exact Ult.bind h Ult.ret
def lookS (L : List Setting) (n : ByteArray) : Setting × Bool := match look L n with
  | some s => (s, true)
  | none => ((⟨#[]⟩, []), false)
theorem S102_spec (L : List Setting) (n : ByteArray) (hL : L.length ≤ 9223372036854775807) : Ultk (fun k => S102 k (L, n, ())) (lookS L n) := by
  unfold S102
  refine (Ult.forA (A := Unit) (fun _ => Nat.le_refl _) L.length (fun _ j => ((j : Int), (⟨#[]⟩ : ByteArray), ([] : List ByteArray))) (fun _ _ => True) (fun _ j => lookS (L.drop j) n) () trivial fun _ j hj _ next => ?_).eq (by rw [List.drop_zero])
  dsimp only
  rw [iltL]
  by_cases hlt' : ¬ j < L.length
  · refine Ult.no (decide_eq_false hlt') (Ult.ret.eq ?_)
    rw [List.drop_eq_nil_of_le (by omega)]; rfl
  have hlt : j < L.length := Decidable.not_not.1 hlt'
  refine Ult.yes (decide_eq_true hlt) (Ult.bindc (at?_nat hlt) ?_)
  have e : lookS (L.drop j) n = if L[j].1 = n then (L[j], true) else lookS (L.drop (j + 1)) n := by
    rw [drop_cons hlt]
    unfold lookS look
    by_cases h : L[j].1 = n
    · rw [if_pos h, List.find?_cons_of_pos (by simpa using h)]
    · rw [if_neg h, List.find?_cons_of_neg (by simpa using h)]
  rw [e, isucc hlt hL]
  exact Ult.ifS (seq_eq _ _) (fun h => Ult.ret) (fun h => next () hlt trivial)
def lookV (L : List Pair) (n : ByteArray) : ByteArray × Bool := match look L n with
  | some s => (s.2, true)
  | none => (⟨#[]⟩, false)
theorem S57_spec (L : List Pair) (n : ByteArray) (hL : L.length ≤ 9223372036854775807) : Ultk (fun k => S57 k (L, n, ())) (lookV L n) := by
  unfold S57
  refine (Ult.forI (fun _ => Nat.le_refl _) L.length (fun j => lookV (L.drop j) n) fun j hj next => ?_).eq (by rw [List.drop_zero])
  dsimp only
  rw [iltL]
  by_cases hlt' : ¬ j < L.length
  · refine Ult.no (decide_eq_false hlt') (Ult.ret.eq ?_)
    rw [List.drop_eq_nil_of_le (by omega)]; rfl
  have hlt : j < L.length := Decidable.not_not.1 hlt'
  refine Ult.yes (decide_eq_true hlt) (Ult.bindc (at?_nat hlt) ?_)
  have e : lookV (L.drop j) n = if L[j].1 = n then (L[j].2, true) else lookV (L.drop (j + 1)) n := by
    rw [drop_cons hlt]
    unfold lookV look
    by_cases h : L[j].1 = n
    · rw [if_pos h, List.find?_cons_of_pos (by simpa using h)]
    · rw [if_neg h, List.find?_cons_of_neg (by simpa using h)]
  rw [e, isucc hlt hL]
  exact Ult.ifS (seq_eq _ _) (fun h => Ult.ret) (fun h => next hlt)

/-! ### settings -/
/-- not above the one before -/
def notAbove (prev : Option ByteArray) (n : ByteArray) : Bool := match prev with
  | none => false
  | some m => sle n m
def chkVals : List ByteArray → List ByteArray → Int
  | _, [] => 0
  | seen, v :: r => if isWord v = false then 5 else if memB seen v = true then 7 else chkVals (seen ++ [v]) r
def chkSets : Option ByteArray → List Setting → Int
  | _, [] => 0
  | prev, s :: r => if isWord s.1 = false then 5 else if s.2 = [] then 9 else if 20 < s.2.length then 2 else if chkVals [] s.2 ≠ 0 then chkVals [] s.2 else if notAbove prev s.1 = true then 8 else chkSets (some s.1) r
def chkSettings (L : List Setting) : Int := if 30 < L.length then 2 else chkSets none L
def prevOf (L : List (ByteArray × α)) (j : Nat) : Option ByteArray := if h : 0 < j ∧ j - 1 < L.length then some (L[j - 1]'h.2).1 else none
theorem prevOf_zero (L : List (ByteArray × α)) : prevOf L 0 = none := rfl
theorem prevOf_succ {L : List (ByteArray × α)} {j : Nat} (h : j < L.length) : prevOf L (j + 1) = some L[j].1 := by unfold prevOf; rw [dif_pos ⟨Nat.succ_pos _, by simpa using h⟩]; simp
/-- sizes of settings as they come -/
def SetSz (L : List Setting) : Prop := L.length * 40 ≤ 140737488351232 ∧ ∀ s ∈ L, s.1.size ≤ 140737488351232 ∧ s.2.length * 16 ≤ 140737488351232 ∧ ∀ v ∈ s.2, v.size ≤ 140737488351232
theorem SetSz.len {L : List Setting} (h : SetSz L) : L.length ≤ 140737488351232 := len_big h.1 (by omega)
def PairSz (L : List Pair) : Prop := L.length * 32 ≤ 140737488351232 ∧ ∀ s ∈ L, s.1.size ≤ 140737488351232 ∧ s.2.size ≤ 140737488351232
theorem PairSz.len {L : List Pair} (h : PairSz L) : L.length ≤ 140737488351232 := len_big h.1 (by omega)

end Go.Proofs.YtcbkiipcfdcdgaaGreatDoor.Ev

namespace Go.Proofs.YtcbkiipcfdcdgaaGreatDoor.Ev
open Go Go.RowKit
set_option linter.unusedVariables false
set_option linter.unusedSimpArgs false
theorem dec_true (b : Bool) : b = decide (b = true) := by cases b <;> rfl
theorem chkVals_step {L : List ByteArray} {j : Nat} (h : j < L.length) : chkVals (L.take j) (L.drop j) = if isWord L[j] = false then 5 else if memB (L.take j) L[j] = true then 7 else chkVals (L.take (j + 1)) (L.drop (j + 1)) := by
  rw [drop_cons h, chkVals, List.take_succ_eq_append_getElem h]
theorem chkSets_step {L : List Setting} {j : Nat} (h : j < L.length) : chkSets (prevOf L j) (L.drop j) = if isWord L[j].1 = false then 5 else if L[j].2 = [] then 9 else if 20 < L[j].2.length then 2 else if chkVals [] L[j].2 ≠ 0 then chkVals [] L[j].2 else if notAbove (prevOf L j) L[j].1 = true then 8 else chkSets (prevOf L (j + 1)) (L.drop (j + 1)) := by
  rw [drop_cons h, chkSets, prevOf_succ h]
/-- config.CheckSettings -/
theorem S51_spec (L : List Setting) (hL : SetSz L) : Ultk (fun k => S51 k (L, ())) (chkSettings L) := by
  unfold S51 chkSettings
  refine Ult.ifS (by rw [igt_eq]; unfold len; simp only [decide_eq_decide]; omega) (fun _ => Ult.ret) fun h30 => ?_
  have hlen := hL.len
  refine (Ult.forI (fun _ => Nat.le_refl _) L.length (fun j => chkSets (prevOf L j) (L.drop j)) fun j hj next => ?_).eq (by rw [List.drop_zero, prevOf_zero])
  dsimp only
  rw [iltL]
  by_cases hlt' : ¬ j < L.length
  · refine Ult.no (decide_eq_false hlt') (Ult.ret.eq ?_)
    rw [List.drop_eq_nil_of_le (by omega)]
    cases prevOf L j <;> rfl
  have hlt : j < L.length := Decidable.not_not.1 hlt'
  refine Ult.yes (decide_eq_true hlt) (Ult.bindc (at?_nat hlt) ?_)
  rw [chkSets_step hlt, isucc hlt (by omega)]
  obtain ⟨hs1, hs2, hs3⟩ := hL.2 _ (List.getElem_mem hlt)
  have hs2' := len_big hs2 (by omega)
  have next' := next hlt
  clear next
  generalize chkSets (prevOf L (j + 1)) (L.drop (j + 1)) = rest at next' ⊢
  have hw := S52_spec L[j].1 (by omega)
  refine Ult.bind (Ult.call (f := fun k => S52 k (L[j].1, ())) (lp_le _ _ fun _ => Nat.le_refl _) hw) ?_
  refine Ult.ifS (by rw [bnot_eq]; cases isWord L[j].1 <;> rfl) (fun _ => Ult.ret) fun _ => ?_
  refine Ult.ifS (by rw [ieq_eq]; unfold len; simp only [decide_eq_decide]; rw [← List.length_eq_zero_iff]; omega) (fun _ => Ult.ret) fun _ => ?_
  refine Ult.ifS (by rw [igt_eq]; unfold len; simp only [decide_eq_decide]; omega) (fun _ => Ult.ret) fun _ => ?_
  refine (Ult.forI (lp_le _ _ fun _ => Nat.le_refl _) L[j].2.length (fun i => if chkVals (L[j].2.take i) (L[j].2.drop i) ≠ 0 then chkVals (L[j].2.take i) (L[j].2.drop i) else if notAbove (prevOf L j) L[j].1 = true then 8 else rest) fun i hi nexti => ?_).eq (by rw [List.drop_zero, List.take_zero])
  try dsimp only
  rw [iltL]
  by_cases hit' : ¬ i < L[j].2.length
  · refine Ult.no (decide_eq_false hit') ?_
    rw [List.drop_eq_nil_of_le (by omega), chkVals, if_neg (by simp)]
    have nx := next'.lift
    rw [igt0]
    by_cases h0 : 0 < j
    · refine Ult.yes (decide_eq_true h0) ?_
      rw [ipred (n := L.length) h0 (by omega) (by omega)]
      refine Ult.bindc (at?_nat (show j - 1 < L.length by omega)) ?_
      have hp : prevOf L j = some L[j - 1].1 := by unfold prevOf; rw [dif_pos ⟨h0, by omega⟩]
      rw [hp]
      exact Ult.ifS (dec_true _) (fun _ => Ult.ret) fun _ => nx
    · refine Ult.no (decide_eq_false h0) ?_
      have : j = 0 := by omega
      subst this
      rw [prevOf_zero, if_neg (by simp [notAbove])]
      exact nx
  have hit : i < L[j].2.length := Decidable.not_not.1 hit'
  refine Ult.yes (decide_eq_true hit) (Ult.bindc (at?_nat hit) ?_)
  rw [isucc hit (by omega)]
  have hwv := S52_spec L[j].2[i] (by have := hs3 _ (List.getElem_mem hit); omega)
  refine Ult.bind (Ult.call (f := fun k => S52 k (L[j].2[i], ())) (lp_le _ _ (lp_le _ _ fun _ => Nat.le_refl _)) hwv) ?_
  have nexti' := nexti hit
  clear nexti
  rw [chkVals_step hit]
  by_cases h1 : isWord L[j].2[i] = false
  · rw [h1]
    exact Ult.yes rfl (Ult.ret.eq (by simp))
  rw [if_neg h1]
  rw [Bool.not_eq_false] at h1
  rw [h1]
  refine Ult.no rfl (Ult.bindc (cut?_take (by omega)) ?_)
  have hm := S63_spec (L[j].2.take i) L[j].2[i] (by rw [List.length_take]; omega)
  refine Ult.bind (Ult.call (f := fun k => S63 k (L[j].2.take i, L[j].2[i], ())) (lp_le _ _ (lp_le _ _ fun _ => Nat.le_refl _)) hm) ?_
  cases h2 : memB (L[j].2.take i) L[j].2[i]
  · exact Ult.no rfl (nexti'.eq (by simp))
  · exact Ult.yes rfl (Ult.ret.eq (by simp))
/-- smithyardref3.CheckSettings -/
theorem S58_spec (L : List Setting) (hL : SetSz L) : Ultk (fun k => S58 k (L, ())) (chkSettings L) := by
  unfold S58 chkSettings
  refine Ult.ifS (by rw [igt_eq]; unfold len; simp only [decide_eq_decide]; omega) (fun _ => Ult.ret) fun h30 => ?_
  have hlen := hL.len
  refine (Ult.forI (fun _ => Nat.le_refl _) L.length (fun j => chkSets (prevOf L j) (L.drop j)) fun j hj next => ?_).eq (by rw [List.drop_zero, prevOf_zero])
  dsimp only
  rw [iltL]
  by_cases hlt' : ¬ j < L.length
  · refine Ult.no (decide_eq_false hlt') (Ult.ret.eq ?_)
    rw [List.drop_eq_nil_of_le (by omega)]
    cases prevOf L j <;> rfl
  have hlt : j < L.length := Decidable.not_not.1 hlt'
  refine Ult.yes (decide_eq_true hlt) (Ult.bindc (at?_nat hlt) ?_)
  rw [chkSets_step hlt, isucc hlt (by omega)]
  obtain ⟨hs1, hs2, hs3⟩ := hL.2 _ (List.getElem_mem hlt)
  have hs2' := len_big hs2 (by omega)
  have next' := next hlt
  clear next
  generalize chkSets (prevOf L (j + 1)) (L.drop (j + 1)) = rest at next' ⊢
  have hw := S59_spec L[j].1 (by omega)
  refine Ult.bind (Ult.call (f := fun k => S59 k (L[j].1, ())) (lp_le _ _ fun _ => Nat.le_refl _) hw) ?_
  refine Ult.ifS (by rw [bnot_eq]; cases isWord L[j].1 <;> rfl) (fun _ => Ult.ret) fun _ => ?_
  refine Ult.ifS (by rw [ieq_eq]; unfold len; simp only [decide_eq_decide]; rw [← List.length_eq_zero_iff]; omega) (fun _ => Ult.ret) fun _ => ?_
  refine Ult.ifS (by rw [igt_eq]; unfold len; simp only [decide_eq_decide]; omega) (fun _ => Ult.ret) fun _ => ?_
  refine (Ult.forI (lp_le _ _ fun _ => Nat.le_refl _) L[j].2.length (fun i => if chkVals (L[j].2.take i) (L[j].2.drop i) ≠ 0 then chkVals (L[j].2.take i) (L[j].2.drop i) else if notAbove (prevOf L j) L[j].1 = true then 8 else rest) fun i hi nexti => ?_).eq (by rw [List.drop_zero, List.take_zero])
  try dsimp only
  rw [iltL]
  by_cases hit' : ¬ i < L[j].2.length
  · refine Ult.no (decide_eq_false hit') ?_
    rw [List.drop_eq_nil_of_le (by omega), chkVals, if_neg (by simp)]
    have nx := next'.lift
    rw [igt0]
    by_cases h0 : 0 < j
    · refine Ult.yes (decide_eq_true h0) ?_
      rw [ipred (n := L.length) h0 (by omega) (by omega)]
      refine Ult.bindc (at?_nat (show j - 1 < L.length by omega)) ?_
      have hp : prevOf L j = some L[j - 1].1 := by unfold prevOf; rw [dif_pos ⟨h0, by omega⟩]
      rw [hp]
      exact Ult.ifS (dec_true _) (fun _ => Ult.ret) fun _ => nx
    · refine Ult.no (decide_eq_false h0) ?_
      have : j = 0 := by omega
      subst this
      rw [prevOf_zero, if_neg (by simp [notAbove])]
      exact nx
  have hit : i < L[j].2.length := Decidable.not_not.1 hit'
  refine Ult.yes (decide_eq_true hit) (Ult.bindc (at?_nat hit) ?_)
  rw [isucc hit (by omega)]
  have hwv := S59_spec L[j].2[i] (by have := hs3 _ (List.getElem_mem hit); omega)
  refine Ult.bind (Ult.call (f := fun k => S59 k (L[j].2[i], ())) (lp_le _ _ (lp_le _ _ fun _ => Nat.le_refl _)) hwv) ?_
  have nexti' := nexti hit
  clear nexti
  rw [chkVals_step hit]
  by_cases h1 : isWord L[j].2[i] = false
  · rw [h1]
    exact Ult.yes rfl (Ult.ret.eq (by simp))
  rw [if_neg h1]
  rw [Bool.not_eq_false] at h1
  rw [h1]
  refine Ult.no rfl (Ult.bindc (cut?_take (by omega)) ?_)
  have hm := S63_spec (L[j].2.take i) L[j].2[i] (by rw [List.length_take]; omega)
  refine Ult.bind (Ult.call (f := fun k => S63 k (L[j].2.take i, L[j].2[i], ())) (lp_le _ _ (lp_le _ _ fun _ => Nat.le_refl _)) hm) ?_
  cases h2 : memB (L[j].2.take i) L[j].2[i]
  · exact Ult.no rfl (nexti'.eq (by simp))
  · exact Ult.yes rfl (Ult.ret.eq (by simp))
end Go.Proofs.YtcbkiipcfdcdgaaGreatDoor.Ev

namespace Go.Proofs.YtcbkiipcfdcdgaaGreatDoor.Ev
open Go Go.RowKit
set_option linter.unusedVariables false
set_option linter.unusedSimpArgs false
def chkSet (L : List Setting) (plain : Bool) : Option ByteArray → List Pair → Int
  | _, [] => 0
  | prev, p :: r => match look L p.1 with
    | none => 5
    | some s => if memB s.2 p.2 = false then 1 else if plain = true ∧ s.2.head? = some p.2 then 3 else if notAbove prev p.1 = true then 8 else chkSet L plain (some p.1) r
theorem chkSet_none {L : List Setting} {b : Bool} {C : List Pair} {j : Nat} (h : j < C.length) (hl : look L C[j].1 = none) : chkSet L b (prevOf C j) (C.drop j) = 5 := by
  rw [drop_cons h, chkSet, hl]
theorem chkSet_some {L : List Setting} {b : Bool} {C : List Pair} {j : Nat} (h : j < C.length) {s : Setting} (hl : look L C[j].1 = some s) : chkSet L b (prevOf C j) (C.drop j) =
    if memB s.2 C[j].2 = false then 1 else if b = true ∧ s.2.head? = some C[j].2 then 3 else if notAbove (prevOf C j) C[j].1 = true then 8 else chkSet L b (prevOf C (j + 1)) (C.drop (j + 1)) := by
  rw [drop_cons h, chkSet, hl, prevOf_succ h]
theorem not_false_eq (b : Bool) : bnot b = decide (b = false) := by cases b <;> rfl
theorem head_of_mem {l : List ByteArray} {x : ByteArray} (h : memB l x = true) : ∃ v r, l = v :: r := by
  cases l with
  | nil => cases memB_iff.1 h
  | cons v r => exact ⟨v, r, rfl⟩
/-- the order of names, and what comes then -/
theorem order_step {ι : Type} {l : ι → Nat} {C : List Pair} {j : Nat} (hlt : j < C.length) (hC : C.length ≤ 9223372036854775807) {rest : Int} {f : ι → Option Int} (nx : Ult l f rest) :
    Ult l (fun i => cnd (igt (j : Int) 0) (bnd (at? C (isub .i64 (j : Int) 1)) fun a => cnd (sle C[j].1 a.1) (some 8) (f i)) (f i)) (if notAbove (prevOf C j) C[j].1 = true then 8 else rest) := by
  rw [igt0]
  by_cases h0 : 0 < j
  · refine Ult.yes (decide_eq_true h0) ?_
    rw [ipred (n := C.length) h0 (by omega) (by omega)]
    refine Ult.bindc (at?_nat (show j - 1 < C.length by omega)) ?_
    have hp : prevOf C j = some C[j - 1].1 := by unfold prevOf; rw [dif_pos ⟨h0, by omega⟩]
    rw [hp]
    exact Ult.ifS (dec_true _) (fun _ => Ult.ret) fun _ => nx
  · refine Ult.no (decide_eq_false h0) ?_
    have : j = 0 := by omega
    subst this
    rw [prevOf_zero, if_neg (by simp [notAbove])]
    exact nx
theorem S53_spec (L : List Setting) (C : List Pair) (b : Bool) (hL : SetSz L) (hC : C.length ≤ 140737488355328) : Ultk (fun k => S53 k (L, C, b, ())) (chkSet L b none C) := by
  unfold S53
  have hlen := hL.len
  refine (Ult.forI (fun _ => Nat.le_refl _) C.length (fun j => chkSet L b (prevOf C j) (C.drop j)) fun j hj next => ?_).eq (by rw [List.drop_zero, prevOf_zero])
  dsimp only
  rw [iltL]
  by_cases hlt' : ¬ j < C.length
  · refine Ult.no (decide_eq_false hlt') (Ult.ret.eq ?_)
    rw [List.drop_eq_nil_of_le (by omega)]
    cases prevOf C j <;> rfl
  have hlt : j < C.length := Decidable.not_not.1 hlt'
  refine Ult.yes (decide_eq_true hlt) (Ult.bindc (at?_nat hlt) ?_)
  rw [isucc hlt (by omega)]
  have next' := next hlt
  clear next
  refine Ult.bind (Ult.call (f := fun k => S90 k (L, C[j].1, ())) (lp_le _ _ fun _ => Nat.le_refl _) (S90_spec L C[j].1 (by omega))) ?_
  cases hl : look L C[j].1 with
  | none =>
    rw [chkSet_none hlt hl]
    exact Ult.yes (by rw [ilt_eq]; exact decide_eq_true (idxF_neg.2 hl)) Ult.ret
  | some s =>
    rw [chkSet_some hlt hl]
    obtain ⟨i1, i2⟩ := idxF_at (p := fun s : Setting => decide (s.1 = C[j].1)) hl
    have i1 : at? L (idxN L C[j].1) = some s := i1
    have i2 : 0 ≤ idxN L C[j].1 := i2
    refine Ult.no (by rw [ilt_eq]; exact decide_eq_false (by omega)) (Ult.bindc i1 ?_)
    obtain ⟨m1, m2⟩ := look_name hl
    obtain ⟨hs1, hs2, hs3⟩ := hL.2 s m1
    have hs2' := len_big hs2 (by omega)
    refine Ult.bind (Ult.call (f := fun k => S63 k (s.2, C[j].2, ())) (lp_le _ _ fun _ => Nat.le_refl _) (S63_spec s.2 C[j].2 (by omega))) ?_
    refine Ult.ifS (not_false_eq _) (fun _ => Ult.ret) fun hm => ?_
    rw [Bool.not_eq_false] at hm
    obtain ⟨v0, r0, e0⟩ := head_of_mem hm
    refine Ult.jn ?_
    refine Ult.ite (fun hb => ?_) (fun hb => ?_)
    · refine Ult.bindc i1 (Ult.bindc (show at? s.2 0 = some v0 by rw [e0]; rfl) (Ult.ifS ?_ (fun _ => Ult.ret) fun _ => order_step hlt (by omega) next'))
      rw [seq_eq, e0]
      have hb : b = true := hb
      simp only [decide_eq_decide, hb, true_and, List.head?_cons, Option.some.injEq]
      exact eq_comm
    · exact Ult.ifS (by have hb : b = false := hb; rw [hb]; simp) (fun _ => Ult.ret) fun _ => order_step hlt (by omega) next'
/-- config.CheckConfig -/
def chkConfig (L : List Setting) (C : List Pair) : Int := if chkSettings L ≠ 0 then chkSettings L else chkSet L true none C
theorem S35_spec (L : List Setting) (C : List Pair) (hL : SetSz L) (hC : C.length ≤ 140737488355328) : Ultk (fun k => S35 k (L, C, ())) (chkConfig L C) := by
  unfold S35 chkConfig
  refine Ult.bind (S51_spec L hL) (Ult.ifS (ine_eq _ _) (fun _ => Ult.ret) fun _ => Ult.bind (S53_spec L C true hL hC) Ult.ret)
theorem S48_spec (L : List Setting) (C : List Pair) (hL : SetSz L) (hC : C.length ≤ 140737488355328) : Ultk (fun k => S48 k (L, C, ())) (chkConfig L C) := by
  unfold S48 chkConfig
  refine Ult.bind (S58_spec L hL) (Ult.ifS (ine_eq _ _) (fun _ => Ult.ret) fun _ => ?_)
  have hlen := hL.len
  refine (Ult.forI (fun _ => Nat.le_refl _) C.length (fun j => chkSet L true (prevOf C j) (C.drop j)) fun j hj next => ?_).eq (by rw [List.drop_zero, prevOf_zero])
  dsimp only
  rw [iltL]
  by_cases hlt' : ¬ j < C.length
  · refine Ult.no (decide_eq_false hlt') (Ult.ret.eq ?_)
    rw [List.drop_eq_nil_of_le (by omega)]
    cases prevOf C j <;> rfl
  have hlt : j < C.length := Decidable.not_not.1 hlt'
  refine Ult.yes (decide_eq_true hlt) (Ult.bindc (at?_nat hlt) ?_)
  rw [isucc hlt (by omega)]
  have next' := next hlt
  clear next
  refine Ult.bind (Ult.call (f := fun k => S102 k (L, C[j].1, ())) (lp_le _ _ fun _ => Nat.le_refl _) (S102_spec L C[j].1 (by omega))) ?_
  cases hl : look L C[j].1 with
  | none =>
    rw [chkSet_none hlt hl]
    have : lookS L C[j].1 = ((⟨#[]⟩, []), false) := by unfold lookS; rw [hl]
    rw [this]
    exact Ult.yes rfl Ult.ret
  | some s =>
    rw [chkSet_some hlt hl]
    have : lookS L C[j].1 = (s, true) := by unfold lookS; rw [hl]
    rw [this]
    refine Ult.no rfl ?_
    obtain ⟨m1, m2⟩ := look_name hl
    obtain ⟨hs1, hs2, hs3⟩ := hL.2 s m1
    have hs2' := len_big hs2 (by omega)
    refine Ult.bind (Ult.call (f := fun k => S63 k (s.2, C[j].2, ())) (lp_le _ _ fun _ => Nat.le_refl _) (S63_spec s.2 C[j].2 (by omega))) ?_
    refine Ult.ifS (not_false_eq _) (fun _ => Ult.ret) fun hm => ?_
    rw [Bool.not_eq_false] at hm
    obtain ⟨v0, r0, e0⟩ := head_of_mem hm
    refine Ult.bindc (show at? s.2 0 = some v0 by rw [e0]; rfl) ?_
    refine Ult.ifS ?_ (fun _ => Ult.ret) fun _ => order_step hlt (by omega) next'
    rw [seq_eq, e0]
    simp

/-! ### values -/
theorem chkSets_ne {L : List Setting} : ∀ {prev : Option ByteArray}, chkSets prev L = 0 → ∀ s ∈ L, s.2 ≠ [] ∧ isWord s.1 = true ∧ chkVals [] s.2 = 0 := by
  induction L with
  | nil => intro prev _ s hs; cases hs
  | cons t L ih =>
    intro prev h s hs
    rw [chkSets] at h
    split at h
    · cases h
    · rename_i h1
      split at h
      · cases h
      · rename_i h2
        split at h
        · cases h
        · split at h
          · rename_i h4; exact absurd h h4
          · rename_i h4
            split at h
            · cases h
            · rcases List.mem_cons.1 hs with rfl | hs
              · exact ⟨h2, by simpa using h1, by simpa using h4⟩
              · exact ih h s hs
theorem chkSettings_ne {L : List Setting} (h : chkSettings L = 0) : L.length ≤ 30 ∧ ∀ s ∈ L, s.2 ≠ [] ∧ isWord s.1 = true ∧ chkVals [] s.2 = 0 := by
  unfold chkSettings at h
  split at h
  · cases h
  · exact ⟨by omega, chkSets_ne h⟩
theorem chkConfig_ok {L : List Setting} {C : List Pair} (h : chkConfig L C = 0) : chkSettings L = 0 ∧ chkSet L true none C = 0 := by
  unfold chkConfig at h
  split at h
  · rename_i q; exact absurd h q
  · rename_i q; exact ⟨Decidable.not_not.1 q, h⟩
/-- the value of a setting that there is -/
def valOf (L : List Setting) (C : List Pair) (n : ByteArray) : Option ByteArray := match look C n with
  | some p => some p.2
  | none => (look L n).bind fun s => s.2.head?
theorem S103_spec (L : List Setting) (C : List Pair) (n v : ByteArray) (hL : L.length ≤ 9223372036854775807) (hC : C.length ≤ 9223372036854775807) (hv : valOf L C n = some v) : Ultk (fun k => S103 k (L, C, n, ())) v := by
  unfold S103
  have hd : ∀ j, j ≤ C.length → (match look (C.drop j) n with | some p => some p.2 | none => (look L n).bind fun s => s.2.head?) = some v ∨ ∃ i, i < j ∧ True := fun j _ => by
    cases j with
    | zero => exact .inl (by rw [List.drop_zero]; exact hv)
    | succ j => exact .inr ⟨0, by omega, trivial⟩
  clear hd
  refine Ult.forA (A := Unit) (fun _ => Nat.le_refl _) C.length (fun _ j => (j : Int)) (fun _ j => valOf L (C.drop j) n = some v) (fun _ _ => v) () (by rw [List.drop_zero]; exact hv) fun _ j hj hI next => ?_
  dsimp only
  rw [iltL]
  by_cases hlt' : ¬ j < C.length
  · refine Ult.no (decide_eq_false hlt') ?_
    rw [List.drop_eq_nil_of_le (by omega)] at hI
    have hI : (look L n).bind (fun s => s.2.head?) = some v := hI
    refine Ult.bind (Ult.call (f := fun k => S102 k (L, n, ())) (lp_le _ _ fun _ => Nat.le_refl _) (S102_spec L n hL)) ?_
    unfold lookS
    cases hl : look L n with
    | none => rw [hl] at hI; cases hI
    | some s =>
      rw [hl] at hI
      have hI : s.2.head? = some v := hI
      cases hs : s.2 with
      | nil => rw [hs] at hI; cases hI
      | cons a r =>
        rw [hs] at hI
        cases hI
        exact Ult.bindc (show at? (v :: r) 0 = some v from rfl) Ult.ret
  have hlt : j < C.length := Decidable.not_not.1 hlt'
  refine Ult.yes (decide_eq_true hlt) (Ult.bindc (at?_nat hlt) ?_)
  rw [isucc hlt hC, seq_eq]
  rw [drop_cons hlt] at hI
  unfold valOf look at hI
  by_cases h : C[j].1 = n
  · rw [List.find?_cons_of_pos (by simpa using h)] at hI
    cases hI
    exact Ult.yes (decide_eq_true h) Ult.ret
  · rw [List.find?_cons_of_neg (by simpa using h)] at hI
    exact Ult.no (decide_eq_false h) (next () hlt hI)
theorem valOf_some {L : List Setting} {C : List Pair} {n : ByteArray} (hL : chkSettings L = 0) {s : Setting} (hl : look L n = some s) : ∃ v, valOf L C n = some v := by
  unfold valOf
  cases look C n with
  | some p => exact ⟨_, rfl⟩
  | none =>
    rw [hl]
    have := ((chkSettings_ne hL).2 s (look_name hl).1).1
    cases hs : s.2 with
    | nil => exact absurd hs this
    | cons a r => exact ⟨a, by simp [hs]⟩
/-- config.ValueOf -/
def valueOf (L : List Setting) (C : List Pair) (n : ByteArray) : ByteArray × Int := if chkConfig L C ≠ 0 then (⟨#[]⟩, chkConfig L C) else if look L n = none then (⟨#[]⟩, 5) else ((valOf L C n).getD ⟨#[]⟩, 0)
end Go.Proofs.YtcbkiipcfdcdgaaGreatDoor.Ev

namespace Go.Proofs.YtcbkiipcfdcdgaaGreatDoor.Ev
open Go Go.RowKit
set_option linter.unusedVariables false
set_option linter.unusedSimpArgs false
theorem S45_spec (L : List ByteArray) (h : L.length * 16 ≤ 140737488355328) : Ultk (fun k => S45 k (L, ())) L := ⟨0, fun k _ => if_pos h⟩
theorem S10_spec (L : List Pair) (h : L.length * 32 ≤ 140737488355328) : Ultk (fun k => S10 k (L, ())) L := ⟨0, fun k _ => if_pos h⟩
theorem S43_spec (L : List Setting) (hL : SetSz L) : Ultk (fun k => S43 k (L, ())) L := by
  unfold S43
  have hlen := hL.len
  have h40 := hL.1
  refine Ult.forA (A := List Setting) (fun _ => Nat.le_refl _) L.length (fun a j => (a, (j : Int))) (fun a j => a = L.take j) (fun _ _ => L) [] (by simp) fun a j hj ha next => ?_
  subst ha
  dsimp only
  rw [iltL]
  by_cases hlt' : ¬ j < L.length
  · refine Ult.no (decide_eq_false hlt') (Ult.ret.eq ?_)
    exact List.take_of_length_le (by omega)
  have hlt : j < L.length := Decidable.not_not.1 hlt'
  refine Ult.yes (decide_eq_true hlt) (Ult.bindc (at?_nat hlt) ?_)
  obtain ⟨hs1, hs2, hs3⟩ := hL.2 _ (List.getElem_mem hlt)
  refine Ult.bind (Ult.call (f := fun k => S45 k (L[j].2, ())) (lp_le _ _ fun _ => Nat.le_refl _) (S45_spec L[j].2 (by omega))) ?_
  refine Ult.bindc (app?_ok (by simp only [List.length_take, List.length_cons, List.length_nil]; have := Nat.min_le_left j L.length; show (min j L.length + (0 + 1)) * 40 ≤ _; omega)) ?_
  rw [isucc hlt (by omega), show L.take j ++ [(L[j].1, L[j].2)] = L.take (j + 1) by rw [List.take_succ_eq_append_getElem hlt]]
  exact next _ hlt rfl
theorem S19_self (L : List ByteArray) (hL : L.length ≤ 9223372036854775807) : Ultk (fun k => S19 k (L, L, ())) true := by
  unfold S19
  refine Ult.no (by rw [ine_eq]; simp) ?_
  refine Ult.forI (fun _ => Nat.le_refl _) L.length (fun _ => true) fun j hj next => ?_
  dsimp only
  rw [iltL]
  by_cases hlt' : ¬ j < L.length
  · exact Ult.no (decide_eq_false hlt') Ult.ret
  have hlt : j < L.length := Decidable.not_not.1 hlt'
  refine Ult.yes (decide_eq_true hlt) (Ult.bindc (at?_nat hlt) (Ult.bindc (at?_nat hlt) (Ult.no (by rw [sne_eq]; simp) ?_)))
  rw [isucc hlt hL]
  exact next hlt
theorem S18_self (L : List Pair) (hL : L.length ≤ 9223372036854775807) : Ultk (fun k => S18 k (L, L, ())) true := by
  unfold S18
  refine Ult.no (by rw [ine_eq]; simp) ?_
  refine Ult.forI (fun _ => Nat.le_refl _) L.length (fun _ => true) fun j hj next => ?_
  dsimp only
  rw [iltL]
  by_cases hlt' : ¬ j < L.length
  · exact Ult.no (decide_eq_false hlt') Ult.ret
  have hlt : j < L.length := Decidable.not_not.1 hlt'
  refine Ult.yes (decide_eq_true hlt) (Ult.bindc (at?_nat hlt) (Ult.bindc (at?_nat hlt) (Ult.no (by rw [kbeq_pair]; simp [bnot]) ?_)))
  rw [isucc hlt hL]
  exact next hlt
theorem S67_self (L : List Setting) (hL : SetSz L) : Ultk (fun k => S67 k (L, L, ())) true := by
  unfold S67
  have hlen := hL.len
  refine Ult.no (by rw [ine_eq]; simp) ?_
  refine Ult.forI (fun _ => Nat.le_refl _) L.length (fun _ => true) fun j hj next => ?_
  dsimp only
  rw [iltL]
  by_cases hlt' : ¬ j < L.length
  · exact Ult.no (decide_eq_false hlt') Ult.ret
  have hlt : j < L.length := Decidable.not_not.1 hlt'
  obtain ⟨hs1, hs2, hs3⟩ := hL.2 _ (List.getElem_mem hlt)
  have hs2' := len_big hs2 (by omega)
  refine Ult.yes (decide_eq_true hlt) (Ult.bindc (at?_nat hlt) (Ult.bindc (at?_nat hlt) (Ult.no (by rw [sne_eq]; simp) (Ult.bindc (at?_nat hlt) (Ult.bindc (at?_nat hlt) ?_)))))
  refine Ult.bind (Ult.call (f := fun k => S19 k (L[j].2, L[j].2, ())) (lp_le _ _ fun _ => Nat.le_refl _) (S19_self L[j].2 (by omega))) (Ult.no rfl ?_)
  rw [isucc hlt (by omega)]
  exact next hlt

/-! ### what a right configuration is -/
theorem chkVals_ok {L : List ByteArray} : ∀ {seen : List ByteArray}, chkVals seen L = 0 → (∀ v ∈ L, isWord v = true ∧ v ∉ seen) ∧ L.Nodup := by
  induction L with
  | nil => intro seen _; exact ⟨fun v h => (by cases h), List.nodup_nil⟩
  | cons a L ih =>
    intro seen h
    rw [chkVals] at h
    split at h
    · cases h
    · rename_i h1
      split at h
      · cases h
      · rename_i h2
        obtain ⟨i1, i2⟩ := ih h
        refine ⟨fun v hv => ?_, List.nodup_cons.2 ⟨fun hm => (i1 a hm).2 (by simp), i2⟩⟩
        rcases List.mem_cons.1 hv with rfl | hv
        · exact ⟨by simpa using h1, fun hm => h2 (memB_iff.2 hm)⟩
        · exact ⟨(i1 v hv).1, fun hm => (i1 v hv).2 (by simp [hm])⟩
theorem notAbove_false {prev : Option ByteArray} {n : ByteArray} (h : ¬ notAbove prev n = true) : ∀ m, prev = some m → lt m n := by
  intro m hm
  subst hm
  have h : ¬ sle n m = true := h
  rw [sle_eq] at h
  unfold lt
  simpa using h
theorem lt_trans' {a b c : ByteArray} (h : lt a b) (h' : lt b c) : lt a c := List.lt_trans h h'
theorem lt_irr (a : ByteArray) : ¬ lt a a := List.lt_irrefl _
theorem chkSet_ok {L : List Setting} {b : Bool} : ∀ {C : List Pair} {prev : Option ByteArray}, chkSet L b prev C = 0 →
    (∀ p ∈ C, ∃ s, look L p.1 = some s ∧ p.2 ∈ s.2 ∧ (b = true → s.2.head? ≠ some p.2) ∧ ∀ m, prev = some m → lt m p.1) ∧ C.Pairwise (fun p q => lt p.1 q.1)
  | [], prev, _ => ⟨fun p h => (by cases h), List.Pairwise.nil⟩
  | p :: C, prev, h => by
    rw [chkSet] at h
    split at h
    · cases h
    · rename_i s hs
      split at h
      · cases h
      · rename_i h1
        split at h
        · cases h
        · rename_i h2
          split at h
          · cases h
          · rename_i h3
            obtain ⟨i1, i2⟩ := chkSet_ok h
            have hp := notAbove_false h3
            refine ⟨fun q hq => ?_, List.pairwise_cons.2 ⟨fun q hq => ?_, i2⟩⟩
            · rcases List.mem_cons.1 hq with rfl | hq
              · exact ⟨s, hs, memB_iff.1 (by simpa using h1), fun hb e => h2 ⟨hb, e⟩, hp⟩
              · obtain ⟨t, t1, t2, t3, t4⟩ := i1 q hq
                exact ⟨t, t1, t2, t3, fun m hm => lt_trans' (hp m hm) (t4 _ rfl)⟩
            · obtain ⟨t, t1, t2, t3, t4⟩ := i1 q hq
              exact t4 _ rfl
theorem pigeon {α : Type} : ∀ {A B : List α}, A.Nodup → (∀ a ∈ A, a ∈ B) → A.length ≤ B.length
  | [], _, _, _ => Nat.zero_le _
  | a :: A, B, hn, hs => by
    obtain ⟨s, t, rfl⟩ := List.append_of_mem (hs a (by simp))
    obtain ⟨h1, h2⟩ := List.nodup_cons.1 hn
    have := pigeon (B := s ++ t) h2 fun x hx => by
      have := hs x (by simp [hx])
      rcases List.mem_append.1 this with q | q
      · exact List.mem_append_left _ q
      · rcases List.mem_cons.1 q with rfl | q
        · exact absurd hx h1
        · exact List.mem_append_right _ q
    simp only [List.length_append, List.length_cons] at this ⊢
    omega
theorem cfg_len {L : List Setting} {b : Bool} {prev : Option ByteArray} {C : List Pair} (h : chkSet L b prev C = 0) : C.length ≤ L.length := by
  obtain ⟨h1, h2⟩ := chkSet_ok h
  have := pigeon (A := C.map (·.1)) (B := L.map (·.1)) (by
      unfold List.Nodup
      rw [List.pairwise_map]
      exact h2.imp fun {p q} (h : lt p.1 q.1) (e : p.1 = q.1) => lt_irr q.1 (e ▸ h)) fun a ha => by
    obtain ⟨p, hp, rfl⟩ := List.mem_map.1 ha
    obtain ⟨s, hs, _⟩ := h1 p hp
    obtain ⟨m1, m2⟩ := look_name hs
    exact List.mem_map.2 ⟨s, m1, m2⟩
  simpa using this
theorem cfg_words {L : List Setting} {b : Bool} {prev : Option ByteArray} {C : List Pair} (hL : chkSettings L = 0) (h : chkSet L b prev C = 0) : ∀ p ∈ C, isWord p.1 = true ∧ isWord p.2 = true := by
  intro p hp
  obtain ⟨s, hs, h2, _⟩ := (chkSet_ok h).1 p hp
  obtain ⟨m1, m2⟩ := look_name hs
  obtain ⟨_, w1, w2⟩ := (chkSettings_ne hL).2 s m1
  exact ⟨m2 ▸ w1, ((chkVals_ok w2).1 _ h2).1⟩
end Go.Proofs.YtcbkiipcfdcdgaaGreatDoor.Ev

namespace Go.Proofs.YtcbkiipcfdcdgaaGreatDoor.Ev
open Go Go.RowKit
set_option linter.unusedVariables false
set_option linter.unusedSimpArgs false
def partOf (p : Pair) : ByteArray := p.1 ++ (⟨#[61]⟩ : ByteArray) ++ p.2
def joinB (l : List ByteArray) : ByteArray := ⟨(Lib.join (l.map (·.data.toList)) [44]).toArray⟩
def cfgText (L : List Setting) (C : List Pair) : ByteArray × Int := if chkConfig L C ≠ 0 then (⟨#[]⟩, chkConfig L C) else if C = [] then (⟨#[45]⟩, 0) else (joinB (C.map partOf), 0)
theorem joinTail_len (sep : List UInt8) (m : Nat) : ∀ (l : List (List UInt8)), (∀ x ∈ l, x.length ≤ m) → (Lib.joinTail sep l).length ≤ l.length * (m + sep.length)
  | [], _ => by simp [Lib.joinTail]
  | x :: l, h => by
    have ih := joinTail_len sep m l fun y hy => h y (by simp [hy])
    have hx := h x (by simp)
    unfold Lib.joinTail at ih ⊢
    simp only [List.map_cons, List.flatten_cons, List.length_append, List.length_cons]
    rw [Nat.add_mul]
    omega
theorem join_len (sep : List UInt8) (m : Nat) (l : List (List UInt8)) (h : ∀ x ∈ l, x.length ≤ m) : (Lib.join l sep).length ≤ l.length * (m + sep.length) := by
  cases l with
  | nil => simp [Lib.join_nil]
  | cons x l =>
    rw [Lib.join_cons, List.length_append, List.length_cons, Nat.add_mul]
    have h1 := joinTail_len sep m l fun y hy => h y (by simp [hy])
    have h2 := h x (by simp)
    omega
theorem partOf_size (p : Pair) : (partOf p).size = p.1.size + 1 + p.2.size := by
  unfold partOf
  rw [ByteArray.size_append, ByteArray.size_append]; rfl
theorem part_small {L : List Setting} {C : List Pair} (h : chkConfig L C = 0) : C.length ≤ 30 ∧ ∀ p ∈ C, p.1.size ≤ 40 ∧ p.2.size ≤ 40 := by
  obtain ⟨h1, h2⟩ := chkConfig_ok h
  have := cfg_len h2
  have := (chkSettings_ne h1).1
  exact ⟨by omega, fun p hp => ⟨(isWord_size (cfg_words h1 h2 p hp).1).2, (isWord_size (cfg_words h1 h2 p hp).2).2⟩⟩
theorem joinF_ok {l : List ByteArray} (h1 : l.length ≤ 30) (h2 : ∀ x ∈ l, x.size ≤ 81) : joinF l ⟨#[44]⟩ = some (joinB l) := by
  unfold joinF
  have hs : (⟨#[44]⟩ : ByteArray).data.toList = [44] := rfl
  rw [hs]
  have := join_len [44] 81 (l.map (·.data.toList)) fun x hx => by
    obtain ⟨y, hy, rfl⟩ := List.mem_map.1 hx
    have := h2 y hy
    simpa using this
  rw [List.length_map] at this
  have h3 : l.length * (81 + 1) ≤ 30 * 82 := Nat.mul_le_mul_right _ h1
  rw [if_pos ⟨by omega, Nat.le_trans this (Nat.le_trans h3 (by decide))⟩]
  rfl
theorem S69_spec (L : List Setting) (C : List Pair) (hL : SetSz L) (hC : C.length ≤ 140737488355328) : Ultk (fun k => S69 k (L, C, ())) (cfgText L C) := by
  unfold S69 cfgText
  refine Ult.bind (S35_spec L C hL hC) (Ult.ifS (ine_eq _ _) (fun _ => Ult.ret) fun h0 => ?_)
  obtain ⟨h30, hp⟩ := part_small (Decidable.not_not.1 h0)
  refine Ult.ifS (by rw [ieq_eq]; unfold len; simp only [decide_eq_decide]; rw [← List.length_eq_zero_iff]; omega) (fun _ => Ult.ret) fun hne => ?_
  refine Ult.forA (A := List ByteArray) (fun _ => Nat.le_refl _) C.length (fun a j => (a, (j : Int))) (fun a j => a = (C.take j).map partOf) (fun _ _ => (joinB (C.map partOf), 0)) [] (by simp) fun a j hj ha next => ?_
  subst ha
  dsimp only
  rw [iltL]
  by_cases hlt' : ¬ j < C.length
  · refine Ult.no (decide_eq_false hlt') ?_
    rw [List.take_of_length_le (by omega)]
    have hjn : ∀ k, S111 k (C.map partOf, (⟨#[44]⟩ : ByteArray), ()) = some (joinB (C.map partOf)) := fun k => joinF_ok (by rw [List.length_map]; exact h30) fun x hx => by
      obtain ⟨p, hpm, rfl⟩ := List.mem_map.1 hx
      have := hp p hpm
      rw [partOf_size]; omega
    exact Ult.bind ⟨0, fun i _ => hjn _⟩ Ult.ret
  have hlt : j < C.length := Decidable.not_not.1 hlt'
  have hpj := hp _ (List.getElem_mem hlt)
  refine Ult.yes (decide_eq_true hlt) (Ult.bindc (at?_nat hlt) ?_)
  refine Ult.bindc (cat?_ok (show C[j].1.size + (⟨#[61]⟩ : ByteArray).size ≤ _ by rw [show (⟨#[61]⟩ : ByteArray).size = 1 from rfl]; omega)) ?_
  refine Ult.bindc (cat?_ok (show (C[j].1 ++ (⟨#[61]⟩ : ByteArray)).size + C[j].2.size ≤ _ by rw [ByteArray.size_append, show (⟨#[61]⟩ : ByteArray).size = 1 from rfl]; omega)) ?_
  refine Ult.bindc (app?_ok (by simp only [List.length_map, List.length_take, List.length_cons, List.length_nil]; have := Nat.min_le_left j C.length; show (min j C.length + (0 + 1)) * 16 ≤ _; omega)) ?_
  rw [isucc hlt (by omega)]
  exact next _ hlt (by rw [List.take_succ_eq_append_getElem hlt, List.map_append]; rfl)
theorem S22_spec : Ultk (fun k => S22 k ()) true := by
  unfold S22
  have h : cfgText [((⟨#[109]⟩ : ByteArray), [(⟨#[97]⟩ : ByteArray), (⟨#[98]⟩ : ByteArray)])] [((⟨#[109]⟩ : ByteArray), (⟨#[98]⟩ : ByteArray))] = (⟨#[109, 61, 98]⟩, 0) := by decide +kernel
  have hs := S69_spec [((⟨#[109]⟩ : ByteArray), [(⟨#[97]⟩ : ByteArray), (⟨#[98]⟩ : ByteArray)])] [((⟨#[109]⟩ : ByteArray), (⟨#[98]⟩ : ByteArray))] ⟨by decide, fun s hs => by
    obtain rfl : s = ((⟨#[109]⟩ : ByteArray), [(⟨#[97]⟩ : ByteArray), (⟨#[98]⟩ : ByteArray)]) := by simpa using hs
    refine ⟨by decide, by decide, fun v hv => ?_⟩
    rcases List.mem_cons.1 hv with rfl | hv
    · decide
    · obtain rfl : v = (⟨#[98]⟩ : ByteArray) := by simpa using hv
      decide⟩ (by decide)
  rw [h] at hs
  refine Ult.bind hs (Ult.yes rfl (Ult.ret.eq ?_))
  rw [seq_eq]
  exact decide_eq_true rfl
end Go.Proofs.YtcbkiipcfdcdgaaGreatDoor.Ev

namespace Go.Proofs.YtcbkiipcfdcdgaaGreatDoor.Ev
open Go Go.RowKit
set_option linter.unusedVariables false
set_option linter.unusedSimpArgs false
abbrev Platform : Type := ByteArray × List Pair
abbrev Tool : Type := ByteArray × ByteArray × List Pair × List Pair
abbrev Condition : Type := ByteArray × List Pair × List Pair
abbrev Transition : Type := ByteArray × List Pair × List ByteArray
abbrev CWorld : Type := List Setting × List Condition × List Platform × List Tool × List Transition
def PlatSz (L : List Platform) : Prop := L.length * 40 ≤ 140737488351232 ∧ ∀ p ∈ L, p.1.size ≤ 140737488351232 ∧ PairSz p.2
def ToolSz (L : List Tool) : Prop := L.length * 80 ≤ 140737488351232 ∧ ∀ p ∈ L, p.1.size ≤ 140737488351232 ∧ p.2.1.size ≤ 140737488351232 ∧ PairSz p.2.2.1 ∧ PairSz p.2.2.2
def CondSz (L : List Condition) : Prop := L.length * 64 ≤ 140737488351232 ∧ ∀ p ∈ L, p.1.size ≤ 140737488351232 ∧ PairSz p.2.1 ∧ PairSz p.2.2
def StrsSz (L : List ByteArray) : Prop := L.length * 16 ≤ 140737488351232 ∧ ∀ s ∈ L, s.size ≤ 140737488351232
def TranSz (L : List Transition) : Prop := L.length * 64 ≤ 140737488351232 ∧ ∀ p ∈ L, p.1.size ≤ 140737488351232 ∧ PairSz p.2.1 ∧ StrsSz p.2.2
def WorldSz (x : CWorld) : Prop := SetSz x.1 ∧ CondSz x.2.1 ∧ PlatSz x.2.2.1 ∧ ToolSz x.2.2.2.1 ∧ TranSz x.2.2.2.2
variable {ι R α : Type} {l : ι → Nat}

/-! ### loops that only look -/
theorem idx_loop {kk : ι → Nat} (hk : ∀ i, l i ≤ kk i) (L : List α) (f : ι → α → Option Bool) (p : α → Bool) (hf : ∀ a ∈ L, Ult l (fun i => f i a) (p a)) (hL : L.length ≤ 9223372036854775807) :
    Ult l (fun i => loopN (kk i) (fun (next : Int → Option Int) (j : Int) => cnd (ilt j (len L)) (bnd (at? L j) fun a => bnd (f i a) fun b => cnd b (some j) (next (iadd .i64 j 1))) (some (-1))) 0) (idxF p 0 L) := by
  refine (Ult.forI hk L.length (fun j => idxF p j (L.drop j)) fun j hj next => ?_).eq (by rw [List.drop_zero])
  rw [iltL]
  by_cases hlt' : ¬ j < L.length
  · refine Ult.no (decide_eq_false hlt') (Ult.ret.eq ?_)
    rw [List.drop_eq_nil_of_le (by omega)]; rfl
  have hlt : j < L.length := Decidable.not_not.1 hlt'
  refine Ult.yes (decide_eq_true hlt) (Ult.bindc (at?_nat hlt) (Ult.bind (hf _ (List.getElem_mem hlt)).lift ?_))
  rw [drop_cons hlt, idxF, isucc hlt hL]
  exact Ult.ifS (by simp) (fun h => Ult.ret) (fun h => next hlt)
theorem any_loop {kk : ι → Nat} (hk : ∀ i, l i ≤ kk i) (L : List α) (g : α → Bool) {r1 r2 : R} {y n : ι → Option R} (hy : Ult l y r1) (hn : Ult l n r2) (hL : L.length ≤ 9223372036854775807) :
    Ult l (fun i => loopN (kk i) (fun (next : Int → Option R) (j : Int) => cnd (ilt j (len L)) (bnd (at? L j) fun a => cnd (g a) (y i) (next (iadd .i64 j 1))) (n i)) 0) (if L.any g = true then r1 else r2) := by
  refine (Ult.forI hk L.length (fun j => if (L.drop j).any g = true then r1 else r2) fun j hj next => ?_).eq (by rw [List.drop_zero])
  rw [iltL]
  by_cases hlt' : ¬ j < L.length
  · refine Ult.no (decide_eq_false hlt') (hn.lift.eq ?_)
    rw [List.drop_eq_nil_of_le (by omega)]; rfl
  have hlt : j < L.length := Decidable.not_not.1 hlt'
  refine Ult.yes (decide_eq_true hlt) (Ult.bindc (at?_nat hlt) ?_)
  rw [drop_cons hlt, List.any_cons, isucc hlt hL]
  cases hg : g L[j]
  · exact Ult.no rfl (next hlt)
  · exact Ult.yes rfl (hy.lift.eq (by simp))
theorem all_loop {kk : ι → Nat} (hk : ∀ i, l i ≤ kk i) (L : List α) (f : ι → α → Option Bool) (p : α → Bool) {r1 r2 : R} {y n : ι → Option R} (hy : Ult l y r1) (hn : Ult l n r2) (hf : ∀ a ∈ L, Ult l (fun i => f i a) (p a)) (hL : L.length ≤ 9223372036854775807) :
    Ult l (fun i => loopN (kk i) (fun (next : Int → Option R) (j : Int) => cnd (ilt j (len L)) (bnd (at? L j) fun a => bnd (f i a) fun b => cnd (bnot b) (n i) (next (iadd .i64 j 1))) (y i)) 0) (if L.all p = true then r1 else r2) := by
  refine (Ult.forI hk L.length (fun j => if (L.drop j).all p = true then r1 else r2) fun j hj next => ?_).eq (by rw [List.drop_zero])
  rw [iltL]
  by_cases hlt' : ¬ j < L.length
  · refine Ult.no (decide_eq_false hlt') (hy.lift.eq ?_)
    rw [List.drop_eq_nil_of_le (by omega)]; rfl
  have hlt : j < L.length := Decidable.not_not.1 hlt'
  refine Ult.yes (decide_eq_true hlt) (Ult.bindc (at?_nat hlt) (Ult.bind (hf _ (List.getElem_mem hlt)).lift ?_))
  rw [drop_cons hlt, List.all_cons, isucc hlt hL]
  cases hg : p L[j]
  · exact Ult.yes rfl (hn.lift.eq (by simp))
  · exact Ult.no rfl (next hlt)
theorem idxF_any {p : α → Bool} {L : List α} : ige (idxF p 0 L) 0 = L.any p := by
  rw [ige_eq]
  rcases idxF_cases p 0 L with ⟨h1, h2⟩ | ⟨i, hi, h1, h2, h3⟩
  · rw [h1]
    rw [List.find?_eq_none] at h2
    have : L.any p = false := by
      rw [List.any_eq_false]
      intro a ha; exact h2 a ha
    rw [this]; rfl
  · rw [h1, decide_eq_true (Int.natCast_nonneg _)]
    exact (List.any_eq_true.2 ⟨L[i], List.getElem_mem hi, h3⟩).symm

/-! ### pairs -/
def chkPairs : Option ByteArray → List Pair → Int
  | _, [] => 0
  | prev, p :: r => if isWord p.1 = false then 5 else if isWord p.2 = false then 1 else if notAbove prev p.1 = true then 8 else chkPairs (some p.1) r
def chkPairsL (L : List Pair) : Int := if 30 < L.length then 2 else chkPairs none L
def chkPlats : List Platform → List Platform → Int
  | _, [] => 0
  | seen, p :: r => if isWord p.1 = false then 5 else if chkPairsL p.2 ≠ 0 then chkPairsL p.2 else if (seen.any fun q => decide (q.1 = p.1)) = true then 7 else chkPlats (seen ++ [p]) r
def chkPlatforms (L : List Platform) : Int := if 50 < L.length then 2 else chkPlats [] L
def chkTls : List Tool → List Tool → Int
  | _, [] => 0
  | seen, p :: r => if isWord p.1 = false then 5 else if isWord p.2.1 = false then 5 else if chkPairsL p.2.2.1 ≠ 0 then chkPairsL p.2.2.1 else if chkPairsL p.2.2.2 ≠ 0 then chkPairsL p.2.2.2 else if (seen.any fun q => decide (q.1 = p.1)) = true then 7 else chkTls (seen ++ [p]) r
def chkTools (L : List Tool) : Int := if 100 < L.length then 2 else chkTls [] L
def chkKinds : Option ByteArray → List ByteArray → Int
  | _, [] => 0
  | prev, p :: r => if isWord p = false then 5 else if notAbove prev p = true then 8 else chkKinds (some p) r
def prevK (L : List ByteArray) (j : Nat) : Option ByteArray := if h : 0 < j ∧ j - 1 < L.length then some (L[j - 1]'h.2) else none
theorem prevK_succ {L : List ByteArray} {j : Nat} (h : j < L.length) : prevK L (j + 1) = some L[j] := by unfold prevK; rw [dif_pos ⟨Nat.succ_pos _, by simpa using h⟩]; simp
theorem order_stepK {C : List ByteArray} {j : Nat} (hlt : j < C.length) (hC : C.length ≤ 9223372036854775807) {e rest : R} {y f : ι → Option R} (he : Ult l y e) (nx : Ult l f rest) :
    Ult l (fun i => cnd (igt (j : Int) 0) (bnd (at? C (isub .i64 (j : Int) 1)) fun a => cnd (sle C[j] a) (y i) (f i)) (f i)) (if notAbove (prevK C j) C[j] = true then e else rest) := by
  rw [igt0]
  by_cases h0 : 0 < j
  · refine Ult.yes (decide_eq_true h0) ?_
    rw [ipred (n := C.length) h0 (by omega) (by omega)]
    refine Ult.bindc (at?_nat (show j - 1 < C.length by omega)) ?_
    have hp : prevK C j = some C[j - 1] := by unfold prevK; rw [dif_pos ⟨h0, by omega⟩]
    rw [hp]
    exact Ult.ifS (dec_true _) (fun _ => he) fun _ => nx
  · refine Ult.no (decide_eq_false h0) ?_
    have : j = 0 := by omega
    subst this
    rw [show prevK C 0 = none from rfl, if_neg (by simp [notAbove])]
    exact nx
def hasP (L : List Pair) (p : Pair) : Bool := L.any fun q => decide (p = q)
def fitP (A B : List Pair) : Bool := A.all fun p => hasP B p
theorem if_all (b : Bool) : (if b = true then true else false) = b := by cases b <;> rfl
end Go.Proofs.YtcbkiipcfdcdgaaGreatDoor.Ev

namespace Go.Proofs.YtcbkiipcfdcdgaaGreatDoor.Ev
open Go Go.RowKit
set_option linter.unusedVariables false
set_option linter.unusedSimpArgs false
variable {ι R α X : Type} {l : ι → Nat}
theorem Ult.copyI {st : ι → (X → Option R) → X → Option R} {k : ι → Nat} (hk : ∀ i, l i ≤ k i) (L : List α) (mk : List α → Nat → X) (r : R)
    (hd : Ult (lp l) (fun p => st p.1 (loopN p.2 (st p.1)) (mk L L.length)) r)
    (hs : ∀ j, (h : j < L.length) → Ult (lp l) (fun p => loopN p.2 (st p.1) (mk (L.take j ++ [L[j]]) (j + 1))) r → Ult (lp l) (fun p => st p.1 (loopN p.2 (st p.1)) (mk (L.take j) j)) r) :
    Ult l (fun i => loopN (k i) (st i) (mk [] 0)) r := by
  refine Ult.forA (A := List α) hk L.length mk (fun v j => v = L.take j) (fun _ _ => r) [] (by simp) fun v j hj hv next => ?_
  subst hv
  by_cases hlt' : ¬ j < L.length
  · have : j = L.length := by omega
    subst this
    rw [List.take_of_length_le (Nat.le_refl _)]
    exact hd
  have hlt : j < L.length := Decidable.not_not.1 hlt'
  refine hs j hlt ?_
  rw [show L.take j ++ [L[j]] = L.take (j + 1) by rw [List.take_succ_eq_append_getElem hlt]]
  exact next _ hlt rfl
theorem iltE (L : List α) : ilt (L.length : Int) (len L) = false := by rw [iltL]; simp
theorem takeL {L : List α} {j : Nat} (h : j < L.length) : (L.take j).length = j := by rw [List.length_take]; omega

theorem S44_spec (p : Condition) (h1 : PairSz p.2.1) (h2 : PairSz p.2.2) : Ultk (fun k => S44 k (p, ())) p := by
  unfold S44
  exact Ult.bind (S10_spec p.2.1 (by have := h1.1; omega)) (Ult.bind (S10_spec p.2.2 (by have := h2.1; omega)) Ult.ret)
theorem S24_spec (p : Platform) (h1 : PairSz p.2) : Ultk (fun k => S24 k (p, ())) p := by
  unfold S24
  exact Ult.bind (S10_spec p.2 (by have := h1.1; omega)) Ult.ret
theorem S9_spec (p : Transition) (h1 : PairSz p.2.1) (h2 : StrsSz p.2.2) : Ultk (fun k => S9 k (p, ())) p := by
  unfold S9
  exact Ult.bind (S10_spec p.2.1 (by have := h1.1; omega)) (Ult.bind (S45_spec p.2.2 (by have := h2.1; omega)) Ult.ret)
theorem S8_spec (x : CWorld) (hx : WorldSz x) : Ultk (fun k => S8 k (x, ())) x := by
  obtain ⟨a, b, c, d, e⟩ := x
  obtain ⟨ha, hb, hc, hd, he⟩ := hx
  dsimp only at ha hb hc hd he
  have lb := len_big hb.1 (by omega)
  have lc := len_big hc.1 (by omega)
  have ld := len_big hd.1 (by omega)
  have le := len_big he.1 (by omega)
  have mb := hb.1
  have mc := hc.1
  have md := hd.1
  have me := he.1
  unfold S8
  try dsimp only
  refine Ult.bind (S43_spec a ha) ?_
  refine Ult.copyI (fun _ => Nat.le_refl _) b (fun v j => ((j : Int), a, v, ([] : List Platform), ([] : List Tool), ([] : List Transition))) _ ?_ fun j hlt next => ?_
  rotate_left
  · try dsimp only
    rw [iltL]
    obtain ⟨s1, s2, s3⟩ := hb.2 _ (List.getElem_mem hlt)
    refine Ult.yes (decide_eq_true hlt) (Ult.bindc (at?_nat hlt) ?_)
    refine Ult.bind (Ult.call (f := fun k => S44 k (b[j], ())) (lp_le _ _ fun _ => Nat.le_refl _) (S44_spec b[j] s2 s3)) ?_
    refine Ult.bindc (app?_ok (by rw [takeL hlt]; show (j + 1) * 64 ≤ _; omega)) ?_
    rw [isucc hlt (by omega)]
    exact next
  try dsimp only
  refine Ult.no (iltE _) ?_
  refine Ult.copyI (lp_le _ _ fun _ => Nat.le_refl _) c (fun v j => ((j : Int), a, b, v, ([] : List Tool), ([] : List Transition))) _ ?_ fun j hlt next => ?_
  rotate_left
  · try dsimp only
    rw [iltL]
    obtain ⟨s1, s2⟩ := hc.2 _ (List.getElem_mem hlt)
    refine Ult.yes (decide_eq_true hlt) (Ult.bindc (at?_nat hlt) ?_)
    refine Ult.bind (Ult.call (f := fun k => S24 k (c[j], ())) (lp_le _ _ (lp_le _ _ fun _ => Nat.le_refl _)) (S24_spec c[j] s2)) ?_
    refine Ult.bindc (app?_ok (by rw [takeL hlt]; show (j + 1) * 40 ≤ _; omega)) ?_
    rw [isucc hlt (by omega)]
    exact next
  try dsimp only
  refine Ult.no (iltE _) ?_
  refine Ult.copyI (lp_le _ _ (lp_le _ _ fun _ => Nat.le_refl _)) d (fun v j => ((j : Int), a, b, c, v, ([] : List Transition))) _ ?_ fun j hlt next => ?_
  rotate_left
  · try dsimp only
    rw [iltL]
    obtain ⟨s1, s2, s3, s4⟩ := hd.2 _ (List.getElem_mem hlt)
    refine Ult.yes (decide_eq_true hlt) (Ult.bindc (at?_nat hlt) ?_)
    refine Ult.bind (Ult.call (f := fun k => S10 k (d[j].2.2.1, ())) (lp_le _ _ (lp_le _ _ (lp_le _ _ fun _ => Nat.le_refl _))) (S10_spec d[j].2.2.1 (by have := s3.1; omega))) ?_
    refine Ult.bind (Ult.call (f := fun k => S10 k (d[j].2.2.2, ())) (lp_le _ _ (lp_le _ _ (lp_le _ _ fun _ => Nat.le_refl _))) (S10_spec d[j].2.2.2 (by have := s4.1; omega))) ?_
    refine Ult.bindc (app?_ok (by rw [takeL hlt]; show (j + 1) * 80 ≤ _; omega)) ?_
    rw [isucc hlt (by omega)]
    exact next
  try dsimp only
  refine Ult.no (iltE _) ?_
  refine Ult.copyI (lp_le _ _ (lp_le _ _ (lp_le _ _ fun _ => Nat.le_refl _))) e (fun v j => ((j : Int), a, b, c, d, v)) _ ?_ fun j hlt next => ?_
  rotate_left
  · try dsimp only
    rw [iltL]
    obtain ⟨s1, s2, s3⟩ := he.2 _ (List.getElem_mem hlt)
    refine Ult.yes (decide_eq_true hlt) (Ult.bindc (at?_nat hlt) ?_)
    refine Ult.bind (Ult.call (f := fun k => S9 k (e[j], ())) (lp_le _ _ (lp_le _ _ (lp_le _ _ (lp_le _ _ fun _ => Nat.le_refl _)))) (S9_spec e[j] s2 s3)) ?_
    refine Ult.bindc (app?_ok (by rw [takeL hlt]; show (j + 1) * 64 ≤ _; omega)) ?_
    rw [isucc hlt (by omega)]
    exact next
  try dsimp only
  exact Ult.no (iltE _) Ult.ret

/-! ### compared with themselves -/
theorem S68_self (p : Condition) (h1 : PairSz p.2.1) (h2 : PairSz p.2.2) : Ultk (fun k => S68 k (p, p, ())) true := by
  unfold S68
  have l1 := h1.len
  have l2 := h2.len
  exact Ult.yes (by rw [seq_eq]; simp) (Ult.bind (S18_self p.2.1 (by omega)) (Ult.yes rfl (Ult.bind (S18_self p.2.2 (by omega)) Ult.ret)))
theorem S32_self (p : Platform) (h1 : PairSz p.2) : Ultk (fun k => S32 k (p, p, ())) true := by
  unfold S32
  have l1 := h1.len
  exact Ult.yes (by rw [seq_eq]; simp) (Ult.bind (S18_self p.2 (by omega)) Ult.ret)
theorem S21_self (p : Transition) (h1 : PairSz p.2.1) (h2 : StrsSz p.2.2) : Ultk (fun k => S21 k (p, p, ())) true := by
  unfold S21
  have l1 := h1.len
  have l2 := len_big h2.1 (by omega)
  exact Ult.yes (by rw [seq_eq]; simp) (Ult.bind (S18_self p.2.1 (by omega)) (Ult.yes rfl (Ult.bind (S19_self p.2.2 (by omega)) Ult.ret)))
theorem S20_self (x : CWorld) (hx : WorldSz x) : Ultk (fun k => S20 k (x, x, ())) true := by
  obtain ⟨a, b, c, d, e⟩ := x
  obtain ⟨ha, hb, hc, hd, he⟩ := hx
  dsimp only at ha hb hc hd he
  have lb := len_big hb.1 (by omega)
  have lc := len_big hc.1 (by omega)
  have ld := len_big hd.1 (by omega)
  have le := len_big he.1 (by omega)
  unfold S20
  try dsimp only
  refine Ult.jn (Ult.bind (S67_self a ha) (Ult.no rfl (Ult.no (by rw [ine_eq]; simp) (Ult.no (by rw [ine_eq]; simp) (Ult.no (by rw [ine_eq]; simp) (Ult.no (by rw [ine_eq]; simp) ?_))))))
  refine Ult.copyI (fun _ => Nat.le_refl _) b (fun _ j => (j : Int)) _ ?_ fun j hlt next => ?_
  rotate_left
  · try dsimp only
    rw [iltL]
    obtain ⟨s1, s2, s3⟩ := hb.2 _ (List.getElem_mem hlt)
    refine Ult.yes (decide_eq_true hlt) (Ult.bindc (at?_nat hlt) (Ult.bindc (at?_nat hlt) ?_))
    refine Ult.bind (Ult.call (f := fun k => S68 k (b[j], b[j], ())) (lp_le _ _ fun _ => Nat.le_refl _) (S68_self b[j] s2 s3)) (Ult.no rfl ?_)
    rw [isucc hlt (by omega)]
    exact next
  try dsimp only
  refine Ult.no (iltE _) ?_
  refine Ult.copyI (lp_le _ _ fun _ => Nat.le_refl _) c (fun _ j => (j : Int)) _ ?_ fun j hlt next => ?_
  rotate_left
  · try dsimp only
    rw [iltL]
    obtain ⟨s1, s2⟩ := hc.2 _ (List.getElem_mem hlt)
    refine Ult.yes (decide_eq_true hlt) (Ult.bindc (at?_nat hlt) (Ult.bindc (at?_nat hlt) ?_))
    refine Ult.bind (Ult.call (f := fun k => S32 k (c[j], c[j], ())) (lp_le _ _ (lp_le _ _ fun _ => Nat.le_refl _)) (S32_self c[j] s2)) (Ult.no rfl ?_)
    rw [isucc hlt (by omega)]
    exact next
  try dsimp only
  refine Ult.no (iltE _) ?_
  refine Ult.copyI (lp_le _ _ (lp_le _ _ fun _ => Nat.le_refl _)) d (fun _ j => (j : Int)) _ ?_ fun j hlt next => ?_
  rotate_left
  · try dsimp only
    rw [iltL]
    obtain ⟨s1, s2, s3, s4⟩ := hd.2 _ (List.getElem_mem hlt)
    have l3 := s3.len
    have l4 := s4.len
    refine Ult.yes (decide_eq_true hlt) (Ult.bindc (at?_nat hlt) (Ult.bindc (at?_nat hlt) (Ult.jn (Ult.no (by rw [sne_eq]; simp) (Ult.no (by rw [sne_eq]; simp) ?_)))))
    refine Ult.bind (Ult.call (f := fun k => S18 k (d[j].2.2.1, d[j].2.2.1, ())) (lp_le _ _ (lp_le _ _ (lp_le _ _ fun _ => Nat.le_refl _))) (S18_self d[j].2.2.1 (by omega))) (Ult.no rfl ?_)
    refine Ult.bind (Ult.call (f := fun k => S18 k (d[j].2.2.2, d[j].2.2.2, ())) (lp_le _ _ (lp_le _ _ (lp_le _ _ fun _ => Nat.le_refl _))) (S18_self d[j].2.2.2 (by omega))) (Ult.no rfl ?_)
    rw [isucc hlt (by omega)]
    exact next
  try dsimp only
  refine Ult.no (iltE _) ?_
  refine Ult.copyI (lp_le _ _ (lp_le _ _ (lp_le _ _ fun _ => Nat.le_refl _))) e (fun _ j => (j : Int)) _ ?_ fun j hlt next => ?_
  rotate_left
  · try dsimp only
    rw [iltL]
    obtain ⟨s1, s2, s3⟩ := he.2 _ (List.getElem_mem hlt)
    refine Ult.yes (decide_eq_true hlt) (Ult.bindc (at?_nat hlt) (Ult.bindc (at?_nat hlt) ?_))
    refine Ult.bind (Ult.call (f := fun k => S21 k (e[j], e[j], ())) (lp_le _ _ (lp_le _ _ (lp_le _ _ (lp_le _ _ fun _ => Nat.le_refl _)))) (S21_self e[j] s2 s3)) (Ult.no rfl ?_)
    rw [isucc hlt (by omega)]
    exact next
  try dsimp only
  exact Ult.no (iltE _) Ult.ret
end Go.Proofs.YtcbkiipcfdcdgaaGreatDoor.Ev

namespace Go.Proofs.YtcbkiipcfdcdgaaGreatDoor.Ev
open Go Go.RowKit
set_option linter.unusedVariables false
set_option linter.unusedSimpArgs false
variable {ι R α X : Type} {l : ι → Nat}
def fitT (kd : ByteArray) (p q : Platform) (t : Tool) : Bool := if t.2.1 = kd then (if fitP t.2.2.1 p.2 = true then fitP t.2.2.2 q.2 else false) else false
def toolsOn (T : List Tool) (p q : Platform) : List ByteArray → List ByteArray → List ByteArray × Bool
  | acc, [] => (acc, true)
  | acc, kd :: r => match T.find? (fitT kd p q) with
    | none => ([], false)
    | some t => toolsOn T p q (acc ++ [t.1]) r
abbrev Ans : Type := ByteArray × List ByteArray × Bool × Int
def orErr (n : Int) (r : Ans) : Ans := if n ≠ 0 then (⟨#[]⟩, [], false, n) else r
theorem orErr_ite {P : Prop} [Decidable P] {x y : Int} {r : Ans} : orErr (if P then x else y) r = if P then orErr x r else orErr y r := by split <;> rfl
theorem orErr_zero {r : Ans} : orErr 0 r = r := rfl
def kindsChk (K : List ByteArray) : Int := if 30 < K.length then 2 else chkKinds none K
def firstPlat (T : List Tool) (K : List ByteArray) (q : Platform) : List Platform → Ans
  | [] => (⟨#[]⟩, [], false, 0)
  | p :: r => if (toolsOn T p q [] K).2 = true then (p.1, (toolsOn T p q [] K).1, true, 0) else firstPlat T K q r
def toolsAns (P : List Platform) (T : List Tool) (K : List ByteArray) (q : Platform) : Ans :=
  orErr (chkPlatforms P) (orErr (chkTools T) (orErr (kindsChk K) (orErr (chkPlatforms [q]) (firstPlat T K q P))))
theorem PlatSz.one {q : Platform} (h1 : q.1.size ≤ 140737488351232) (h2 : PairSz q.2) : PlatSz [q] :=
  ⟨by show 1 * 40 ≤ _; omega, fun p hp => by rw [List.mem_singleton] at hp; subst hp; exact ⟨h1, h2⟩⟩
theorem first_loop {kk : ι → Nat} (hk : ∀ i, l i ≤ kk i) (T : List Tool) (K : List ByteArray) (q : Platform) (P : List Platform) (f : ι → Platform → Option (List ByteArray × Bool)) (hf : ∀ p ∈ P, Ult l (fun i => f i p) (toolsOn T p q [] K)) (hP : P.length ≤ 9223372036854775807) :
    Ult l (fun i => loopN (kk i) (fun (a6 : Int → Option Ans) (a7 : Int) => cnd (ilt a7 (len P)) (bnd (at? P a7) fun a8 => bnd (f i a8) fun a9 => cnd a9.2 (some (a8.1, a9.1, true, 0)) (a6 (iadd .i64 a7 1))) (some ((⟨#[]⟩ : ByteArray), ([] : List ByteArray), false, 0))) 0) (firstPlat T K q P) := by
  refine (Ult.forI hk P.length (fun j => firstPlat T K q (P.drop j)) fun j hj next => ?_).eq (by rw [List.drop_zero])
  rw [iltL]
  by_cases hlt' : ¬ j < P.length
  · refine Ult.no (decide_eq_false hlt') (Ult.ret.eq ?_)
    rw [List.drop_eq_nil_of_le (by omega)]; rfl
  have hlt : j < P.length := Decidable.not_not.1 hlt'
  refine Ult.yes (decide_eq_true hlt) (Ult.bindc (at?_nat hlt) (Ult.bind (hf _ (List.getElem_mem hlt)).lift ?_))
  rw [drop_cons hlt, firstPlat, isucc hlt hP]
  exact Ult.ifS (dec_true _) (fun _ => Ult.ret) (fun _ => next hlt)
theorem toolsOn_len {T : List Tool} {p q : Platform} : ∀ {K acc : List ByteArray}, (toolsOn T p q acc K).1.length ≤ acc.length + K.length
  | [], acc => Nat.le_refl _
  | kd :: r, acc => by
    rw [toolsOn]
    split
    · exact Nat.zero_le _
    · have := toolsOn_len (T := T) (p := p) (q := q) (K := r) (acc := acc ++ [(‹Tool›).1])
      simp only [List.length_append, List.length_cons, List.length_nil] at this ⊢
      omega
theorem firstPlat_len {T : List Tool} {K : List ByteArray} {q : Platform} : ∀ {P : List Platform}, (firstPlat T K q P).2.1.length ≤ K.length
  | [] => Nat.zero_le _
  | p :: r => by
    rw [firstPlat]
    split
    · have := toolsOn_len (T := T) (p := p) (q := q) (K := K) (acc := [])
      simpa using this
    · exact firstPlat_len
theorem orErr_len {n : Int} {r : Ans} {m : Nat} (h : r.2.1.length ≤ m) : (orErr n r).2.1.length ≤ m := by
  unfold orErr
  split
  · exact Nat.zero_le _
  · exact h
theorem toolsAns_len {P : List Platform} {T : List Tool} {K : List ByteArray} {q : Platform} : (toolsAns P T K q).2.1.length ≤ K.length := orErr_len (orErr_len (orErr_len (orErr_len firstPlat_len)))
end Go.Proofs.YtcbkiipcfdcdgaaGreatDoor.Ev

namespace Go.Proofs.YtcbkiipcfdcdgaaGreatDoor.Ev
open Go Go.RowKit
set_option linter.unusedVariables false
set_option linter.unusedSimpArgs false
variable {ι R α X : Type} {l : ι → Nat}
def okB (b : UInt8) : Bool := decide (32 ≤ b.toNat ∧ b.toNat ≤ 126)
def dflt : ByteArray := ⟨#[100, 101, 102, 97, 117, 108, 116]⟩
def isCond (s : ByteArray) : Bool := s.data.toList.all okB && (decide (1 ≤ s.size ∧ s.size ≤ 1000) && decide (s ≠ dflt))
/-- the order of names, and what comes then -/
theorem order_stepG {C : List (ByteArray × α)} {j : Nat} (hlt : j < C.length) (hC : C.length ≤ 9223372036854775807) {e rest : R} {f : ι → Option R} (nx : Ult l f rest) :
    Ult l (fun i => cnd (igt (j : Int) 0) (bnd (at? C (isub .i64 (j : Int) 1)) fun a => cnd (sle C[j].1 a.1) (some e) (f i)) (f i)) (if notAbove (prevOf C j) C[j].1 = true then e else rest) := by
  rw [igt0]
  by_cases h0 : 0 < j
  · refine Ult.yes (decide_eq_true h0) ?_
    rw [ipred (n := C.length) h0 (by omega) (by omega)]
    refine Ult.bindc (at?_nat (show j - 1 < C.length by omega)) ?_
    have hp : prevOf C j = some C[j - 1].1 := by unfold prevOf; rw [dif_pos ⟨h0, by omega⟩]
    rw [hp]
    exact Ult.ifS (dec_true _) (fun _ => Ult.ret) fun _ => nx
  · refine Ult.no (decide_eq_false h0) ?_
    have : j = 0 := by omega
    subst this
    rw [prevOf_zero, if_neg (by simp [notAbove])]
    exact nx
theorem S60_spec (L : List Setting) (C : List Pair) (hL : SetSz L) (hC : C.length ≤ 140737488355328) : Ultk (fun k => S60 k (L, C, ())) (chkSet L false none C) := by
  unfold S60
  have hlen := hL.len
  refine (Ult.forI (fun _ => Nat.le_refl _) C.length (fun j => chkSet L false (prevOf C j) (C.drop j)) fun j hj next => ?_).eq (by rw [List.drop_zero, prevOf_zero])
  dsimp only
  rw [iltL]
  by_cases hlt' : ¬ j < C.length
  · refine Ult.no (decide_eq_false hlt') (Ult.ret.eq ?_)
    rw [List.drop_eq_nil_of_le (by omega)]
    cases prevOf C j <;> rfl
  have hlt : j < C.length := Decidable.not_not.1 hlt'
  refine Ult.yes (decide_eq_true hlt) (Ult.bindc (at?_nat hlt) ?_)
  rw [isucc hlt (by omega)]
  have next' := next hlt
  clear next
  refine Ult.bind (Ult.call (f := fun k => S102 k (L, C[j].1, ())) (lp_le _ _ fun _ => Nat.le_refl _) (S102_spec L C[j].1 (by omega))) ?_
  cases hl : look L C[j].1 with
  | none =>
    rw [chkSet_none hlt hl]
    have : lookS L C[j].1 = ((⟨#[]⟩, []), false) := by unfold lookS; rw [hl]
    rw [this]
    exact Ult.yes rfl Ult.ret
  | some s =>
    rw [chkSet_some hlt hl]
    have : lookS L C[j].1 = (s, true) := by unfold lookS; rw [hl]
    rw [this]
    refine Ult.no rfl ?_
    obtain ⟨m1, m2⟩ := look_name hl
    obtain ⟨hs1, hs2, hs3⟩ := hL.2 s m1
    have hs2' := len_big hs2 (by omega)
    refine Ult.bind (Ult.call (f := fun k => S63 k (s.2, C[j].2, ())) (lp_le _ _ fun _ => Nat.le_refl _) (S63_spec s.2 C[j].2 (by omega))) ?_
    refine Ult.ifS (not_false_eq _) (fun _ => Ult.ret) fun hm => ?_
    rw [if_neg (by simp)]
    exact order_step hlt (by omega) next'
def chkConds (L : List Setting) : Option ByteArray → List Condition → Int
  | _, [] => 0
  | prev, x :: r => if isCond x.1 = false then 3 else if 30 < x.2.1.length then 2 else if 30 < x.2.2.length then 2 else if chkSet L false none x.2.1 ≠ 0 then chkSet L false none x.2.1 else if chkPairsL x.2.2 ≠ 0 then chkPairsL x.2.2 else if notAbove prev x.1 = true then 8 else chkConds L (some x.1) r
def chkConditions (L : List Setting) (M : List Condition) : Int := if chkSettings L ≠ 0 then chkSettings L else if 100 < M.length then 2 else chkConds L none M
def needsOk (L : List Setting) (C : List Pair) (N : List Pair) : Bool := N.all fun n => decide (valOf L C n.1 = some n.2)
def holdsB (L : List Setting) (x : Condition) (C : List Pair) (p : Platform) : Bool := if needsOk L C x.2.1 = true then fitP x.2.2 p.2 else false
theorem holds_loop {kk : ι → Nat} (hk : ∀ i, l i ≤ kk i) (L : List Setting) (C N : List Pair) (f : ι → ByteArray → Option ByteArray) (hf : ∀ n ∈ N, ∃ v, valOf L C n.1 = some v ∧ Ult l (fun i => f i n.1) v) (hN : N.length ≤ 9223372036854775807) {y : ι → Option Bool} {r : Bool} (hy : Ult l y r) :
    Ult l (fun i => loopN (kk i) (fun (a2 : Int → Option Bool) (a3 : Int) => cnd (ilt a3 (len N)) (bnd (at? N a3) fun a4 => bnd (f i a4.1) fun a5 => cnd (sne a5 a4.2) (some false) (a2 (iadd .i64 a3 1))) (y i)) 0) (if needsOk L C N = true then r else false) := by
  refine (Ult.forI hk N.length (fun j => if needsOk L C (N.drop j) = true then r else false) fun j hj next => ?_).eq (by rw [List.drop_zero])
  rw [iltL]
  by_cases hlt' : ¬ j < N.length
  · refine Ult.no (decide_eq_false hlt') (hy.lift.eq ?_)
    rw [List.drop_eq_nil_of_le (by omega)]; rfl
  have hlt : j < N.length := Decidable.not_not.1 hlt'
  obtain ⟨v, v1, v2⟩ := hf _ (List.getElem_mem hlt)
  refine Ult.yes (decide_eq_true hlt) (Ult.bindc (at?_nat hlt) (Ult.bind v2.lift ?_))
  have nx := next hlt
  have e : needsOk L C (N.drop j) = (decide (valOf L C N[j].1 = some N[j].2) && needsOk L C (N.drop (j + 1))) := by rw [drop_cons hlt]; rfl
  rw [e, isucc hlt hN, v1]
  by_cases hv : v = N[j].2
  · refine Ult.no (by rw [sne_eq]; simpa using hv) ?_
    rw [decide_eq_true (by rw [hv]), Bool.true_and]
    exact nx
  · refine Ult.yes (by rw [sne_eq]; exact decide_eq_true hv) (Ult.ret.eq ?_)
    rw [decide_eq_false (by simpa using hv), Bool.false_and]; rfl
def holdsAns (L : List Setting) (x : Condition) (C : List Pair) (p : Platform) : Bool × Int :=
  if chkConfig L C ≠ 0 then (false, chkConfig L C) else if chkConditions L [x] ≠ 0 then (false, chkConditions L [x]) else if chkPlatforms [p] ≠ 0 then (false, chkPlatforms [p]) else (holdsB L x C p, 0)
theorem chkConditions_one {L : List Setting} {x : Condition} (h : chkConditions L [x] = 0) : chkSettings L = 0 ∧ chkSet L false none x.2.1 = 0 := by
  unfold chkConditions at h
  split at h
  · rename_i q; exact absurd h q
  · rename_i q
    refine ⟨Decidable.not_not.1 q, ?_⟩
    rw [if_neg (by simp), chkConds] at h
    split at h
    · cases h
    split at h
    · cases h
    split at h
    · cases h
    split at h
    · rename_i q4; exact absurd h q4
    · rename_i q4; exact Decidable.not_not.1 q4
theorem CondSz.one {x : Condition} (h0 : x.1.size ≤ 140737488351232) (h1 : PairSz x.2.1) (h2 : PairSz x.2.2) : CondSz [x] :=
  ⟨by show 1 * 64 ≤ _; omega, fun p hp => by rw [List.mem_singleton] at hp; subst hp; exact ⟨h0, h1, h2⟩⟩
theorem holds_vals {L : List Setting} {x : Condition} {C : List Pair} (h : chkConditions L [x] = 0) : ∀ n ∈ x.2.1, ∃ v, valOf L C n.1 = some v := fun n hn => by
  obtain ⟨h1, h2⟩ := chkConditions_one h
  obtain ⟨s, hs, _⟩ := (chkSet_ok h2).1 n hn
  exact valOf_some h1 hs
end Go.Proofs.YtcbkiipcfdcdgaaGreatDoor.Ev

namespace Go.Proofs.YtcbkiipcfdcdgaaGreatDoor.Ev
open Go Go.RowKit
set_option linter.unusedVariables false
set_option linter.unusedSimpArgs false
variable {ι R α X : Type} {l : ι → Nat}
theorem idxF_min {p : α → Bool} : ∀ (L : List α) (j i : Nat), idxF p j L = ((j + i : Nat) : Int) → ∀ x ∈ L.take i, p x = false
  | [], j, i, _, x, hx => by simp at hx
  | a :: r, j, 0, _, x, hx => by simp at hx
  | a :: r, j, i + 1, h, x, hx => by
    rw [idxF] at h
    cases hp : p a with
    | true =>
      rw [hp] at h
      have h : ((j : Nat) : Int) = ((j + (i + 1) : Nat) : Int) := h
      omega
    | false =>
      rw [hp] at h
      have h : idxF p (j + 1) r = ((j + (i + 1) : Nat) : Int) := h
      rw [List.take_succ_cons] at hx
      rcases List.mem_cons.1 hx with rfl | hx
      · exact hp
      · exact idxF_min r (j + 1) i (by rw [h]; congr 1; omega) x hx
theorem S144_spec {kk : ι → Nat} (hk : ∀ i, l i ≤ kk i) (L : List Pair) (f : ι → Pair → Option Bool) (p : Pair → Bool) (hf : ∀ a ∈ L, Ult l (fun i => f i a) (p a)) (hL : L.length ≤ 9223372036854775807) : Ult l (fun i => S144 (kk i) (L, f i, ())) (idxF p 0 L) := by
  unfold S144
  exact idx_loop hk L f p hf hL
theorem inb_nat {n : Nat} {j : Nat} (h : j < n) : inb (n : Int) (j : Int) = some () := by unfold inb; rw [if_pos ⟨by omega, by omega⟩]
theorem gt_nat {d : α} {L : List α} {j : Nat} (h : j < L.length) : gt d L (j : Int) = L[j] := by unfold gt; simp [h]
/-- slices.DeleteFunc -/
theorem S92_spec {kk : ι → Nat} (hk : ∀ i, l i ≤ kk i) (L : List Pair) (f : ι → Pair → Option Bool) (p : Pair → Bool) (hf : ∀ a ∈ L, Ult l (fun i => f i a) (p a)) (hL : L.length ≤ 9223372036854775807) : Ult l (fun i => S92 (kk i) (L, f i, ())) (L.filter fun a => !p a) := by
  unfold S92
  refine Ult.bind (S144_spec hk L f p hf hL) ?_
  rcases idxF_cases p 0 L with ⟨h1, h2⟩ | ⟨i, hi, h1, h2, h3⟩
  · rw [h1]
    refine Ult.yes rfl (Ult.ret.eq ?_)
    rw [List.find?_eq_none] at h2
    exact (List.filter_eq_self.2 fun a ha => by simpa using h2 a ha).symm
  · have hmin := idxF_min L 0 i h1
    rw [Nat.zero_add] at h1
    rw [h1]
    refine Ult.no (by rw [ieq_eq]; exact decide_eq_false (by omega)) ?_
    rw [isucc hi hL]
    have h0 : L.take i = (L.take (i + 1)).filter fun a => !p a := by
      rw [List.take_succ_eq_append_getElem hi, List.filter_append, List.filter_eq_self.2 fun a ha => by simp [hmin a ha]]
      simp [h3]
    refine Ult.forA (A := Nat × List Pair) hk (L.length - (i + 1)) (fun a t => ((a.1 : Int), ((i + 1 + t : Nat) : Int), a.2)) (fun a t => a.2.length = L.length ∧ a.1 < i + 1 + t ∧ (a.2.take a.1 = (L.take (i + 1 + t)).filter fun a => !p a) ∧ a.2.drop (i + 1 + t) = L.drop (i + 1 + t)) (fun _ _ => L.filter fun a => !p a) (i, L) ⟨rfl, by omega, h0, rfl⟩ fun a t ht ⟨ha1, ha2, ha3, ha4⟩ next => ?_
    obtain ⟨m, a⟩ := a
    dsimp only at ha1 ha2 ha3 ha4 ⊢
    obtain ⟨j, hj⟩ : ∃ j, j = i + 1 + t := ⟨_, rfl⟩
    rw [← hj] at ha2 ha3 ha4 ⊢
    rw [iltL]
    have hml : m ≤ a.length := by omega
    by_cases hlt' : ¬ j < a.length
    · refine Ult.no (decide_eq_false hlt') ?_
      have hc1 : cut? a (m : Int) (len a) = some ((a.take a.length).drop m) := by
        unfold cut? len
        rw [if_pos ⟨by omega, by omega, Int.le_refl _⟩]
        simp
      have hc2 : cut? (clr ((⟨#[]⟩ : ByteArray), (⟨#[]⟩ : ByteArray)) a (m : Int) (len a)) 0 (m : Int) = some (a.take m) := by
        rw [cut?_take (by rw [clr_len]; exact hml)]
        congr 1
        refine List.ext_getElem (by simp [clr_len]) fun q q1 q2 => ?_
        simp only [List.length_take] at q1 q2
        rw [List.getElem_take, List.getElem_take, clr_get _ _ _ _ _ (by omega), if_neg (by simp; omega)]
      refine Ult.bindc hc1 (Ult.bindc hc2 (Ult.ret.eq ?_))
      rw [ha3, List.take_of_length_le (by omega)]
    have hlt : j < a.length := Decidable.not_not.1 hlt'
    have hjL : j < L.length := by omega
    have ej : a[j] = L[j] := by
      have := congrArg (fun l => l[0]?) ha4
      simpa [hlt, hjL] using this
    refine Ult.yes (decide_eq_true hlt) (Ult.bindc (inb_nat hlt) ?_)
    rw [gt_nat hlt, ej, isucc hjL hL]
    have hd1 : a.drop (j + 1) = L.drop (j + 1) := by
      have := congrArg (List.drop 1) ha4
      simpa [List.drop_drop, Nat.add_comm] using this
    have ht1 : (L.take (j + 1)).filter (fun a => !p a) = (L.take j).filter (fun a => !p a) ++ (if p L[j] = true then [] else [L[j]]) := by
      rw [List.take_succ_eq_append_getElem hjL, List.filter_append]
      cases hpj : p L[j] <;> simp [hpj]
    refine Ult.bind (hf L[j] (List.getElem_mem hjL)).lift ?_
    have e2 : i + 1 + (t + 1) = j + 1 := by omega
    cases hp : p L[j]
    · refine Ult.yes rfl (Ult.bindc (inb_nat (show m < a.length by omega)) ?_)
      rw [isucc (show m < a.length by omega) (by omega)]
      have := next (m + 1, setAt a (m : Int) (L[j].1, L[j].2)) (by omega) ⟨by simp [setAt, ha1], by dsimp only; omega, ?_, ?_⟩
      · rw [e2] at this
        exact this
      · dsimp only
        rw [e2, ht1, hp, if_neg (by simp), ← ha3]
        unfold setAt
        rw [Int.toNat_natCast, List.take_succ_eq_append_getElem (by simpa using (show m < a.length by omega))]
        rw [List.take_set_of_le (Nat.le_refl _)]
        simp
      · dsimp only
        rw [e2]
        unfold setAt
        rw [Int.toNat_natCast, List.drop_set_of_lt (by omega)]
        exact hd1
    · refine Ult.no rfl ?_
      have := next (m, a) (by omega) ⟨ha1, by dsimp only; omega, by dsimp only; rw [e2, ht1, hp, if_pos rfl, List.append_nil]; exact ha3, by dsimp only; rw [e2]; exact hd1⟩
      rw [e2] at this
      exact this
end Go.Proofs.YtcbkiipcfdcdgaaGreatDoor.Ev

namespace Go.Proofs.YtcbkiipcfdcdgaaGreatDoor.Ev
open Go Go.RowKit
set_option linter.unusedVariables false
set_option linter.unusedSimpArgs false
variable {ι R α X : Type} {l : ι → Nat}
theorem cmp_lt : ∀ a b : List UInt8, Lib.compareBytes a b < 0 ↔ a < b
  | [], [] => by simp [Lib.compareBytes]
  | [], b :: b' => by simp [Lib.compareBytes]
  | a :: a', [] => by simp [Lib.compareBytes]
  | a :: a', b :: b' => by
    rw [Lib.compareBytes, List.cons_lt_cons_iff]
    by_cases h1 : a < b
    · rw [if_pos h1]; simp [h1]
    · rw [if_neg h1]
      by_cases h2 : b < a
      · rw [if_pos h2]
        have : a ≠ b := fun e => by subst e; exact absurd h2 h1
        simp [h1, this]
      · rw [if_neg h2]
        have e : a = b := UInt8.le_antisymm (UInt8.not_lt.1 h2) (UInt8.not_lt.1 h1)
        subst e
        simp [h1, cmp_lt a' b']
theorem iwr_u64 {a : Int} (h0 : 0 ≤ a) (h1 : a < 18446744073709551616) : iwr .u64 a = a := by
  have hs : IntKind.u64.signed = false := rfl
  unfold iwr
  simp [IntKind.wrap, IntKind.bits, hs]
  omega
theorem iwr_i64 {a : Int} (h0 : 0 ≤ a) (h1 : a ≤ 9223372036854775807) : iwr .i64 a = a := by
  unfold iwr
  exact wrap64 (by omega) h1
theorem ishr1 {n : Nat} : ishr? .u64 (n : Int) 1 = some ((n / 2 : Nat) : Int) := by
  unfold ishr?
  rw [if_neg (by omega)]
  congr 1
  show (n : Int).fdiv (2 ^ (min 1 64)) = _
  rw [Int.fdiv_eq_ediv_of_nonneg _ (by decide)]
  rfl
def below (n : ByteArray) (p : Pair) : Bool := slt p.1 n
theorem below_iff {n : ByteArray} {p : Pair} : below n p = true ↔ lt p.1 n := by
  unfold below lt
  rw [slt_eq]; simp
def place (L : List Pair) (n : ByteArray) : Nat := (L.takeWhile (below n)).length
theorem place_le (L : List Pair) (n : ByteArray) : place L n ≤ L.length := by
  unfold place
  exact (List.takeWhile_prefix _).length_le
theorem place_split (L : List Pair) (n : ByteArray) : L.take (place L n) = L.takeWhile (below n) ∧ L.drop (place L n) = L.dropWhile (below n) := by
  have h := List.takeWhile_append_dropWhile (p := below n) (l := L)
  have h1 : L.take (place L n) = L.takeWhile (below n) := (List.prefix_iff_eq_take.1 (List.takeWhile_prefix _)).symm
  have h2 : L.drop (place L n) = L.dropWhile (below n) := by
    have := List.drop_left (l₁ := L.takeWhile (below n)) (l₂ := L.dropWhile (below n))
    rw [h] at this
    exact this
  exact ⟨h1, h2⟩
def Srt (L : List Pair) : Prop := L.Pairwise fun p q => lt p.1 q.1
theorem place_below {L : List Pair} {n : ByteArray} (hs : Srt L) {j : Nat} (hj : j < L.length) : lt L[j].1 n ↔ j < place L n := by
  obtain ⟨e1, e2⟩ := place_split L n
  constructor
  · intro h
    rcases Nat.lt_or_ge j (place L n) with q | q
    · exact q
    · exfalso
      have hlt : place L n < L.length := by omega
      have hd : L.dropWhile (below n) = L[place L n] :: L.drop (place L n + 1) := by rw [← e2]; exact List.drop_eq_getElem_cons hlt
      have hnot : ¬ below n L[place L n] = true := by
        have := List.head?_dropWhile_not (below n) L
        rw [hd] at this
        have this : below n L[place L n] = false := this
        rw [this]; simp
      rcases Nat.eq_or_lt_of_le q with q | q
      · subst q; exact hnot (below_iff.2 h)
      · exact hnot (below_iff.2 (lt_trans' (List.pairwise_iff_getElem.1 hs _ _ hlt hj q) h))
  · intro h
    have hm : L[j] ∈ L.take (place L n) := by
      rw [List.mem_take_iff_getElem]
      exact ⟨j, by omega, rfl⟩
    rw [e1] at hm
    have := List.all_takeWhile (p := below n) (l := L)
    rw [List.all_eq_true] at this
    exact below_iff.1 (this _ hm)
def searchAns (L : List Pair) (n : ByteArray) : Int × Bool := ((place L n : Int), match L[place L n]? with
  | some p => ieq (Lib.compareBytes p.1.data.toList n.data.toList) 0
  | none => false)
theorem S99_eq (k : Nat) (p : Pair) (n : ByteArray) : S99 k (p, n, ()) = some (Lib.compareBytes p.1.data.toList n.data.toList) := rfl
theorem S98_spec {kk : ι → Nat} (hk : ∀ i, l i ≤ kk i) (L : List Pair) (n : ByteArray) (hs : Srt L) (hL : L.length ≤ 140737488355328) :
    Ult l (fun i => S98 (kk i) (L, n, (fun a => S99 (kk i) (a.1, a.2, ())), ())) (searchAns L n) := by
  unfold S98
  have hp := place_le L n
  refine Ult.loopI hk (fun x => ∃ lo hi : Nat, x = ((lo : Int), (hi : Int)) ∧ lo ≤ place L n ∧ place L n ≤ hi ∧ hi ≤ L.length) (fun x => (x.2 - x.1).toNat) ⟨0, L.length, rfl, by omega, hp, Nat.le_refl _⟩ ?_
  rintro _ ⟨lo, hi, rfl, h1, h2, h3⟩ next
  dsimp only
  by_cases hlt : lo < hi
  · refine Ult.yes (by rw [ilt_eq]; exact decide_eq_true (by omega)) ?_
    rw [iadd64 (by omega) (by omega), iwr_u64 (by omega) (by omega), show (lo : Int) + (hi : Int) = ((lo + hi : Nat) : Int) by omega]
    refine Ult.bindc ishr1 ?_
    obtain ⟨m, hm⟩ : ∃ m, m = (lo + hi) / 2 := ⟨_, rfl⟩
    rw [← hm, iwr_i64 (by omega) (by omega)]
    have hmL : m < L.length := by omega
    refine Ult.bindc (at?_nat hmL) (Ult.bind ⟨0, fun _ _ => S99_eq _ _ _⟩ ?_)
    by_cases hb : lt L[m].1 n
    · refine Ult.yes (by rw [ilt_eq]; exact decide_eq_true ((cmp_lt _ _).2 hb)) ?_
      have := (place_below hs hmL).1 hb
      rw [isucc (show m < L.length from hmL) (by omega)]
      exact next _ ⟨m + 1, hi, rfl, by omega, h2, h3⟩ (by dsimp only; omega)
    · refine Ult.no (by rw [ilt_eq]; exact decide_eq_false (fun q => hb ((cmp_lt _ _).1 q))) ?_
      have : ¬ m < place L n := fun q => hb ((place_below hs hmL).2 q)
      exact next _ ⟨lo, m, rfl, h1, by omega, by omega⟩ (by dsimp only; omega)
  · refine Ult.no (by rw [ilt_eq]; exact decide_eq_false (by omega)) ?_
    obtain rfl : lo = place L n := by omega
    unfold searchAns
    rw [iltL]
    by_cases hend : place L n < L.length
    · rw [List.getElem?_eq_getElem hend]
      exact Ult.yes (decide_eq_true hend) (Ult.bindc (at?_nat hend) (Ult.bind ⟨0, fun _ _ => S99_eq _ _ _⟩ Ult.ret))
    · rw [List.getElem?_eq_none (by omega)]
      exact Ult.no (decide_eq_false hend) Ult.ret
end Go.Proofs.YtcbkiipcfdcdgaaGreatDoor.Ev

namespace Go.Proofs.YtcbkiipcfdcdgaaGreatDoor.Ev
open Go Go.RowKit
set_option linter.unusedVariables false
set_option linter.unusedSimpArgs false
variable {ι R α X : Type} {l : ι → Nat}
theorem srt_ext : ∀ {A B : List Pair}, Srt A → Srt B → (∀ p, p ∈ A ↔ p ∈ B) → A = B
  | [], [], _, _, _ => rfl
  | [], b :: B, _, _, h => absurd ((h b).2 (by simp)) (by simp)
  | a :: A, [], _, _, h => absurd ((h a).1 (by simp)) (by simp)
  | a :: A, b :: B, hA, hB, h => by
    obtain ⟨a1, a2⟩ := List.pairwise_cons.1 hA
    obtain ⟨b1, b2⟩ := List.pairwise_cons.1 hB
    have e : a = b := by
      rcases List.mem_cons.1 ((h a).1 (by simp)) with e | e
      · exact e
      rcases List.mem_cons.1 ((h b).2 (by simp)) with e' | e'
      · exact e'.symm
      exact absurd (lt_trans' (b1 a e) (a1 b e')) (lt_irr _)
    rw [← e] at b1 h
    rw [srt_ext a2 b2 fun p => ?_, e]
    have hp := h p
    simp only [List.mem_cons] at hp
    constructor
    · intro q
      rcases hp.1 (.inr q) with e1 | e1
      · rw [e1] at q; exact absurd (a1 a q) (lt_irr _)
      · exact e1
    · intro q
      rcases hp.2 (.inr q) with e1 | e1
      · rw [e1] at q; exact absurd (b1 a q) (lt_irr _)
      · exact e1
theorem look_mem {L : List Setting} {s : Setting} (h : s ∈ L) : ∃ t, look L s.1 = some t := by
  unfold look
  cases hf : L.find? fun t => decide (t.1 = s.1) with
  | some t => exact ⟨t, rfl⟩
  | none =>
    rw [List.find?_eq_none] at hf
    exact absurd (hf s h) (by simp)
def withVal (L : List Setting) (C : List Pair) (n v : ByteArray) (s : Setting) : ByteArray := if s.1 = n then v else (valOf L C s.1).getD ⟨#[]⟩
def withOne (L : List Setting) (C : List Pair) (n v : ByteArray) (s : Setting) : Option Pair := if s.2.head? = some (withVal L C n v s) then none else some (s.1, withVal L C n v s)
def withR (L : List Setting) (C : List Pair) (n v : ByteArray) : List Pair := L.filterMap (withOne L C n v)
theorem S49_spec (L : List Setting) (C : List Pair) (n v : ByteArray) (hL : SetSz L) (hC : C.length ≤ 140737488355328) (hset : chkSettings L = 0) : Ultk (fun k => S49 k (L, C, n, v, ())) (withR L C n v) := by
  unfold S49 withR
  obtain ⟨h30, hne⟩ := chkSettings_ne hset
  refine (Ult.forA (A := List Pair) (fun _ => Nat.le_refl _) L.length (fun a j => (a, (j : Int))) (fun a j => a.length ≤ j) (fun a j => a ++ (L.drop j).filterMap (withOne L C n v)) [] (Nat.le_refl _) fun a j hj ha next => ?_).eq (by rw [List.drop_zero]; rfl)
  dsimp only
  rw [iltL]
  by_cases hlt' : ¬ j < L.length
  · refine Ult.no (decide_eq_false hlt') (Ult.ret.eq ?_)
    rw [List.drop_eq_nil_of_le (by omega)]; simp
  have hlt : j < L.length := Decidable.not_not.1 hlt'
  have hm := List.getElem_mem hlt
  obtain ⟨t, ht⟩ := look_mem hm
  obtain ⟨w, hw⟩ := valOf_some (C := C) hset ht
  refine Ult.yes (decide_eq_true hlt) (Ult.bindc (at?_nat hlt) ?_)
  refine Ult.bind (Ult.call (f := fun k => S103 k (L, C, L[j].1, ())) (lp_le _ _ fun _ => Nat.le_refl _) (S103_spec L C L[j].1 w (by omega) (by omega) hw)) ?_
  rw [drop_cons hlt, isucc hlt (by omega)]
  obtain ⟨v0, r0, e0⟩ : ∃ v0 r0, L[j].2 = v0 :: r0 := by
    cases h : L[j].2 with
    | nil => exact absurd h (hne _ hm).1
    | cons a r => exact ⟨a, r, rfl⟩
  have tail : ∀ x, withVal L C n v L[j] = x → Ult (lp fun k : Nat => k) (fun p => bnd (at? L[j].2 0) fun a7 => cnd (sne x a7) (bnd (app? 32 a ((L[j].1, x) :: ([] : List Pair))) fun a8 => loopN p.2 (fun a2 a3 => cnd (ilt a3.2 (len L)) (bnd (at? L a3.2) fun a4 => bnd (S103 p.1 (L, C, a4.1, ())) fun a5 => jn (fun a6 => cnd (seq a4.1 n) (a6 v) (a6 a5)) fun a6 => bnd (at? a4.2 0) fun a7 => cnd (sne a6 a7) (bnd (app? 32 a3.1 ((a4.1, a6) :: ([] : List Pair))) fun a8 => a2 (a8, iadd .i64 a3.2 1)) (a2 (a3.1, iadd .i64 a3.2 1))) (some a3.1)) (a8, ((j + 1 : Nat) : Int))) (loopN p.2 (fun a2 a3 => cnd (ilt a3.2 (len L)) (bnd (at? L a3.2) fun a4 => bnd (S103 p.1 (L, C, a4.1, ())) fun a5 => jn (fun a6 => cnd (seq a4.1 n) (a6 v) (a6 a5)) fun a6 => bnd (at? a4.2 0) fun a7 => cnd (sne a6 a7) (bnd (app? 32 a3.1 ((a4.1, a6) :: ([] : List Pair))) fun a8 => a2 (a8, iadd .i64 a3.2 1)) (a2 (a3.1, iadd .i64 a3.2 1))) (some a3.1)) (a, ((j + 1 : Nat) : Int)))) (a ++ (L[j] :: L.drop (j + 1)).filterMap (withOne L C n v)) := fun x hx => by
    refine Ult.bindc (show at? L[j].2 0 = some v0 by rw [e0]; rfl) ?_
    have ho : withOne L C n v L[j] = if some v0 = some x then none else some (L[j].1, x) := by unfold withOne; rw [hx, e0]; rfl
    rw [List.filterMap_cons, ho]
    by_cases hd : x = v0
    · subst hd
      refine Ult.no (by rw [sne_eq]; simp) ?_
      rw [if_pos rfl]
      exact next a hlt (by omega)
    · refine Ult.yes (by rw [sne_eq]; exact decide_eq_true hd) (Ult.bindc (app?_ok (by show (a.length + 1) * 32 ≤ _; omega)) ?_)
      rw [if_neg (fun e => hd (Option.some.inj e).symm)]
      have := next (a ++ [(L[j].1, x)]) hlt (by simp; omega)
      rw [List.append_assoc] at this
      exact this
  refine Ult.jn ?_
  by_cases hn : L[j].1 = n
  · refine Ult.yes (by rw [seq_eq]; exact decide_eq_true hn) (tail v ?_)
    unfold withVal; rw [if_pos hn]
  · refine Ult.no (by rw [seq_eq]; exact decide_eq_false hn) (tail w ?_)
    unfold withVal; rw [if_neg hn, hw]; rfl

def without (C : List Pair) (n : ByteArray) : List Pair := C.filter fun p => !decide (p.1 = n)
def withC (C : List Pair) (n v v0 : ByteArray) : List Pair := if v = v0 then without C n else (without C n).take (place (without C n) n) ++ [(n, v)] ++ (without C n).drop (place (without C n) n)
theorem S97_eq (k : Nat) (p : Pair) (n : ByteArray) : S97 k (p, n, ()) = some (decide (p.1 = n)) := by unfold S97; rw [seq_eq]
theorem without_len (C : List Pair) (n : ByteArray) : (without C n).length ≤ C.length := List.length_filter_le _ _
theorem without_srt {C : List Pair} {n : ByteArray} (h : Srt C) : Srt (without C n) := List.Pairwise.filter _ h
theorem S46_spec (L : List Setting) (C : List Pair) (n v v0 : ByteArray) {s : Setting} (hL : SetSz L) (hC : (C.length + 1) * 32 ≤ 140737488355328) (hs : Srt C) (hl : look L n = some s) (he : s.2.head? = some v0) : Ultk (fun k => S46 k (L, C, n, v, ())) (withC C n v v0) := by
  unfold S46 withC
  have hlen := hL.len
  have hwl := without_len C n
  refine Ult.bind (S10_spec C (by omega)) ?_
  have h87 := S92_spec (l := fun k : Nat => k) (kk := fun k => k) (fun _ => Nat.le_refl _) C (fun k a3 => S97 k (a3, n, ())) (fun p => decide (p.1 = n)) (fun a _ => ⟨0, fun k _ => S97_eq k a n⟩) (by omega)
  refine Ult.bind h87 (Ult.bind (S90_spec L n (by omega)) ?_)
  obtain ⟨i1, i2⟩ := idxF_at (p := fun s : Setting => decide (s.1 = n)) hl
  refine Ult.bindc i1 ?_
  refine Ult.bindc (show at? s.2 0 = some v0 by
    cases h : s.2 with
    | nil => rw [h] at he; cases he
    | cons a r => rw [h] at he; cases he; rfl) ?_
  refine Ult.ifS (seq_eq _ _) (fun _ => Ult.ret) fun hv => ?_
  have h108 := S98_spec (l := fun k : Nat => k) (kk := fun k => k) (fun _ => Nat.le_refl _) (without C n) n (without_srt hs) (by omega)
  refine Ult.bind h108 ?_
  have hp := place_le (without C n) n
  have h111 : Ultk (fun k => S101 k (without C n, (searchAns (without C n) n).1, [(n, v)], ())) ((without C n).take (place (without C n) n) ++ [(n, v)] ++ (without C n).drop (place (without C n) n)) := ⟨0, fun k _ => by
    unfold S101 insF searchAns
    rw [if_pos ⟨⟨by show (0 : Int) ≤ ((place (without C n) n : Nat) : Int); omega, by show ((place (without C n) n : Nat) : Int) ≤ ((without C n).length : Int); omega⟩, rfl, by show ((without C n).length + 1) * 32 ≤ _; omega⟩]
    rfl⟩
  exact Ult.bind h111 Ult.ret

theorem lt_of {a b : ByteArray} (h1 : ¬ lt a b) (h2 : a ≠ b) : lt b a := by
  unfold lt at *
  rcases Decidable.em (b.data.toList < a.data.toList) with q | q
  · exact q
  · exact absurd (bytes_ext (List.le_antisymm (List.not_lt.1 q) (List.not_lt.1 h1))) h2
/-! ### both are one list -/
theorem withR_srt {L : List Setting} {C : List Pair} {n v : ByteArray} (h : L.Pairwise fun s t => lt s.1 t.1) : Srt (withR L C n v) := by
  unfold Srt withR
  rw [List.pairwise_filterMap]
  refine h.imp fun {s t} hst a ha b hb => ?_
  have name : ∀ {s : Setting} {a : Pair}, withOne L C n v s = some a → a.1 = s.1 := fun {s a} h => by
    unfold withOne at h
    split at h
    · cases h
    · cases h; rfl
  rw [name ha, name hb]
  exact hst
theorem withC_srt {C : List Pair} {n v v0 : ByteArray} (h : Srt C) : Srt (withC C n v v0) := by
  unfold withC
  split
  · exact without_srt h
  · have hw := without_srt (n := n) h
    have hb := fun {j : Nat} (hj : j < (without C n).length) => place_below (n := n) hw hj
    have hno : ∀ p ∈ without C n, p.1 ≠ n := fun p hp => by
      have := (List.mem_filter.1 hp).2
      simpa using this
    unfold Srt
    rw [List.append_assoc, List.pairwise_append, List.pairwise_append]
    refine ⟨List.Pairwise.sublist (List.take_sublist _ _) hw, ⟨List.pairwise_singleton _ _, List.Pairwise.sublist (List.drop_sublist _ _) hw, fun a ha b hbm => ?_⟩, fun a ha b hbm => ?_⟩
    · rw [List.mem_singleton] at ha
      subst ha
      obtain ⟨j, hj, rfl⟩ := List.getElem_of_mem hbm
      rw [List.getElem_drop]
      have hjl : place (without C n) n + j < (without C n).length := by rw [List.length_drop] at hj; omega
      have h1 := mt (hb hjl).1 (by omega)
      have h2 := hno _ (List.getElem_mem hjl)
      exact lt_of h1 h2
    · obtain ⟨j, hj, rfl⟩ := List.getElem_of_mem ha
      rw [List.getElem_take]
      rw [List.length_take] at hj
      have h1 := (hb (show j < (without C n).length by omega)).2 (by omega)
      rcases List.mem_append.1 hbm with q | q
      · rw [List.mem_singleton] at q
        subst q
        exact h1
      · obtain ⟨i, hi, rfl⟩ := List.getElem_of_mem q
        rw [List.getElem_drop]
        rw [List.length_drop] at hi
        exact List.pairwise_iff_getElem.1 hw _ _ _ _ (by omega)
theorem sets_srt {L : List Setting} : ∀ {prev : Option ByteArray}, chkSets prev L = 0 → L.Pairwise (fun s t => lt s.1 t.1) ∧ ∀ m, prev = some m → ∀ s ∈ L, lt m s.1 := by
  induction L with
  | nil => intro prev _; exact ⟨List.Pairwise.nil, fun m _ s hs => by cases hs⟩
  | cons a L ih =>
    intro prev h
    rw [chkSets] at h
    split at h
    · cases h
    split at h
    · cases h
    split at h
    · cases h
    split at h
    · rename_i q; exact absurd h q
    split at h
    · cases h
    rename_i h5
    obtain ⟨i1, i2⟩ := ih h
    have hp := notAbove_false h5
    refine ⟨List.pairwise_cons.2 ⟨fun s hs => i2 _ rfl s hs, i1⟩, fun m hm s hs => ?_⟩
    rcases List.mem_cons.1 hs with rfl | hs
    · exact hp m hm
    · exact lt_trans' (hp m hm) (i2 _ rfl s hs)
theorem settings_srt {L : List Setting} (h : chkSettings L = 0) : L.Pairwise fun s t => lt s.1 t.1 := by
  unfold chkSettings at h
  split at h
  · cases h
  · exact (sets_srt h).1
theorem nm_inj {β : Type} {L : List (ByteArray × β)} (h : L.Pairwise fun s t => lt s.1 t.1) {s t : ByteArray × β} (hs : s ∈ L) (ht : t ∈ L) (e : s.1 = t.1) : s = t := by
  obtain ⟨i, hi, rfl⟩ := List.getElem_of_mem hs
  obtain ⟨j, hj, rfl⟩ := List.getElem_of_mem ht
  rcases Nat.lt_trichotomy i j with q | q | q
  · have := List.pairwise_iff_getElem.1 h i j hi hj q
    rw [e] at this; exact absurd this (lt_irr _)
  · subst q; rfl
  · have := List.pairwise_iff_getElem.1 h j i hj hi q
    rw [e] at this; exact absurd this (lt_irr _)
theorem look_self {β : Type} {L : List (ByteArray × β)} (h : L.Pairwise fun s t => lt s.1 t.1) {s : ByteArray × β} (hs : s ∈ L) : look L s.1 = some s := by
  cases hf : look L s.1 with
  | some t =>
    obtain ⟨m1, m2⟩ := look_name hf
    rw [nm_inj h m1 hs m2]
  | none =>
    unfold look at hf
    rw [List.find?_eq_none] at hf
    exact absurd (hf s hs) (by simp)
theorem mem_withC {C : List Pair} {n v v0 : ByteArray} {p : Pair} : p ∈ withC C n v v0 ↔ (p ∈ C ∧ p.1 ≠ n) ∨ (v ≠ v0 ∧ p = (n, v)) := by
  have hw : p ∈ without C n ↔ p ∈ C ∧ p.1 ≠ n := by unfold without; simp [List.mem_filter]
  unfold withC
  split
  · rename_i h; rw [hw]; simp [h]
  · rename_i h
    have hsp : p ∈ without C n ↔ p ∈ (without C n).take (place (without C n) n) ∨ p ∈ (without C n).drop (place (without C n) n) := by
      rw [← List.mem_append, List.take_append_drop]
    rw [← hw, List.mem_append, List.mem_append, List.mem_singleton, hsp]
    simp only [ne_eq, h, not_false_eq_true, true_and]
    constructor
    · rintro ((q | q) | q)
      · exact .inl (.inl q)
      · exact .inr q
      · exact .inl (.inr q)
    · rintro ((q | q) | q)
      · exact .inl (.inl q)
      · exact .inr q
      · exact .inl (.inr q)
theorem with_eq {L : List Setting} {C : List Pair} {n v v0 : ByteArray} {s : Setting} (hL : chkSettings L = 0) (hC : chkSet L true none C = 0) (hl : look L n = some s) (he : s.2.head? = some v0) : withC C n v v0 = withR L C n v := by
  obtain ⟨c1, c2⟩ := chkSet_ok hC
  have hs := settings_srt hL
  refine srt_ext (withC_srt c2) (withR_srt hs) fun p => ?_
  rw [mem_withC]
  unfold withR
  rw [List.mem_filterMap]
  obtain ⟨l1, l2⟩ := look_name hl
  constructor
  · rintro (⟨q1, q2⟩ | ⟨q1, rfl⟩)
    · obtain ⟨t, t1, t2, t3, _⟩ := c1 p q1
      obtain ⟨m1, m2⟩ := look_name t1
      refine ⟨t, m1, ?_⟩
      have hv : withVal L C n v t = p.2 := by
        unfold withVal
        rw [if_neg (by rw [m2]; exact q2), m2]
        unfold valOf
        rw [look_self c2 q1]; rfl
      unfold withOne
      rw [hv, if_neg (t3 rfl), m2]
    · refine ⟨s, l1, ?_⟩
      have hv : withVal L C n v s = v := by unfold withVal; rw [if_pos l2]
      unfold withOne
      rw [hv, he, if_neg (fun e => q1 (Option.some.inj e).symm), l2]
  · rintro ⟨t, m1, ho⟩
    unfold withOne at ho
    split at ho
    · cases ho
    rename_i hh
    cases ho
    by_cases hn : t.1 = n
    · have et : t = s := nm_inj hs m1 l1 (hn.trans l2.symm)
      have hv : withVal L C n v t = v := by unfold withVal; rw [if_pos hn]
      rw [hv] at hh ⊢
      rw [et, he] at hh
      exact .inr ⟨fun e => hh (by rw [e]), by rw [hn]⟩
    · have hv : withVal L C n v t = (valOf L C t.1).getD ⟨#[]⟩ := by unfold withVal; rw [if_neg hn]
      cases hc : look C t.1 with
      | some q =>
        obtain ⟨k1, k2⟩ := look_name hc
        have hq : valOf L C t.1 = some q.2 := by unfold valOf; rw [hc]
        rw [hv, hq]
        refine .inl ⟨?_, hn⟩
        rw [← k2]
        exact k1
      | none =>
        exfalso
        have hq : valOf L C t.1 = t.2.head? := by unfold valOf; rw [hc, look_self hs m1]; rfl
        rw [hv, hq] at hh
        have hne := ((chkSettings_ne hL).2 t m1).1
        cases ht : t.2 with
        | nil => exact hne ht
        | cons a r => rw [ht] at hh; exact hh rfl
end Go.Proofs.YtcbkiipcfdcdgaaGreatDoor.Ev

namespace Go.Proofs.YtcbkiipcfdcdgaaGreatDoor.Ev
open Go Go.RowKit
set_option linter.unusedVariables false
set_option linter.unusedSimpArgs false
theorem chkSet_intro {L : List Setting} : ∀ {C : List Pair} {prev : Option ByteArray}, (∀ p ∈ C, ∃ s, look L p.1 = some s ∧ p.2 ∈ s.2 ∧ s.2.head? ≠ some p.2) → Srt C → (∀ m, prev = some m → ∀ p ∈ C, lt m p.1) → chkSet L true prev C = 0
  | [], prev, _, _, _ => rfl
  | p :: C, prev, h, hs, hp => by
    obtain ⟨s, s1, s2, s3⟩ := h p (by simp)
    obtain ⟨a1, a2⟩ := List.pairwise_cons.1 hs
    have hna : ¬ notAbove prev p.1 = true := by
      cases prev with
      | none => simp [notAbove]
      | some m =>
        have := hp m rfl p (by simp)
        intro q
        have q : sle p.1 m = true := q
        rw [sle_eq] at q
        unfold lt at this
        simp [this] at q
    rw [chkSet, s1]
    dsimp only
    rw [if_neg (by rw [memB_iff.2 s2]; simp), if_neg (fun q => s3 q.2), if_neg hna]
    exact chkSet_intro (fun q hq => h q (by simp [hq])) a2 (fun m hm q hq => by cases hm; exact a1 q hq)
theorem withR_mem {L : List Setting} {C : List Pair} {n v : ByteArray} {p : Pair} : p ∈ withR L C n v ↔ ∃ t ∈ L, t.2.head? ≠ some (withVal L C n v t) ∧ p = (t.1, withVal L C n v t) := by
  unfold withR
  rw [List.mem_filterMap]
  constructor
  · rintro ⟨t, m, h⟩
    unfold withOne at h
    split at h
    · cases h
    · rename_i q; cases h; exact ⟨t, m, q, rfl⟩
  · rintro ⟨t, m, q, rfl⟩
    exact ⟨t, m, by unfold withOne; rw [if_neg q]⟩
variable {L : List Setting} {C : List Pair} {n v : ByteArray} {s : Setting}
theorem withVal_mem (hL : chkSettings L = 0) (hC : chkSet L true none C = 0) (hl : look L n = some s) (hv : v ∈ s.2) {t : Setting} (ht : t ∈ L) : withVal L C n v t ∈ t.2 := by
  have hs := settings_srt hL
  obtain ⟨l1, l2⟩ := look_name hl
  unfold withVal
  split
  · rename_i hn
    rw [nm_inj hs ht l1 (hn.trans l2.symm)]
    exact hv
  · unfold valOf
    cases hc : look C t.1 with
    | some q =>
      obtain ⟨k1, k2⟩ := look_name hc
      obtain ⟨u, u1, u2, _⟩ := (chkSet_ok hC).1 q k1
      rw [k2, look_self hs ht] at u1
      cases u1
      exact u2
    | none =>
      rw [look_self hs ht]
      have hne := ((chkSettings_ne hL).2 t ht).1
      cases h : t.2 with
      | nil => exact absurd h hne
      | cons a r =>
        show (t.2.head?).getD ⟨#[]⟩ ∈ _
        rw [h]; simp
theorem withR_ok (hL : chkSettings L = 0) (hC : chkSet L true none C = 0) (hl : look L n = some s) (hv : v ∈ s.2) : chkSet L true none (withR L C n v) = 0 := by
  have hs := settings_srt hL
  refine chkSet_intro (fun p hp => ?_) (withR_srt hs) (fun m hm => by cases hm)
  obtain ⟨t, t1, t2, rfl⟩ := withR_mem.1 hp
  exact ⟨t, look_self hs t1, withVal_mem hL hC hl hv t1, t2⟩
theorem withR_val (hL : chkSettings L = 0) {t : Setting} (ht : t ∈ L) : valOf L (withR L C n v) t.1 = some (withVal L C n v t) := by
  have hs := settings_srt hL
  have hr : Srt (withR L C n v) := withR_srt hs
  by_cases hh : t.2.head? = some (withVal L C n v t)
  · cases hc : look (withR L C n v) t.1 with
    | some q =>
      obtain ⟨k1, k2⟩ := look_name hc
      obtain ⟨u, u1, u2, rfl⟩ := withR_mem.1 k1
      rw [nm_inj hs u1 ht k2] at u2
      exact absurd hh u2
    | none =>
      unfold valOf
      rw [hc, look_self hs ht]
      exact hh
  · have hm : (t.1, withVal L C n v t) ∈ withR L C n v := withR_mem.2 ⟨t, ht, hh, rfl⟩
    have := look_self hr hm
    unfold valOf
    rw [this]
theorem withR_len : (withR L C n v).length ≤ L.length := List.length_filterMap_le _ _
def withAns (L : List Setting) (C : List Pair) (n v : ByteArray) : List Pair × Int := if chkConfig L C ≠ 0 then ([], chkConfig L C) else match look L n with
  | none => ([], 5)
  | some s => if memB s.2 v = false then ([], 1) else (withR L C n v, 0)
end Go.Proofs.YtcbkiipcfdcdgaaGreatDoor.Ev

namespace Go.Proofs.YtcbkiipcfdcdgaaGreatDoor.Ev
open Go Go.RowKit
set_option linter.unusedVariables false
set_option linter.unusedSimpArgs false
variable {ι R α X : Type} {l : ι → Nat}
def chkNames (L : List Setting) : Option ByteArray → List ByteArray → Int
  | _, [] => 0
  | prev, n :: r => if look L n = none then 5 else if notAbove prev n = true then 8 else chkNames L (some n) r
theorem S54_spec (L : List Setting) (N : List ByteArray) (hL : SetSz L) (hN : StrsSz N) : Ultk (fun k => S54 k (L, N, ())) (chkNames L none N) := by
  unfold S54
  have hlen := hL.len
  have hn := len_big hN.1 (by omega)
  refine (Ult.forI (fun _ => Nat.le_refl _) N.length (fun j => chkNames L (prevK N j) (N.drop j)) fun j hj next => ?_).eq (by rw [List.drop_zero]; rfl)
  dsimp only
  rw [iltL]
  by_cases hlt' : ¬ j < N.length
  · refine Ult.no (decide_eq_false hlt') (Ult.ret.eq ?_)
    rw [List.drop_eq_nil_of_le (by omega)]
    cases prevK N j <;> rfl
  have hlt : j < N.length := Decidable.not_not.1 hlt'
  refine Ult.yes (decide_eq_true hlt) (Ult.bindc (at?_nat hlt) ?_)
  rw [drop_cons hlt, chkNames, ← prevK_succ hlt, isucc hlt (by omega)]
  refine Ult.bind (Ult.call (f := fun k => S90 k (L, N[j], ())) (lp_le _ _ fun _ => Nat.le_refl _) (S90_spec L N[j] (by omega))) (Ult.ifS ?_ (fun _ => Ult.ret) fun _ => ?_)
  · rw [ilt_eq]; simp only [decide_eq_decide]; exact idxF_neg
  · exact order_stepK hlt (by omega) Ult.ret (next hlt)
theorem S61_spec (L : List Setting) (N : List ByteArray) (hL : SetSz L) (hN : StrsSz N) : Ultk (fun k => S61 k (L, N, ())) (chkNames L none N) := by
  unfold S61
  have hlen := hL.len
  have hn := len_big hN.1 (by omega)
  refine (Ult.forI (fun _ => Nat.le_refl _) N.length (fun j => chkNames L (prevK N j) (N.drop j)) fun j hj next => ?_).eq (by rw [List.drop_zero]; rfl)
  dsimp only
  rw [iltL]
  by_cases hlt' : ¬ j < N.length
  · refine Ult.no (decide_eq_false hlt') (Ult.ret.eq ?_)
    rw [List.drop_eq_nil_of_le (by omega)]
    cases prevK N j <;> rfl
  have hlt : j < N.length := Decidable.not_not.1 hlt'
  refine Ult.yes (decide_eq_true hlt) (Ult.bindc (at?_nat hlt) ?_)
  rw [drop_cons hlt, chkNames, ← prevK_succ hlt, isucc hlt (by omega)]
  refine Ult.bind (Ult.call (f := fun k => S102 k (L, N[j], ())) (lp_le _ _ fun _ => Nat.le_refl _) (S102_spec L N[j] (by omega))) (Ult.ifS ?_ (fun _ => Ult.ret) fun _ => ?_)
  · unfold lookS
    cases look L N[j] <;> simp [bnot]
  · exact order_stepK hlt (by omega) Ult.ret (next hlt)
/-! ### Only -/
def onlyAns (L : List Setting) (C : List Pair) (N : List ByteArray) : List Pair × Int := if chkConfig L C ≠ 0 then ([], chkConfig L C) else if chkNames L none N ≠ 0 then ([], chkNames L none N) else (C.filter fun p => memB N p.1, 0)
end Go.Proofs.YtcbkiipcfdcdgaaGreatDoor.Ev

namespace Go.Proofs.YtcbkiipcfdcdgaaGreatDoor.Ev
open Go Go.RowKit
set_option linter.unusedVariables false
set_option linter.unusedSimpArgs false
variable {ι R α X : Type} {l : ι → Nat}
theorem sets_len20 {L : List Setting} : ∀ {prev : Option ByteArray}, chkSets prev L = 0 → ∀ s ∈ L, s.2.length ≤ 20 := by
  induction L with
  | nil => intro prev _ s hs; cases hs
  | cons a L ih =>
    intro prev h s hs
    rw [chkSets] at h
    split at h
    · cases h
    split at h
    · cases h
    split at h
    · cases h
    rename_i h3
    split at h
    · rename_i q; exact absurd h q
    split at h
    · cases h
    rcases List.mem_cons.1 hs with rfl | hs
    · omega
    · exact ih h s hs
theorem settings_len20 {L : List Setting} (h : chkSettings L = 0) : ∀ s ∈ L, s.2.length ≤ 20 := by
  unfold chkSettings at h
  split at h
  · cases h
  · exact sets_len20 h
/-- what becomes of configurations when one setting has all of its values -/
def spread1 (L : List Setting) (n : ByteArray) (s : Setting) (out : List (List Pair)) : List (List Pair) := out.flatMap fun x => s.2.map fun v => withR L x n v
def spreadF (L : List Setting) : List (List Pair) → List ByteArray → List (List Pair) × Bool
  | out, [] => (out, true)
  | out, n :: r => match look L n with
    | none => (out, true)
    | some s => if 1000 < (spread1 L n s out).length then ([], false) else spreadF L (spread1 L n s out) r
theorem spread1_len {L : List Setting} {n : ByteArray} {s : Setting} : ∀ {out : List (List Pair)}, (spread1 L n s out).length = out.length * s.2.length
  | [] => by simp [spread1]
  | x :: r => by
    have ih := spread1_len (L := L) (n := n) (s := s) (out := r)
    unfold spread1 at ih ⊢
    rw [List.flatMap_cons, List.length_append, ih, List.length_map, List.length_cons, Nat.succ_mul]; omega
theorem chkNames_look {L : List Setting} {N : List ByteArray} : ∀ {prev : Option ByteArray}, chkNames L prev N = 0 → ∀ n ∈ N, ∃ s, look L n = some s := by
  induction N with
  | nil => intro prev _ n hn; cases hn
  | cons a N ih =>
    intro prev h n hn
    rw [chkNames] at h
    split at h
    · cases h
    rename_i h1
    split at h
    · cases h
    rcases List.mem_cons.1 hn with rfl | hn
    · exact Option.ne_none_iff_exists'.1 h1
    · exact ih h n hn
/-- a loop that puts one thing behind another for each value -/
theorem push_loop {kk : ι → Nat} (hk : ∀ i, l i ≤ kk i) (V : List ByteArray) (f : ι → ByteArray → Option (List Pair)) (g : ByteArray → List Pair) (hf : ∀ v ∈ V, Ult l (fun i => f i v) (g v)) (acc : List (List Pair)) (hV : V.length ≤ 20) (ha : acc.length ≤ 100000)
    {y : ι → List (List Pair) → Option R} {r : R} (hy : Ult l (fun i => y i (acc ++ V.map g)) r) :
    Ult l (fun i => loopN (kk i) (fun (a11 : (List (List Pair) × Int) → Option R) (a12 : List (List Pair) × Int) => cnd (ilt a12.2 (len V)) (bnd (at? V a12.2) fun a13 => bnd (f i a13) fun a14 => bnd (app? 24 a12.1 (a14 :: ([] : List (List Pair)))) fun a15 => a11 (a15, iadd .i64 a12.2 1)) (y i a12.1)) (acc, 0)) r := by
  refine Ult.forA (A := List (List Pair)) hk V.length (fun a j => (a, (j : Int))) (fun a j => a = acc ++ (V.take j).map g) (fun _ _ => r) acc (by simp) fun a j hj ha' next => ?_
  subst ha'
  dsimp only
  rw [iltL]
  by_cases hlt' : ¬ j < V.length
  · refine Ult.no (decide_eq_false hlt') ?_
    rw [List.take_of_length_le (by omega)]
    exact hy.lift
  have hlt : j < V.length := Decidable.not_not.1 hlt'
  refine Ult.yes (decide_eq_true hlt) (Ult.bindc (at?_nat hlt) (Ult.bind (hf _ (List.getElem_mem hlt)).lift ?_))
  refine Ult.bindc (app?_ok (by simp only [List.length_append, List.length_map, List.length_take, List.length_cons, List.length_nil]; show (acc.length + min j V.length + (0 + 1)) * 24 ≤ _; have := Nat.min_le_left j V.length; omega)) ?_
  rw [isucc hlt (by omega)]
  exact next _ hlt (by rw [List.take_succ_eq_append_getElem hlt, List.map_append, List.append_assoc]; rfl)
end Go.Proofs.YtcbkiipcfdcdgaaGreatDoor.Ev

namespace Go.Proofs.YtcbkiipcfdcdgaaGreatDoor.Ev
open Go Go.RowKit
set_option linter.unusedVariables false
set_option linter.unusedSimpArgs false
variable {ι R α X : Type} {l : ι → Nat}
theorem spread1_take {L : List Setting} {n : ByteArray} {s : Setting} {a : List (List Pair)} {i : Nat} (h : i < a.length) : spread1 L n s (a.take (i + 1)) = spread1 L n s (a.take i) ++ s.2.map fun v => withR L a[i] n v := by
  unfold spread1
  rw [List.take_succ_eq_append_getElem h, List.flatMap_append]
  simp
theorem spread1_ok {L : List Setting} {n : ByteArray} {s : Setting} {a : List (List Pair)} (hL : chkSettings L = 0) (hl : look L n = some s) (h : ∀ x ∈ a, chkSet L true none x = 0) : ∀ x ∈ spread1 L n s a, chkSet L true none x = 0 := fun x hx => by
  unfold spread1 at hx
  obtain ⟨y, hy, hx⟩ := List.mem_flatMap.1 hx
  obtain ⟨v, hv, rfl⟩ := List.mem_map.1 hx
  exact withR_ok hL (h y hy) hl hv
theorem S47_spec (L : List Setting) (C : List Pair) (N : List ByteArray) (hL : SetSz L) (hC : (C.length) * 32 ≤ 140737488355328) (hN : StrsSz N) (c1 : chkSettings L = 0) (c2 : chkSet L true none C = 0) (hlk : ∀ n ∈ N, ∃ s, look L n = some s) : Ultk (fun k => S47 k (L, C, N, ())) (spreadF L [C] N) := by
  unfold S47
  have hn := len_big hN.1 (by omega)
  have h30 := (chkSettings_ne c1).1
  refine Ult.bind (S10_spec C hC) ?_
  refine (Ult.forA (A := List (List Pair)) (fun _ => Nat.le_refl _) N.length (fun a j => (a, (j : Int))) (fun a j => a.length ≤ 1000 ∧ ∀ x ∈ a, chkSet L true none x = 0) (fun a j => spreadF L a (N.drop j)) [C] ⟨by simp, fun x hx => by rw [List.mem_singleton] at hx; rw [hx]; exact c2⟩ fun a j hj ha next => ?_).eq (by rw [List.drop_zero])
  obtain ⟨ha1, ha2⟩ := ha
  dsimp only
  rw [iltL]
  by_cases hlt' : ¬ j < N.length
  · refine Ult.no (decide_eq_false hlt') (Ult.ret.eq ?_)
    rw [List.drop_eq_nil_of_le (by omega)]; rfl
  have hlt : j < N.length := Decidable.not_not.1 hlt'
  refine Ult.yes (decide_eq_true hlt) (Ult.bindc (at?_nat hlt) ?_)
  obtain ⟨s, hl⟩ := hlk _ (List.getElem_mem hlt)
  obtain ⟨m1, m2⟩ := look_name hl
  have h20 := settings_len20 c1 s m1
  rw [drop_cons hlt, spreadF, hl, isucc hlt (by omega)]
  dsimp only
  have hls : (spread1 L N[j] s a).length = a.length * s.2.length := spread1_len
  have hls2 : a.length * s.2.length ≤ 1000 * 20 := Nat.mul_le_mul ha1 h20
  obtain ⟨v0, r0, e0⟩ : ∃ v0 r0, s.2 = v0 :: r0 := by
    cases h : s.2 with
    | nil => exact absurd h ((chkSettings_ne c1).2 s m1).1
    | cons a r => exact ⟨a, r, rfl⟩
  have he : s.2.head? = some v0 := by rw [e0]; rfl
  refine Ult.forA (A := List (List Pair)) (lp_le _ _ fun _ => Nat.le_refl _) a.length (fun b i => (b, (i : Int))) (fun b i => b = spread1 L N[j] s (a.take i)) (fun _ _ => if 1000 < (spread1 L N[j] s a).length then ([], false) else spreadF L (spread1 L N[j] s a) (N.drop (j + 1))) [] (by simp [spread1]) fun b i hi hb next2 => ?_
  subst hb
  dsimp only
  rw [iltL]
  by_cases hlu' : ¬ i < a.length
  · refine Ult.no (decide_eq_false hlu') ?_
    rw [List.take_of_length_le (by omega)]
    refine Ult.ifS (by rw [igt_eq]; unfold len; simp only [decide_eq_decide]; omega) (fun _ => Ult.ret) fun h1 => ?_
    exact (next _ hlt ⟨by omega, spread1_ok c1 hl ha2⟩).lift
  have hlu : i < a.length := Decidable.not_not.1 hlu'
  refine Ult.yes (decide_eq_true hlu) (Ult.bindc (at?_nat hlu) ?_)
  have hx := ha2 _ (List.getElem_mem hlu)
  have hxl := cfg_len hx
  obtain ⟨i1, i2⟩ := idxF_at (p := fun s : Setting => decide (s.1 = N[j])) hl
  refine Ult.bind (Ult.call (f := fun k => S90 k (L, N[j], ())) (lp_le _ _ (lp_le _ _ fun _ => Nat.le_refl _)) (S90_spec L N[j] (by omega))) (Ult.bindc i1 ?_)
  have hbl : (spread1 L N[j] s (a.take i)).length ≤ 100000 := by
    rw [spread1_len]
    have : (a.take i).length ≤ 1000 := by rw [List.length_take]; omega
    have := Nat.mul_le_mul this h20
    omega
  refine push_loop (l := lp (lp fun k : Nat => k)) (kk := fun q => q.1.1) (lp_le _ _ (lp_le _ _ fun _ => Nat.le_refl _)) s.2 (fun q v => S46 q.1.1 (L, a[i], N[j], v, ())) (fun v => withR L a[i] N[j] v) (fun v hv => ?_) (spread1 L N[j] s (a.take i)) h20 hbl (y := fun q acc => loopN q.2 _ (acc, iadd .i64 (i : Int) 1)) ?_
  · have := S46_spec L a[i] N[j] v v0 hL (by omega) (chkSet_ok hx).2 hl he
    rw [with_eq c1 hx hl he] at this
    exact Ult.call (f := fun k => S46 k (L, a[i], N[j], v, ())) (lp_le _ _ (lp_le _ _ fun _ => Nat.le_refl _)) this
  · rw [isucc hlu (by omega)]
    exact next2 _ hlu (spread1_take hlu).symm
end Go.Proofs.YtcbkiipcfdcdgaaGreatDoor.Ev

namespace Go.Proofs.YtcbkiipcfdcdgaaGreatDoor.Ev
open Go Go.RowKit
set_option linter.unusedVariables false
set_option linter.unusedSimpArgs false
variable {ι R α X : Type} {l : ι → Nat}
theorem imul64 {a b : Int} (h0 : -9223372036854775808 ≤ a * b) (h1 : a * b ≤ 9223372036854775807) : imul .i64 a b = a * b := wrap64 h0 h1
theorem S50_spec (L : List Setting) (C : List Pair) (N : List ByteArray) (hL : SetSz L) (hN : StrsSz N) (c1 : chkSettings L = 0) (c2 : chkSet L true none C = 0) (hlk : ∀ n ∈ N, ∃ s, look L n = some s) : Ultk (fun k => S50 k (L, C, N, ())) (spreadF L [C] N) := by
  unfold S50
  have hn := len_big hN.1 (by omega)
  have h30 := (chkSettings_ne c1).1
  refine (Ult.forA (A := List (List Pair)) (fun _ => Nat.le_refl _) N.length (fun a j => (a, (j : Int))) (fun a j => a.length ≤ 1000 ∧ ∀ x ∈ a, chkSet L true none x = 0) (fun a j => spreadF L a (N.drop j)) [C] ⟨by simp, fun x hx => by rw [List.mem_singleton] at hx; rw [hx]; exact c2⟩ fun a j hj ha next => ?_).eq (by rw [List.drop_zero])
  obtain ⟨ha1, ha2⟩ := ha
  dsimp only
  rw [iltL]
  by_cases hlt' : ¬ j < N.length
  · refine Ult.no (decide_eq_false hlt') (Ult.ret.eq ?_)
    rw [List.drop_eq_nil_of_le (by omega)]; rfl
  have hlt : j < N.length := Decidable.not_not.1 hlt'
  refine Ult.yes (decide_eq_true hlt) (Ult.bindc (at?_nat hlt) ?_)
  obtain ⟨s, hl⟩ := hlk _ (List.getElem_mem hlt)
  obtain ⟨m1, m2⟩ := look_name hl
  have h20 := settings_len20 c1 s m1
  rw [drop_cons hlt, spreadF, hl, isucc hlt (by omega)]
  dsimp only
  have hls : (spread1 L N[j] s a).length = a.length * s.2.length := spread1_len
  have hls2 : a.length * s.2.length ≤ 1000 * 20 := Nat.mul_le_mul ha1 h20
  have hlS : lookS L N[j] = (s, true) := by unfold lookS; rw [hl]
  refine Ult.bind (Ult.call (f := fun k => S102 k (L, N[j], ())) (lp_le _ _ fun _ => Nat.le_refl _) (S102_spec L N[j] (by omega))) ?_
  rw [hlS]
  have hmul : imul .i64 (len a) (len s.2) = ((a.length * s.2.length : Nat) : Int) := by
    unfold len
    rw [imul64 (by rw [← Int.natCast_mul]; omega) (by rw [← Int.natCast_mul]; omega), Int.natCast_mul]
  dsimp only
  rw [hmul]
  refine Ult.ifS (by rw [igt_eq, hls]; simp only [decide_eq_decide]; omega) (fun _ => Ult.ret) fun h1 => ?_
  refine Ult.forA (A := List (List Pair)) (lp_le _ _ fun _ => Nat.le_refl _) a.length (fun b i => (b, (i : Int))) (fun b i => b = spread1 L N[j] s (a.take i)) (fun _ _ => spreadF L (spread1 L N[j] s a) (N.drop (j + 1))) [] (by simp [spread1]) fun b i hi hb next2 => ?_
  subst hb
  dsimp only
  rw [iltL]
  by_cases hlu' : ¬ i < a.length
  · refine Ult.no (decide_eq_false hlu') ?_
    rw [List.take_of_length_le (by omega)]
    exact (next _ hlt ⟨by omega, spread1_ok c1 hl ha2⟩).lift
  have hlu : i < a.length := Decidable.not_not.1 hlu'
  refine Ult.yes (decide_eq_true hlu) (Ult.bindc (at?_nat hlu) ?_)
  have hx := ha2 _ (List.getElem_mem hlu)
  have hxl := cfg_len hx
  have hbl : (spread1 L N[j] s (a.take i)).length ≤ 100000 := by
    rw [spread1_len]
    have : (a.take i).length ≤ 1000 := by rw [List.length_take]; omega
    have := Nat.mul_le_mul this h20
    omega
  refine push_loop (l := lp (lp fun k : Nat => k)) (kk := fun q => q.1.1) (lp_le _ _ (lp_le _ _ fun _ => Nat.le_refl _)) s.2 (fun q v => S49 q.1.1 (L, a[i], N[j], v, ())) (fun v => withR L a[i] N[j] v) (fun v hv => ?_) (spread1 L N[j] s (a.take i)) h20 hbl (y := fun q acc => loopN q.2 _ (acc, iadd .i64 (i : Int) 1)) ?_
  · exact Ult.call (f := fun k => S49 k (L, a[i], N[j], v, ())) (lp_le _ _ (lp_le _ _ fun _ => Nat.le_refl _)) (S49_spec L a[i] N[j] v hL (by omega) c1)
  · rw [isucc hlu (by omega)]
    exact next2 _ hlu (spread1_take hlu).symm
def allAns (L : List Setting) (N : List ByteArray) : List (List Pair) × Int := if chkSettings L ≠ 0 then ([], chkSettings L) else if chkNames L none N ≠ 0 then ([], chkNames L none N) else if (spreadF L [[]] N).2 = false then ([], 2) else ((spreadF L [[]] N).1, 0)
theorem S15_self (A : List (List Pair)) (hA : A.length ≤ 9223372036854775807) (h : ∀ x ∈ A, x.length ≤ 9223372036854775807) : Ultk (fun k => S15 k (A, A, ())) true := by
  unfold S15
  refine Ult.no (by rw [ine_eq]; simp) ?_
  refine Ult.copyI (fun _ => Nat.le_refl _) A (fun _ j => (j : Int)) _ ?_ fun j hlt next => ?_
  rotate_left
  · dsimp only
    rw [iltL]
    refine Ult.yes (decide_eq_true hlt) (Ult.bindc (at?_nat hlt) (Ult.bindc (at?_nat hlt) ?_))
    refine Ult.bind (Ult.call (f := fun k => S18 k (A[j], A[j], ())) (lp_le _ _ fun _ => Nat.le_refl _) (S18_self A[j] (h _ (List.getElem_mem hlt)))) (Ult.no rfl ?_)
    rw [isucc hlt (by omega)]
    exact next
  · dsimp only
    exact Ult.no (iltE _) Ult.ret
theorem spreadF_ok {L : List Setting} (c1 : chkSettings L = 0) : ∀ {N : List ByteArray} {a : List (List Pair)}, a.length ≤ 1000 → (∀ x ∈ a, chkSet L true none x = 0) → (spreadF L a N).1.length ≤ 1000 ∧ ∀ x ∈ (spreadF L a N).1, chkSet L true none x = 0
  | [], a, h1, h2 => ⟨h1, h2⟩
  | n :: r, a, h1, h2 => by
    rw [spreadF]
    split
    · exact ⟨h1, h2⟩
    · rename_i s hs
      split
      · exact ⟨Nat.zero_le _, fun x hx => by cases hx⟩
      · exact spreadF_ok c1 (by omega) (spread1_ok c1 hs h2)
theorem allAns_ok {L : List Setting} {N : List ByteArray} : (allAns L N).1.length ≤ 1000 ∧ ∀ x ∈ (allAns L N).1, chkSet L true none x = 0 := by
  unfold allAns
  split
  · exact ⟨Nat.zero_le _, fun x hx => by cases hx⟩
  rename_i h0
  split
  · exact ⟨Nat.zero_le _, fun x hx => by cases hx⟩
  split
  · exact ⟨Nat.zero_le _, fun x hx => by cases hx⟩
  exact spreadF_ok (Decidable.not_not.1 h0) (by simp) (fun x hx => by rw [List.mem_singleton] at hx; rw [hx]; rfl)
end Go.Proofs.YtcbkiipcfdcdgaaGreatDoor.Ev

namespace Go.Proofs.YtcbkiipcfdcdgaaGreatDoor.Ev
open Go Go.RowKit
set_option linter.unusedVariables false
set_option linter.unusedSimpArgs false
variable {ι R α X : Type} {l : ι → Nat}
theorem S18_spec (A B : List Pair) (hA : A.length ≤ 9223372036854775807) (hB : B.length ≤ 9223372036854775807) : Ultk (fun k => S18 k (A, B, ())) (decide (A = B)) := by
  unfold S18
  by_cases hlen : A.length = B.length
  · refine Ult.no (by rw [ine_eq]; simp [len, hlen]) ?_
    refine (Ult.forI (fun _ => Nat.le_refl _) A.length (fun j => decide (A.drop j = B.drop j)) fun j hj next => ?_).eq (by rw [List.drop_zero, List.drop_zero])
    dsimp only
    rw [iltL]
    by_cases hlt' : ¬ j < A.length
    · refine Ult.no (decide_eq_false hlt') (Ult.ret.eq ?_)
      rw [List.drop_eq_nil_of_le (by omega), List.drop_eq_nil_of_le (by omega)]; simp
    have hlt : j < A.length := Decidable.not_not.1 hlt'
    have hlb : j < B.length := by omega
    refine Ult.yes (decide_eq_true hlt) (Ult.bindc (at?_nat hlt) (Ult.bindc (at?_nat hlb) ?_))
    have eA := drop_cons hlt
    have eB := drop_cons hlb
    have ed : decide (A.drop j = B.drop j) = decide (A[j] :: A.drop (j + 1) = B[j] :: B.drop (j + 1)) := by rw [eA, eB]
    rw [ed]
    by_cases he : A[j] = B[j]
    · refine Ult.no (by rw [kbeq_pair, he]; simp [bnot]) ?_
      rw [isucc hlt hA]
      refine (next hlt).eq ?_
      rw [he]
      simp only [List.cons.injEq, true_and]
    · refine Ult.yes (by rw [kbeq_pair, decide_eq_false he]; rfl) (Ult.ret.eq ?_)
      rw [decide_eq_false (fun e => he (List.cons.inj e).1)]
  · refine Ult.yes (by rw [ine_eq]; unfold len; exact decide_eq_true (fun e => hlen (Int.ofNat.inj e))) (Ult.ret.eq ?_)
    rw [decide_eq_false (fun e => hlen (by rw [e]))]

/-! ### configurations as what values settings have -/
theorem cfg_val {L : List Setting} {x : List Pair} (hx : chkSet L true none x = 0) {p : Pair} (hp : p ∈ x) : valOf L x p.1 = some p.2 := by
  unfold valOf
  rw [look_self (chkSet_ok hx).2 hp]
theorem cfg_sub {L : List Setting} {x y : List Pair} (hx : chkSet L true none x = 0) (h : ∀ s ∈ L, valOf L x s.1 = valOf L y s.1) {p : Pair} (hp : p ∈ x) : p ∈ y := by
  obtain ⟨s, s1, s2, s3, _⟩ := (chkSet_ok hx).1 p hp
  obtain ⟨m1, m2⟩ := look_name s1
  have hv := h s m1
  rw [m2, cfg_val hx hp] at hv
  unfold valOf at hv
  cases hc : look y p.1 with
  | some q =>
    rw [hc] at hv
    obtain ⟨k1, k2⟩ := look_name hc
    have e : q = p := Prod.ext k2 (Option.some.inj hv).symm
    rw [← e]; exact k1
  | none =>
    rw [hc, s1] at hv
    exact absurd hv.symm (s3 rfl)
theorem cfg_ext {L : List Setting} {x y : List Pair} (hx : chkSet L true none x = 0) (hy : chkSet L true none y = 0) (h : ∀ s ∈ L, valOf L x s.1 = valOf L y s.1) : x = y :=
  srt_ext (chkSet_ok hx).2 (chkSet_ok hy).2 fun _ => ⟨cfg_sub hx h, cfg_sub hy fun s hs => (h s hs).symm⟩
def rs (y : List Pair) (M : List ByteArray) : List Pair := y.filter fun p => memB M p.1
theorem rs_ok {L : List Setting} {y : List Pair} {M : List ByteArray} (hy : chkSet L true none y = 0) : chkSet L true none (rs y M) = 0 := by
  obtain ⟨h1, h2⟩ := chkSet_ok hy
  refine chkSet_intro (fun p hp => ?_) (List.Pairwise.filter _ h2) (fun m hm => by cases hm)
  obtain ⟨s, s1, s2, s3, _⟩ := h1 p (List.mem_filter.1 hp).1
  exact ⟨s, s1, s2, s3 rfl⟩
theorem rs_val {L : List Setting} {y : List Pair} {M : List ByteArray} (hy : chkSet L true none y = 0) (m : ByteArray) : valOf L (rs y M) m = if memB M m = true then valOf L y m else (look L m).bind fun s => s.2.head? := by
  have h2 := (chkSet_ok hy).2
  have h3 := (chkSet_ok (rs_ok (M := M) hy)).2
  cases hc : look (rs y M) m with
  | some q =>
    obtain ⟨k1, k2⟩ := look_name hc
    obtain ⟨f1, f2⟩ := List.mem_filter.1 k1
    rw [k2] at f2
    rw [if_pos f2]
    have e : look y m = some q := by rw [← k2]; exact look_self h2 f1
    unfold valOf; rw [hc, e]
  | none =>
    have e : valOf L (rs y M) m = (look L m).bind fun s => s.2.head? := by unfold valOf; rw [hc]
    rw [e]
    split
    · rename_i hm
      unfold valOf
      cases hd : look y m with
      | none => rfl
      | some q =>
        exfalso
        obtain ⟨k1, k2⟩ := look_name hd
        have hq : q ∈ rs y M := List.mem_filter.2 ⟨k1, by rw [k2]; exact hm⟩
        have := look_self h3 hq
        rw [k2, hc] at this
        cases this
    · rfl
theorem memB_app {M N : List ByteArray} {m : ByteArray} : memB (M ++ N) m = (memB M m || memB N m) := by unfold memB; rw [List.any_append]
theorem memB_one {n m : ByteArray} : memB [n] m = decide (m = n) := by unfold memB; simp
variable {L : List Setting} {x y : List Pair} {n v : ByteArray} {s : Setting} {M : List ByteArray}
theorem withV (c1 : chkSettings L = 0) (hx : chkSet L true none x = 0) {t : Setting} (ht : t ∈ L) : valOf L (withR L x n v) t.1 = if t.1 = n then some v else valOf L x t.1 := by
  rw [withR_val c1 ht]
  unfold withVal
  split
  · rfl
  · obtain ⟨w, hw⟩ := valOf_some (C := x) c1 (look_self (settings_srt c1) ht)
    rw [hw]; rfl
theorem with_rs (c1 : chkSettings L = 0) (hx : chkSet L true none x = 0) (hy : chkSet L true none y = 0) (hl : look L n = some s) (hv : v ∈ s.2) (hr : rs x M = x) (hn : n ∉ M) :
    withR L x n v = rs y (M ++ [n]) ↔ x = rs y M ∧ valOf L y n = some v := by
  have hs := settings_srt c1
  have hw := withR_ok c1 hx hl hv
  obtain ⟨m1, m2⟩ := look_name hl
  have hnM : memB M n = false := by
    cases h : memB M n with
    | false => rfl
    | true => exact absurd (memB_iff.1 h) hn
  have hxn : valOf L x n = (look L n).bind fun s => s.2.head? := by
    have := rs_val (M := M) hx n
    rw [hr, hnM] at this
    simpa using this
  constructor
  · intro h
    have key : ∀ t ∈ L, (if t.1 = n then some v else valOf L x t.1) = if memB (M ++ [n]) t.1 = true then valOf L y t.1 else (look L t.1).bind fun s => s.2.head? := fun t ht => by
      rw [← withV c1 hx ht, h, rs_val hy]
    have hvn := key s m1
    rw [if_pos m2, memB_app, memB_one, m2, decide_eq_true rfl, Bool.or_true, if_pos rfl] at hvn
    refine ⟨cfg_ext hx (rs_ok hy) fun t ht => ?_, hvn.symm⟩
    rw [rs_val hy]
    by_cases htn : t.1 = n
    · rw [htn, hnM, hxn]; simp
    · have := key t ht
      rw [if_neg htn, memB_app, memB_one, decide_eq_false htn, Bool.or_false] at this
      exact this
  · rintro ⟨h1, h2⟩
    refine cfg_ext hw (rs_ok hy) fun t ht => ?_
    rw [withV c1 hx ht, rs_val hy, memB_app, memB_one]
    by_cases htn : t.1 = n
    · rw [if_pos htn, htn, decide_eq_true rfl, Bool.or_true, if_pos rfl, h2]
    · rw [if_neg htn, decide_eq_false htn, Bool.or_false, h1, rs_val hy]
theorem with_own (c1 : chkSettings L = 0) (hx : chkSet L true none x = 0) (hl : look L n = some s) (hv : v ∈ s.2) (hr : rs x M = x) (hn : n ∉ M) : rs (withR L x n v) (M ++ [n]) = withR L x n v := by
  have hw := withR_ok c1 hx hl hv
  refine cfg_ext (rs_ok hw) hw fun t ht => ?_
  rw [rs_val hw, withV c1 hx ht, memB_app, memB_one]
  by_cases htn : t.1 = n
  · rw [decide_eq_true htn, Bool.or_true, if_pos rfl]
  · rw [if_neg htn, decide_eq_false htn, Bool.or_false]
    have := rs_val (M := M) hx t.1
    rw [hr] at this
    split
    · rfl
    · rename_i hm
      rw [this, if_neg hm]
theorem count_none {f : ByteArray → List Pair} {r : List Pair} {V : List ByteArray} (h : ∀ v ∈ V, f v ≠ r) : (V.map f).countP (fun z => decide (z = r)) = 0 := by
  rw [List.countP_eq_zero]
  intro z hz
  obtain ⟨v, hv, rfl⟩ := List.mem_map.1 hz
  simpa using h v hv
theorem count_one {f : ByteArray → List Pair} {r : List Pair} {v0 : ByteArray} : ∀ {V : List ByteArray}, V.Nodup → v0 ∈ V → (∀ v ∈ V, f v = r ↔ v = v0) → (V.map f).countP (fun z => decide (z = r)) = 1
  | a :: V, hn, hm, h => by
    obtain ⟨n1, n2⟩ := List.nodup_cons.1 hn
    rw [List.map_cons, List.countP_cons]
    by_cases e : a = v0
    · subst e
      rw [count_none fun v hv q => n1 ((h v (List.mem_cons_of_mem _ hv)).1 q ▸ hv), decide_eq_true ((h a List.mem_cons_self).2 rfl)]; rfl
    · have hm' : v0 ∈ V := by
        rcases List.mem_cons.1 hm with q | q
        · exact absurd q.symm e
        · exact q
      rw [count_one n2 hm' fun v hv => h v (List.mem_cons_of_mem _ hv), decide_eq_false (mt (h a List.mem_cons_self).1 e)]; rfl
theorem count_spread {r r' : List Pair} : ∀ {a : List (List Pair)}, (∀ x ∈ a, (s.2.map fun v => withR L x n v).countP (fun z => decide (z = r')) = if x = r then 1 else 0) →
    (spread1 L n s a).countP (fun z => decide (z = r')) = a.countP (fun z => decide (z = r))
  | [], _ => rfl
  | x :: a, h => by
    have ih := count_spread (r := r) (r' := r') fun x hx => h x (List.mem_cons_of_mem _ hx)
    unfold spread1 at ih ⊢
    rw [List.flatMap_cons, List.countP_append, ih, h x List.mem_cons_self, List.countP_cons]
    by_cases e : x = r
    · simp [e]; omega
    · simp [e]
theorem spreadF_one (c1 : chkSettings L = 0) (hy : chkSet L true none y = 0) : ∀ {N M : List ByteArray} {a : List (List Pair)}, (spreadF L a N).2 = true → (∀ x ∈ a, chkSet L true none x = 0 ∧ rs x M = x) → a.countP (fun z => decide (z = rs y M)) = 1 →
    (∀ n ∈ N, ∃ s, look L n = some s) → N.Nodup → (∀ n ∈ N, n ∉ M) → (∀ x ∈ (spreadF L a N).1, chkSet L true none x = 0 ∧ rs x (M ++ N) = x) ∧ (spreadF L a N).1.countP (fun z => decide (z = rs y (M ++ N))) = 1
  | [], M, a, ok, ha, hc, _, _, _ => by rw [List.append_nil]; exact ⟨ha, hc⟩
  | n :: N, M, a, ok, ha, hc, hl, hnd, hM => by
    obtain ⟨s, hs⟩ := hl n List.mem_cons_self
    obtain ⟨m1, m2⟩ := look_name hs
    obtain ⟨n1, n2⟩ := List.nodup_cons.1 hnd
    have hnM := hM n List.mem_cons_self
    rw [spreadF, hs] at ok ⊢
    dsimp only at ok ⊢
    split at ok
    · cases ok
    rename_i hle
    rw [if_neg hle]
    have hnd2 : s.2.Nodup := (chkVals_ok ((chkSettings_ne c1).2 s m1).2.2).2
    have step : ∀ x ∈ spread1 L n s a, chkSet L true none x = 0 ∧ rs x (M ++ [n]) = x := fun x hx => by
      unfold spread1 at hx
      obtain ⟨z, hz, hx⟩ := List.mem_flatMap.1 hx
      obtain ⟨v, hv, rfl⟩ := List.mem_map.1 hx
      exact ⟨withR_ok c1 (ha z hz).1 hs hv, with_own c1 (ha z hz).1 hs hv (ha z hz).2 hnM⟩
    obtain ⟨v0, hv0⟩ := valOf_some (C := y) c1 hs
    have hv0m : v0 ∈ s.2 := by
      unfold valOf at hv0
      cases hc : look y n with
      | some q =>
        rw [hc] at hv0
        obtain ⟨k1, k2⟩ := look_name hc
        obtain ⟨t, t1, t2, _⟩ := (chkSet_ok hy).1 q k1
        rw [k2, hs] at t1
        cases t1
        cases hv0
        exact t2
      | none =>
        rw [hc, hs] at hv0
        exact List.mem_of_mem_head? hv0
    have hc2 : (spread1 L n s a).countP (fun z => decide (z = rs y (M ++ [n]))) = 1 := by
      rw [count_spread (r := rs y M) fun x hx => ?_, hc]
      have iffs : ∀ v ∈ s.2, withR L x n v = rs y (M ++ [n]) ↔ x = rs y M ∧ valOf L y n = some v := fun v hv => with_rs c1 (ha x hx).1 hy hs hv (ha x hx).2 hnM
      split
      · rename_i e
        refine count_one (v0 := v0) hnd2 hv0m fun v hv => ?_
        rw [iffs v hv, hv0]
        exact ⟨fun q => (Option.some.inj q.2).symm, fun q => ⟨e, by rw [q]⟩⟩
      · rename_i e
        exact count_none fun v hv q => e ((iffs v hv).1 q).1
    have := spreadF_one c1 hy (N := N) (M := M ++ [n]) ok step hc2 (fun m hm => hl m (List.mem_cons_of_mem _ hm)) n2 (fun m hm q => by
      rcases List.mem_append.1 q with q | q
      · exact hM m (List.mem_cons_of_mem _ hm) q
      · rw [List.mem_singleton] at q
        subst q
        exact n1 hm)
    rw [List.append_assoc, List.singleton_append] at this
    exact this
theorem names_srt {N : List ByteArray} : ∀ {prev : Option ByteArray}, chkNames L prev N = 0 → N.Pairwise lt ∧ ∀ m, prev = some m → ∀ n ∈ N, lt m n := by
  induction N with
  | nil => intro prev _; exact ⟨List.Pairwise.nil, fun m _ n hn => by cases hn⟩
  | cons a N ih =>
    intro prev h
    rw [chkNames] at h
    split at h
    · cases h
    split at h
    · cases h
    rename_i h5
    obtain ⟨i1, i2⟩ := ih h
    have hp := notAbove_false h5
    refine ⟨List.pairwise_cons.2 ⟨fun s hs => i2 _ rfl s hs, i1⟩, fun m hm s hs => ?_⟩
    rcases List.mem_cons.1 hs with rfl | hs
    · exact hp m hm
    · exact lt_trans' (hp m hm) (i2 _ rfl s hs)
theorem all_one {N : List ByteArray} {C : List Pair} (h1 : (allAns L N).2 = 0) (h2 : (onlyAns L C N).2 = 0) :
    (∀ x ∈ (allAns L N).1, onlyAns L x N = (x, 0)) ∧ (allAns L N).1.countP (fun z => decide (z = (onlyAns L C N).1)) = 1 := by
  unfold onlyAns at h2
  split at h2
  · rename_i q; exact absurd h2 q
  rename_i q1
  split at h2
  · rename_i q; exact absurd h2 q
  rename_i q2
  have q1 := Decidable.not_not.1 q1
  have q2 := Decidable.not_not.1 q2
  obtain ⟨c1, c2⟩ := chkConfig_ok q1
  have e : (allAns L N).1 = (spreadF L [[]] N).1 ∧ (spreadF L [[]] N).2 = true := by
    unfold allAns at h1 ⊢
    rw [if_neg (by rw [c1]; simp), if_neg (by rw [q2]; simp)] at h1 ⊢
    cases hb : (spreadF L [[]] N).2 with
    | true => rw [if_neg (by simp)]; exact ⟨rfl, rfl⟩
    | false => rw [if_pos hb] at h1; cases h1
  rw [e.1]
  have hnd : N.Nodup := (names_srt q2).1.imp fun h e => by subst e; exact lt_irr _ h
  have hnil : chkSet L true none [] = 0 := rfl
  have start : ([[]] : List (List Pair)).countP (fun z => decide (z = rs C [])) = 1 := by
    have : rs C [] = [] := by unfold rs memB; simp
    rw [this]; rfl
  obtain ⟨k1, k2⟩ := spreadF_one c1 c2 (M := []) e.2 (fun x hx => by rw [List.mem_singleton] at hx; subst hx; exact ⟨hnil, rfl⟩) start (chkNames_look q2) hnd (fun n _ q => by cases q)
  rw [List.nil_append] at k1 k2
  refine ⟨fun x hx => ?_, ?_⟩
  · obtain ⟨x1, x2⟩ := k1 x hx
    have hcf : chkConfig L x = 0 := by unfold chkConfig; rw [if_neg (by rw [c1]; simp)]; exact x1
    unfold onlyAns
    rw [if_neg (by rw [hcf]; simp), if_neg (by rw [q2]; simp)]
    exact congrArg (fun z => (z, (0 : Int))) x2
  · unfold onlyAns
    rw [if_neg (by rw [q1]; simp), if_neg (by rw [q2]; simp)]
    exact k2
end Go.Proofs.YtcbkiipcfdcdgaaGreatDoor.Ev

namespace Go.Proofs.YtcbkiipcfdcdgaaGreatDoor.Ev
open Go Go.RowKit
set_option linter.unusedVariables false
set_option linter.unusedSimpArgs false
variable {ι R α X : Type} {l : ι → Nat}
theorem S105_spec {kk : ι → Nat} (hk : ∀ i, l i ≤ kk i) (L : List ByteArray) (f : ι → ByteArray → Option Bool) (p : ByteArray → Bool) (hf : ∀ a ∈ L, Ult l (fun i => f i a) (p a)) (hL : L.length ≤ 9223372036854775807) : Ult l (fun i => S105 (kk i) (L, f i, ())) (idxF p 0 L) := by
  unfold S105
  exact idx_loop hk L f p hf hL
theorem ige_any (p : ByteArray → Bool) (L : List ByteArray) : ige (idxF p 0 L) 0 = L.any p := by
  rw [ige_eq]
  have h := idxF_neg (p := p) (L := L)
  cases ha : L.any p with
  | true =>
    obtain ⟨x, hx, hp⟩ := List.any_eq_true.1 ha
    refine decide_eq_true ?_
    rcases Int.lt_or_le (idxF p 0 L) 0 with q | q
    · have := List.find?_eq_none.1 (h.1 q) x hx
      exact absurd hp this
    · exact q
  | false =>
    refine decide_eq_false fun q => ?_
    have : L.find? p = none := List.find?_eq_none.2 fun x hx hp => by
      have := List.any_eq_false.1 ha x hx
      exact this hp
    have := h.2 this
    omega
theorem S55_spec {kk : ι → Nat} (hk : ∀ i, l i ≤ kk i) (L : List ByteArray) (f : ι → ByteArray → Option Bool) (p : ByteArray → Bool) (hf : ∀ a ∈ L, Ult l (fun i => f i a) (p a)) (hL : L.length ≤ 9223372036854775807) : Ult l (fun i => S55 (kk i) (L, f i, ())) (L.any p) := by
  unfold S55
  exact Ult.bind (S105_spec hk L f p hf hL) (Ult.ret.eq (ige_any p L))
def setB (S : List Pair) (n : ByteArray) : Bool := (look S n).isSome
theorem S56_spec (x : Transition) (n : ByteArray) (h : x.2.1.length ≤ 9223372036854775807) : Ultk (fun k => S56 k (n, x, ())) (setB x.2.1 n) := by
  unfold S56
  refine Ult.bind (S57_spec x.2.1 n h) (Ult.ret.eq ?_)
  unfold setB lookV
  cases look x.2.1 n <;> rfl
theorem S62_spec (x : Transition) (n : ByteArray) (h : x.2.1.length ≤ 9223372036854775807) : Ultk (fun k => S62 k (x, n, ())) (setB x.2.1 n) := by
  unfold S62
  refine (Ult.forI (fun _ => Nat.le_refl _) x.2.1.length (fun j => setB (x.2.1.drop j) n) fun j hj next => ?_).eq (by rw [List.drop_zero])
  dsimp only
  rw [iltL]
  by_cases hlt' : ¬ j < x.2.1.length
  · refine Ult.no (decide_eq_false hlt') (Ult.ret.eq ?_)
    rw [List.drop_eq_nil_of_le (by omega)]; rfl
  have hlt : j < x.2.1.length := Decidable.not_not.1 hlt'
  refine Ult.yes (decide_eq_true hlt) (Ult.bindc (at?_nat hlt) ?_)
  rw [drop_cons hlt, isucc hlt h]
  have e : setB (x.2.1[j] :: x.2.1.drop (j + 1)) n = if x.2.1[j].1 = n then true else setB (x.2.1.drop (j + 1)) n := by
    unfold setB look
    rw [List.find?_cons]
    by_cases q : x.2.1[j].1 = n
    · rw [decide_eq_true q, if_pos q]; rfl
    · rw [decide_eq_false q, if_neg q]
  rw [e]
  exact Ult.ifS (seq_eq _ _) (fun _ => Ult.ret) (fun _ => next hlt)
def chkTrans (L : List Setting) : Option ByteArray → List Transition → Int
  | _, [] => 0
  | prev, x :: r => if isWord x.1 = false then 5 else if chkSet L false none x.2.1 ≠ 0 then chkSet L false none x.2.1 else if chkNames L none x.2.2 ≠ 0 then chkNames L none x.2.2 else if x.2.2.any (setB x.2.1) = true then 12 else if notAbove prev x.1 = true then 8 else chkTrans L (some x.1) r
def chkTransitions (L : List Setting) (T : List Transition) : Int := if chkSettings L ≠ 0 then chkSettings L else if 50 < T.length then 2 else chkTrans L none T
theorem S13_spec (L : List Setting) (T : List Transition) (hL : SetSz L) (hT : TranSz T) : Ultk (fun k => S13 k (L, T, ())) (chkTransitions L T) := by
  unfold S13 chkTransitions
  have hlen := len_big hT.1 (by omega)
  refine Ult.bind (S51_spec L hL) (Ult.ifS (ine_eq _ _) (fun _ => Ult.ret) fun _ => ?_)
  refine Ult.ifS (by rw [igt_eq]; unfold len; simp only [decide_eq_decide]; omega) (fun _ => Ult.ret) fun h30 => ?_
  refine (Ult.forI (fun _ => Nat.le_refl _) T.length (fun j => chkTrans L (prevOf T j) (T.drop j)) fun j hj next => ?_).eq (by rw [List.drop_zero, prevOf_zero])
  dsimp only
  rw [iltL]
  by_cases hlt' : ¬ j < T.length
  · refine Ult.no (decide_eq_false hlt') (Ult.ret.eq ?_)
    rw [List.drop_eq_nil_of_le (by omega)]
    cases prevOf T j <;> rfl
  have hlt : j < T.length := Decidable.not_not.1 hlt'
  refine Ult.yes (decide_eq_true hlt) (Ult.bindc (at?_nat hlt) ?_)
  obtain ⟨s1, s2, s3⟩ := hT.2 _ (List.getElem_mem hlt)
  have l2 := s2.len
  have l3 := len_big s3.1 (by omega)
  rw [drop_cons hlt, chkTrans, ← prevOf_succ hlt, isucc hlt (by omega)]
  refine Ult.bind (Ult.call (f := fun k => S52 k (T[j].1, ())) (lp_le _ _ fun _ => Nat.le_refl _) (S52_spec T[j].1 (by omega))) (Ult.ifS (not_false_eq _) (fun _ => Ult.ret) fun _ => ?_)
  refine Ult.bind (Ult.call (f := fun k => S53 k (L, T[j].2.1, false, ())) (lp_le _ _ fun _ => Nat.le_refl _) (S53_spec L T[j].2.1 false hL (by omega))) (Ult.ifS (ine_eq _ _) (fun _ => Ult.ret) fun _ => ?_)
  refine Ult.bind (Ult.call (f := fun k => S54 k (L, T[j].2.2, ())) (lp_le _ _ fun _ => Nat.le_refl _) (S54_spec L T[j].2.2 hL s3)) (Ult.ifS (ine_eq _ _) (fun _ => Ult.ret) fun _ => ?_)
  have h55 := S55_spec (l := lp fun k : Nat => k) (kk := fun q => q.1) (lp_le _ _ fun _ => Nat.le_refl _) T[j].2.2 (fun q a => S56 q.1 (a, (T[j].1, T[j].2.1, T[j].2.2), ())) (setB T[j].2.1) (fun a _ => Ult.call (f := fun k => S56 k (a, T[j], ())) (lp_le _ _ fun _ => Nat.le_refl _) (S56_spec T[j] a (by omega))) (by omega)
  refine Ult.bind h55 (Ult.ifS (dec_true _) (fun _ => Ult.ret) fun _ => ?_)
  exact order_stepG hlt (by omega) (next hlt)
theorem S14_spec (L : List Setting) (T : List Transition) (hL : SetSz L) (hT : TranSz T) : Ultk (fun k => S14 k (L, T, ())) (chkTransitions L T) := by
  unfold S14 chkTransitions
  have hlen := len_big hT.1 (by omega)
  refine Ult.bind (S58_spec L hL) (Ult.ifS (ine_eq _ _) (fun _ => Ult.ret) fun _ => ?_)
  refine Ult.ifS (by rw [igt_eq]; unfold len; simp only [decide_eq_decide]; omega) (fun _ => Ult.ret) fun h30 => ?_
  refine (Ult.forI (fun _ => Nat.le_refl _) T.length (fun j => chkTrans L (prevOf T j) (T.drop j)) fun j hj next => ?_).eq (by rw [List.drop_zero, prevOf_zero])
  dsimp only
  rw [iltL]
  by_cases hlt' : ¬ j < T.length
  · refine Ult.no (decide_eq_false hlt') (Ult.ret.eq ?_)
    rw [List.drop_eq_nil_of_le (by omega)]
    cases prevOf T j <;> rfl
  have hlt : j < T.length := Decidable.not_not.1 hlt'
  refine Ult.yes (decide_eq_true hlt) (Ult.bindc (at?_nat hlt) ?_)
  obtain ⟨s1, s2, s3⟩ := hT.2 _ (List.getElem_mem hlt)
  have l2 := s2.len
  have l3 := len_big s3.1 (by omega)
  rw [drop_cons hlt, chkTrans, ← prevOf_succ hlt, isucc hlt (by omega)]
  refine Ult.bind (Ult.call (f := fun k => S59 k (T[j].1, ())) (lp_le _ _ fun _ => Nat.le_refl _) (S59_spec T[j].1 (by omega))) (Ult.ifS (not_false_eq _) (fun _ => Ult.ret) fun _ => ?_)
  refine Ult.bind (Ult.call (f := fun k => S60 k (L, T[j].2.1, ())) (lp_le _ _ fun _ => Nat.le_refl _) (S60_spec L T[j].2.1 hL (by omega))) (Ult.ifS (ine_eq _ _) (fun _ => Ult.ret) fun _ => ?_)
  refine Ult.bind (Ult.call (f := fun k => S61 k (L, T[j].2.2, ())) (lp_le _ _ fun _ => Nat.le_refl _) (S61_spec L T[j].2.2 hL s3)) (Ult.ifS (ine_eq _ _) (fun _ => Ult.ret) fun _ => ?_)
  have c62 : ∀ n : ByteArray, Ult (lp (lp fun k : Nat => k)) (fun q => S62 q.1.1 ((T[j].1, T[j].2.1, T[j].2.2), n, ())) (setB T[j].2.1 n) := fun n => Ult.call (l := lp (lp fun k : Nat => k)) (f := fun k => S62 k ((T[j].1, T[j].2.1, T[j].2.2), n, ())) (k := fun q => q.1.1) (lp_le _ _ (lp_le _ _ fun _ => Nat.le_refl _)) (S62_spec (T[j].1, T[j].2.1, T[j].2.2) n (by show T[j].2.1.length ≤ _; omega))
  generalize hrest : (if notAbove (prevOf T j) T[j].1 = true then (8 : Int) else chkTrans L (prevOf T (j + 1)) (T.drop (j + 1))) = rest
  have hord := order_stepG (e := (8 : Int)) hlt (by omega) (next hlt)
  rw [hrest] at hord
  clear next
  refine (Ult.forI (lp_le _ _ fun _ => Nat.le_refl _) T[j].2.2.length (fun i => if (T[j].2.2.drop i).any (setB T[j].2.1) = true then 12 else rest) fun i hi next2 => ?_).eq (by rw [List.drop_zero])
  rw [iltL]
  by_cases hlu' : ¬ i < T[j].2.2.length
  · refine Ult.no (decide_eq_false hlu') ?_
    rw [List.drop_eq_nil_of_le (by omega), List.any_nil, if_neg (by simp)]
    exact hord.lift
  have hlu : i < T[j].2.2.length := Decidable.not_not.1 hlu'
  refine Ult.yes (decide_eq_true hlu) (Ult.bindc (at?_nat hlu) ?_)
  rw [drop_cons hlu, List.any_cons, isucc hlu (by omega)]
  refine Ult.bind (c62 _) ?_
  cases setB T[j].2.1 T[j].2.2[i]
  · refine Ult.no rfl ?_
    rw [Bool.false_or]
    exact next2 hlu
  · refine Ult.yes rfl (Ult.ret.eq ?_)
    rw [Bool.true_or, if_pos rfl]
end Go.Proofs.YtcbkiipcfdcdgaaGreatDoor.Ev

namespace Go.Proofs.YtcbkiipcfdcdgaaGreatDoor.Ev
open Go Go.RowKit
set_option linter.unusedVariables false
set_option linter.unusedSimpArgs false
variable {ι R α X : Type} {l : ι → Nat}
def withs (L : List Setting) (C : List Pair) (S : List Pair) : List Pair := S.foldl (fun c p => withR L c p.1 p.2) C
def throughAns (L : List Setting) (t : Transition) (C : List Pair) : List (List Pair) × Int := if chkConfig L C ≠ 0 then ([], chkConfig L C) else if chkTransitions L [t] ≠ 0 then ([], chkTransitions L [t]) else if (spreadF L [withs L C t.2.1] t.2.2).2 = false then ([], 2) else ((spreadF L [withs L C t.2.1] t.2.2).1, 0)
theorem trans_one {L : List Setting} {t : Transition} (h : chkTransitions L [t] = 0) : chkSettings L = 0 ∧ isWord t.1 = true ∧ chkSet L false none t.2.1 = 0 ∧ chkNames L none t.2.2 = 0 ∧ t.2.2.any (setB t.2.1) = false := by
  unfold chkTransitions at h
  split at h
  · rename_i q; exact absurd h q
  rename_i q0
  split at h
  · cases h
  rw [chkTrans] at h
  split at h
  · cases h
  rename_i q1
  split at h
  · rename_i q; exact absurd h q
  rename_i q2
  split at h
  · rename_i q; exact absurd h q
  rename_i q3
  split at h
  · cases h
  rename_i q4
  exact ⟨Decidable.not_not.1 q0, by simpa using q1, Decidable.not_not.1 q2, Decidable.not_not.1 q3, by simpa using q4⟩
theorem withs_ok {L : List Setting} (c1 : chkSettings L = 0) : ∀ {S : List Pair} {C : List Pair}, chkSet L true none C = 0 → (∀ p ∈ S, ∃ s, look L p.1 = some s ∧ p.2 ∈ s.2) → chkSet L true none (withs L C S) = 0
  | [], C, hC, _ => hC
  | p :: S, C, hC, h => by
    obtain ⟨s, h1, h2⟩ := h p List.mem_cons_self
    exact withs_ok c1 (C := withR L C p.1 p.2) (withR_ok c1 hC h1 h2) fun q hq => h q (List.mem_cons_of_mem _ hq)
theorem withs_take {L : List Setting} {C S : List Pair} {j : Nat} (h : j < S.length) : withs L C (S.take (j + 1)) = withR L (withs L C (S.take j)) S[j].1 S[j].2 := by
  unfold withs
  rw [List.take_succ_eq_append_getElem h, List.foldl_append]; rfl
theorem sets_look {L : List Setting} {S : List Pair} (h : chkSet L false none S = 0) : ∀ p ∈ S, ∃ s, look L p.1 = some s ∧ p.2 ∈ s.2 := fun p hp => by
  obtain ⟨s, s1, s2, _⟩ := (chkSet_ok h).1 p hp
  exact ⟨s, s1, s2⟩
theorem tranSz_one {t : Transition} (h1 : t.1.size ≤ 140737488351232) (h2 : PairSz t.2.1) (h3 : StrsSz t.2.2) : TranSz [t] := ⟨by simp, fun p hp => by rw [List.mem_singleton] at hp; subst hp; exact ⟨h1, h2, h3⟩⟩
theorem S11_spec (L : List Setting) (t : Transition) (C : List Pair) (hL : SetSz L) (h1 : t.1.size ≤ 140737488351232) (h2 : PairSz t.2.1) (h3 : StrsSz t.2.2) (hC : C.length ≤ 140737488355328) : Ultk (fun k => S11 k (L, t, C, ())) (throughAns L t C) := by
  unfold S11 throughAns
  have l2 := h2.len
  refine Ult.bind (S35_spec L C hL hC) (Ult.ifS (ine_eq _ _) (fun _ => Ult.ret) fun h0 => ?_)
  refine Ult.bind (S13_spec L [t] hL (tranSz_one h1 h2 h3)) (Ult.ifS (ine_eq _ _) (fun _ => Ult.ret) fun h0' => ?_)
  obtain ⟨c1, c2⟩ := chkConfig_ok (Decidable.not_not.1 h0)
  obtain ⟨_, _, t2, t3, _⟩ := trans_one (Decidable.not_not.1 h0')
  have hlk := sets_look t2
  refine Ult.forA (A := List Pair) (fun _ => Nat.le_refl _) t.2.1.length (fun a j => (a, (j : Int))) (fun a j => a = withs L C (t.2.1.take j)) (fun _ _ => if (spreadF L [withs L C t.2.1] t.2.2).2 = false then (([] : List (List Pair)), (2 : Int)) else ((spreadF L [withs L C t.2.1] t.2.2).1, 0)) C (by simp [withs]) fun a j hj ha next => ?_
  subst ha
  dsimp only
  rw [iltL]
  have hok : chkSet L true none (withs L C (t.2.1.take j)) = 0 := withs_ok c1 c2 fun p hp => hlk p (List.mem_of_mem_take hp)
  have h30 := (chkSettings_ne c1).1
  have hlen := cfg_len hok
  by_cases hlt' : ¬ j < t.2.1.length
  · refine Ult.no (decide_eq_false hlt') ?_
    rw [List.take_of_length_le (by omega)] at hok ⊢
    have hlen := cfg_len hok
    have h47 := S47_spec L (withs L C t.2.1) t.2.2 hL (by omega) h3 c1 hok (chkNames_look t3)
    refine Ult.bind (Ult.call (lp_le _ _ fun _ => Nat.le_refl _) h47) ?_
    exact Ult.ifS (not_false_eq _) (fun _ => Ult.ret) (fun _ => Ult.ret)
  have hlt : j < t.2.1.length := Decidable.not_not.1 hlt'
  refine Ult.yes (decide_eq_true hlt) (Ult.bindc (at?_nat hlt) ?_)
  obtain ⟨s, s1, s2⟩ := hlk _ (List.getElem_mem hlt)
  obtain ⟨v0, r0, e0⟩ : ∃ v0 r0, s.2 = v0 :: r0 := by
    cases h : s.2 with
    | nil => rw [h] at s2; cases s2
    | cons a r => exact ⟨a, r, rfl⟩
  have he : s.2.head? = some v0 := by rw [e0]; rfl
  have h46 := S46_spec L (withs L C (t.2.1.take j)) t.2.1[j].1 t.2.1[j].2 v0 hL (by omega) (chkSet_ok hok).2 s1 he
  rw [with_eq c1 hok s1 he] at h46
  refine Ult.bind (Ult.call (lp_le _ _ fun _ => Nat.le_refl _) h46) ?_
  rw [isucc hlt (by omega)]
  exact next _ hlt (withs_take hlt).symm
theorem S12_spec (L : List Setting) (t : Transition) (C : List Pair) (hL : SetSz L) (h1 : t.1.size ≤ 140737488351232) (h2 : PairSz t.2.1) (h3 : StrsSz t.2.2) (hC : C.length ≤ 140737488355328) : Ultk (fun k => S12 k (L, t, C, ())) (throughAns L t C) := by
  unfold S12 throughAns
  have l2 := h2.len
  refine Ult.bind (S48_spec L C hL hC) (Ult.ifS (ine_eq _ _) (fun _ => Ult.ret) fun h0 => ?_)
  refine Ult.bind (S14_spec L [t] hL (tranSz_one h1 h2 h3)) (Ult.ifS (ine_eq _ _) (fun _ => Ult.ret) fun h0' => ?_)
  obtain ⟨c1, c2⟩ := chkConfig_ok (Decidable.not_not.1 h0)
  obtain ⟨_, _, t2, t3, _⟩ := trans_one (Decidable.not_not.1 h0')
  have hlk := sets_look t2
  refine Ult.forA (A := List Pair) (fun _ => Nat.le_refl _) t.2.1.length (fun a j => (a, (j : Int))) (fun a j => a = withs L C (t.2.1.take j)) (fun _ _ => if (spreadF L [withs L C t.2.1] t.2.2).2 = false then (([] : List (List Pair)), (2 : Int)) else ((spreadF L [withs L C t.2.1] t.2.2).1, 0)) C (by simp [withs]) fun a j hj ha next => ?_
  subst ha
  dsimp only
  rw [iltL]
  have hok : chkSet L true none (withs L C (t.2.1.take j)) = 0 := withs_ok c1 c2 fun p hp => hlk p (List.mem_of_mem_take hp)
  have h30 := (chkSettings_ne c1).1
  have hlen := cfg_len hok
  by_cases hlt' : ¬ j < t.2.1.length
  · refine Ult.no (decide_eq_false hlt') ?_
    rw [List.take_of_length_le (by omega)] at hok ⊢
    have h50 := S50_spec L (withs L C t.2.1) t.2.2 hL h3 c1 hok (chkNames_look t3)
    refine Ult.bind (Ult.call (lp_le _ _ fun _ => Nat.le_refl _) h50) ?_
    exact Ult.ifS (not_false_eq _) (fun _ => Ult.ret) (fun _ => Ult.ret)
  have hlt : j < t.2.1.length := Decidable.not_not.1 hlt'
  refine Ult.yes (decide_eq_true hlt) (Ult.bindc (at?_nat hlt) ?_)
  have h49 := S49_spec L (withs L C (t.2.1.take j)) t.2.1[j].1 t.2.1[j].2 hL (by omega) c1
  refine Ult.bind (Ult.call (lp_le _ _ fun _ => Nat.le_refl _) h49) ?_
  rw [isucc hlt (by omega)]
  exact next _ hlt (withs_take hlt).symm
theorem through_ok {L : List Setting} {t : Transition} {C : List Pair} : (throughAns L t C).1.length ≤ 1000 ∧ ∀ x ∈ (throughAns L t C).1, chkSet L true none x = 0 := by
  unfold throughAns
  split
  · exact ⟨Nat.zero_le _, fun x hx => by cases hx⟩
  rename_i h0
  split
  · exact ⟨Nat.zero_le _, fun x hx => by cases hx⟩
  rename_i h0'
  split
  · exact ⟨Nat.zero_le _, fun x hx => by cases hx⟩
  obtain ⟨c1, c2⟩ := chkConfig_ok (Decidable.not_not.1 h0)
  obtain ⟨_, _, t2, t3, _⟩ := trans_one (Decidable.not_not.1 h0')
  exact spreadF_ok c1 (by simp) (fun x hx => by rw [List.mem_singleton] at hx; rw [hx]; exact withs_ok c1 c2 (sets_look t2))
end Go.Proofs.YtcbkiipcfdcdgaaGreatDoor.Ev

namespace Go.Proofs.YtcbkiipcfdcdgaaGreatDoor.Ev
open Go Go.RowKit
set_option linter.unusedVariables false
set_option linter.unusedSimpArgs false
variable {ι R α X : Type} {l : ι → Nat}
theorem pw_ext {α : Type} {R : α → α → Prop} (irr : ∀ a, ¬ R a a) (tr : ∀ a b c, R a b → R b c → R a c) : ∀ {A B : List α}, A.Pairwise R → B.Pairwise R → (∀ p, p ∈ A ↔ p ∈ B) → A = B
  | [], [], _, _, _ => rfl
  | [], b :: B, _, _, h => absurd ((h b).2 (by simp)) (by simp)
  | a :: A, [], _, _, h => absurd ((h a).1 (by simp)) (by simp)
  | a :: A, b :: B, hA, hB, h => by
    obtain ⟨a1, a2⟩ := List.pairwise_cons.1 hA
    obtain ⟨b1, b2⟩ := List.pairwise_cons.1 hB
    have e : a = b := by
      rcases List.mem_cons.1 ((h a).1 (by simp)) with e | e
      · exact e
      rcases List.mem_cons.1 ((h b).2 (by simp)) with e' | e'
      · exact e'.symm
      exact absurd (tr _ _ _ (b1 a e) (a1 b e')) (irr _)
    rw [← e] at b1 h
    rw [pw_ext irr tr a2 b2 fun p => ?_, e]
    have hp := h p
    simp only [List.mem_cons] at hp
    constructor
    · intro q
      rcases hp.1 (.inr q) with e1 | e1
      · rw [e1] at q; exact absurd (a1 a q) (irr _)
      · exact e1
    · intro q
      rcases hp.2 (.inr q) with e1 | e1
      · rw [e1] at q; exact absurd (b1 a q) (irr _)
      · exact e1
theorem names_len {L : List Setting} {N : List ByteArray} (h : chkNames L none N = 0) : N.length ≤ L.length := by
  have hnd : N.Nodup := (names_srt h).1.imp fun h e => by subst e; exact lt_irr _ h
  have := pigeon (A := N) (B := L.map fun s => s.1) hnd fun n hn => by
    obtain ⟨s, hs⟩ := chkNames_look h n hn
    obtain ⟨m1, m2⟩ := look_name hs
    exact List.mem_map.2 ⟨s, m1, m2⟩
  rwa [List.length_map] at this
/-! ### what sorting gives -/
theorem sortStr_ok {l : List ByteArray} (hl : l.length < 4611686018427387904) (hn : l.Nodup) : ∃ m, sortStr l = some m ∧ m.Pairwise lt ∧ ∀ x, x ∈ m ↔ x ∈ l := by
  refine ⟨l.mergeSort fun a b => decide (a.data.toList ≤ b.data.toList), by unfold sortStr; rw [if_pos hl], ?_, fun x => List.mem_mergeSort⟩
  have hs := List.pairwise_mergeSort (le := fun a b : ByteArray => decide (a.data.toList ≤ b.data.toList)) (fun a b c h1 h2 => decide_eq_true (List.le_trans (of_decide_eq_true h1) (of_decide_eq_true h2))) (fun a b => by
    rcases List.le_total a.data.toList b.data.toList with q | q
    · simp [q]
    · simp [q]) l
  have hnd : (l.mergeSort fun a b => decide (a.data.toList ≤ b.data.toList)).Nodup := (List.mergeSort_perm l _).nodup_iff.2 hn
  refine (hs.and hnd).imp fun {a b} h => ?_
  obtain ⟨h1, h2⟩ := h
  rcases List.le_iff_lt_or_eq.1 (of_decide_eq_true h1) with q | q
  · exact q
  · exact absurd (bytes_ext q) h2
instance ltDec (a b : ByteArray) : Decidable (lt a b) := inferInstanceAs (Decidable (a.data.toList < b.data.toList))
theorem ltOf_lt (x y : Pair) : Go.Proofs.ltOf cfName x y = decide (lt x.1 y.1) := by
  rw [ltOf_name, decide_eq_decide]
  unfold lt
  rw [ByteArray.toList_eq, ByteArray.toList_eq]
theorem cf_lt (x y : Pair) : cfName x y < 0 ↔ lt x.1 y.1 := by
  have := ltOf_lt x y
  unfold Go.Proofs.ltOf at this
  simpa using this
theorem sortF_ok {l : List Pair} (hl : l.length < 4611686018427387904) (hn : l.Pairwise fun p q => p.1 ≠ q.1) : ∃ m, sortF cfName l = some m ∧ Srt m ∧ ∀ x, x ∈ m ↔ x ∈ l := by
  have tri : ∀ a b : ByteArray, a ≠ b → lt a b ∨ lt b a := fun a b h => by
    rcases Decidable.em (lt a b) with q | q
    · exact .inl q
    · exact .inr (lt_of q h)
  have hd : l.Pairwise fun a b => cfName a b < 0 ∨ cfName b a < 0 := hn.imp fun {a b} h => by
    rw [cf_lt, cf_lt]
    exact tri _ _ h
  refine ⟨l.mergeSort fun a b => !Go.Proofs.ltOf cfName b a, by unfold sortF; rw [if_pos ⟨hd, hl⟩], ?_, fun x => List.mem_mergeSort⟩
  have hs := List.pairwise_mergeSort (le := fun a b : Pair => !Go.Proofs.ltOf cfName b a) (fun a b c h1 h2 => by
    simp only [Bool.not_eq_true'] at *
    exact swoName.ntrans c b a h2 h1) (fun a b => by
    rw [ltOf_lt, ltOf_lt]
    by_cases q : lt b.1 a.1
    · have : ¬ lt a.1 b.1 := fun q2 => lt_irr _ (lt_trans' q q2)
      simp [this]
    · simp [q]) l
  have hp := List.mergeSort_perm l fun a b => !Go.Proofs.ltOf cfName b a
  have hnd : (l.mergeSort fun a b => !Go.Proofs.ltOf cfName b a).Pairwise fun p q => p.1 ≠ q.1 := hp.symm.pairwise hn fun {a b} h => Ne.symm h
  refine (hs.and hnd).imp fun {a b} h => ?_
  obtain ⟨h1, h2⟩ := h
  rw [ltOf_lt] at h1
  exact lt_of (by simpa using h1) (Ne.symm h2)
/-! ### Then -/
def tSets (t u : Transition) : List Pair := t.2.1.filter fun p => !setB u.2.1 p.1 && !memB u.2.2 p.1
def thenSets (L : List Setting) (t u : Transition) : List Pair := L.flatMap fun s => (u.2.1.filter fun p => decide (p.1 = s.1)) ++ (t.2.1.filter fun p => decide (p.1 = s.1) && (!setB u.2.1 s.1 && !memB u.2.2 s.1))
def thenSplits (L : List Setting) (t u : Transition) : List ByteArray := L.filterMap fun s => if memB t.2.2 s.1 = true ∨ memB u.2.2 s.1 = true then some s.1 else none
def thenAns (L : List Setting) (t u : Transition) : Transition × Int := if chkTransitions L [t] ≠ 0 then ((⟨#[]⟩, [], []), chkTransitions L [t]) else if chkTransitions L [u] ≠ 0 then ((⟨#[]⟩, [], []), chkTransitions L [u]) else if t.2.2.any (fun n => setB u.2.1 n || memB u.2.2 n) = true then ((⟨#[]⟩, [], []), 11) else ((t.1, thenSets L t u, thenSplits L t u), 0)
theorem setB_iff {S : List Pair} {n : ByteArray} : setB S n = true ↔ ∃ p ∈ S, p.1 = n := by
  unfold setB
  constructor
  · intro h
    obtain ⟨p, hp⟩ := Option.isSome_iff_exists.1 h
    exact ⟨p, look_name hp⟩
  · rintro ⟨p, hp, e⟩
    cases hc : look S n with
    | some q => rfl
    | none =>
      unfold look at hc
      rw [List.find?_eq_none] at hc
      exact absurd (hc p hp) (by simp [e])
theorem thenSplits_srt {L : List Setting} (h : L.Pairwise fun s t => lt s.1 t.1) (t u : Transition) : (thenSplits L t u).Pairwise lt := by
  unfold thenSplits
  rw [List.pairwise_filterMap]
  refine h.imp fun {a b} hab x hx y hy => ?_
  split at hx
  · split at hy
    · cases hx; cases hy; exact hab
    · cases hy
  · cases hx
theorem thenSplits_mem {L : List Setting} {t u : Transition} (ht : ∀ n ∈ t.2.2, ∃ s, look L n = some s) (hu : ∀ n ∈ u.2.2, ∃ s, look L n = some s) {n : ByteArray} : n ∈ thenSplits L t u ↔ n ∈ u.2.2 ∨ n ∈ t.2.2 := by
  unfold thenSplits
  rw [List.mem_filterMap]
  constructor
  · rintro ⟨s, hs, h⟩
    split at h
    · rename_i q
      cases h
      rcases q with q | q
      · exact .inr (memB_iff.1 q)
      · exact .inl (memB_iff.1 q)
    · cases h
  · intro h
    have : ∃ s, look L n = some s := by
      rcases h with q | q
      · exact hu n q
      · exact ht n q
    obtain ⟨s, hs⟩ := this
    obtain ⟨m1, m2⟩ := look_name hs
    refine ⟨s, m1, ?_⟩
    rw [m2, if_pos]
    rcases h with q | q
    · exact .inr (memB_iff.2 q)
    · exact .inl (memB_iff.2 q)
theorem thenSets_srt {L : List Setting} (h : L.Pairwise fun s t => lt s.1 t.1) {t u : Transition} (ht : Srt t.2.1) (hu : Srt u.2.1) : Srt (thenSets L t u) := by
  have name : ∀ {s : Setting} {p : Pair}, p ∈ (u.2.1.filter fun p => decide (p.1 = s.1)) ++ (t.2.1.filter fun p => decide (p.1 = s.1) && (!setB u.2.1 s.1 && !memB u.2.2 s.1)) → p.1 = s.1 := fun {s p} hp => by
    rcases List.mem_append.1 hp with q | q
    · simpa using (List.mem_filter.1 q).2
    · have := (List.mem_filter.1 q).2
      rw [Bool.and_eq_true] at this
      simpa using this.1
  unfold Srt thenSets
  rw [List.pairwise_flatMap]
  refine ⟨fun s hs => ?_, h.imp fun {a b} hab x hx y hy => ?_⟩
  · rw [List.pairwise_append]
    refine ⟨List.Pairwise.filter _ hu, List.Pairwise.filter _ ht, fun a ha b hb => ?_⟩
    exfalso
    obtain ⟨a1, a2⟩ := List.mem_filter.1 ha
    have b2 := (List.mem_filter.1 hb).2
    simp only [Bool.and_eq_true, Bool.not_eq_true'] at b2
    have : setB u.2.1 s.1 = true := setB_iff.2 ⟨a, a1, by simpa using a2⟩
    rw [this] at b2
    exact absurd b2.2.1 (by simp)
  · rw [name hx, name hy]; exact hab
theorem thenSets_mem {L : List Setting} {t u : Transition} (ht : ∀ p ∈ t.2.1, ∃ s, look L p.1 = some s) (hu : ∀ p ∈ u.2.1, ∃ s, look L p.1 = some s) {p : Pair} : p ∈ thenSets L t u ↔ p ∈ u.2.1 ++ tSets t u := by
  unfold thenSets tSets
  rw [List.mem_flatMap, List.mem_append, List.mem_filter]
  constructor
  · rintro ⟨s, hs, h⟩
    rcases List.mem_append.1 h with q | q
    · exact .inl (List.mem_filter.1 q).1
    · obtain ⟨q1, q2⟩ := List.mem_filter.1 q
      rw [Bool.and_eq_true] at q2
      have e : p.1 = s.1 := by simpa using q2.1
      exact .inr ⟨q1, by rw [e]; exact q2.2⟩
  · rintro (q | ⟨q1, q2⟩)
    · obtain ⟨s, hs⟩ := hu p q
      obtain ⟨m1, m2⟩ := look_name hs
      exact ⟨s, m1, List.mem_append_left _ (List.mem_filter.2 ⟨q, by simp [m2]⟩)⟩
    · obtain ⟨s, hs⟩ := ht p q1
      obtain ⟨m1, m2⟩ := look_name hs
      refine ⟨s, m1, List.mem_append_right _ (List.mem_filter.2 ⟨q1, ?_⟩)⟩
      rw [m2, decide_eq_true rfl, Bool.true_and]; exact q2
end Go.Proofs.YtcbkiipcfdcdgaaGreatDoor.Ev

namespace Go.Proofs.YtcbkiipcfdcdgaaGreatDoor.Ev
open Go Go.RowKit
set_option linter.unusedVariables false
set_option linter.unusedSimpArgs false
variable {ι R α X : Type} {l : ι → Nat}
theorem lookV_setB (S : List Pair) (n : ByteArray) : (lookV S n).2 = setB S n := by
  unfold lookV setB
  cases look S n <;> rfl
theorem tSets_take {t u : Transition} {j : Nat} (h : j < t.2.1.length) : ((t.2.1.take (j + 1)).filter fun p => !setB u.2.1 p.1 && !memB u.2.2 p.1) = ((t.2.1.take j).filter fun p => !setB u.2.1 p.1 && !memB u.2.2 p.1) ++ (if (!setB u.2.1 t.2.1[j].1 && !memB u.2.2 t.2.1[j].1) = true then [t.2.1[j]] else []) := by
  rw [List.take_succ_eq_append_getElem h, List.filter_append, List.filter_cons, List.filter_nil]
theorem S16_spec (L : List Setting) (t u : Transition) (hL : SetSz L) (h1 : t.1.size ≤ 140737488351232) (h2 : PairSz t.2.1) (h3 : StrsSz t.2.2) (g1 : u.1.size ≤ 140737488351232) (g2 : PairSz u.2.1) (g3 : StrsSz u.2.2) : Ultk (fun k => S16 k (L, t, u, ())) (thenAns L t u) := by
  unfold S16 thenAns
  have l2 := h2.len
  have l3 := len_big h3.1 (by omega)
  have m2 := g2.len
  have m3 := len_big g3.1 (by omega)
  refine Ult.bind (S13_spec L [t] hL (tranSz_one h1 h2 h3)) (Ult.ifS (ine_eq _ _) (fun _ => Ult.ret) fun h0 => ?_)
  refine Ult.bind (S13_spec L [u] hL (tranSz_one g1 g2 g3)) (Ult.ifS (ine_eq _ _) (fun _ => Ult.ret) fun h0' => ?_)
  obtain ⟨c1, _, t2, t3, t4⟩ := trans_one (Decidable.not_not.1 h0)
  obtain ⟨_, _, u2, u3, u4⟩ := trans_one (Decidable.not_not.1 h0')
  have h30 := (chkSettings_ne c1).1
  have lt2 := cfg_len t2
  have lu2 := cfg_len u2
  have lt3 := names_len t3
  have lu3 := names_len u3
  have hs := settings_srt c1
  have st2 := (chkSet_ok t2).2
  have su2 := (chkSet_ok u2).2
  have kt2 : ∀ p ∈ t.2.1, ∃ s, look L p.1 = some s := fun p hp => by
    obtain ⟨s, q, _⟩ := sets_look t2 p hp; exact ⟨s, q⟩
  have ku2 : ∀ p ∈ u.2.1, ∃ s, look L p.1 = some s := fun p hp => by
    obtain ⟨s, q, _⟩ := sets_look u2 p hp; exact ⟨s, q⟩
  refine Ult.bind (S10_spec u.2.1 (by have := g2.1; omega)) (Ult.bind (S45_spec u.2.2 (by have := g3.1; omega)) ?_)
  generalize hfin : ((t.1, thenSets L t u, thenSplits L t u), (0 : Int)) = fin
  refine (Ult.forA (A := List ByteArray) (fun _ => Nat.le_refl _) t.2.2.length (fun a j => ((j : Int), (⟨#[]⟩ : ByteArray), ([] : List Pair), ([] : List ByteArray), t.1, u.2.1, a)) (fun a j => a = u.2.2 ++ t.2.2.take j ∧ (t.2.2.take j).any (fun n => setB u.2.1 n || memB u.2.2 n) = false) (fun _ j => if (t.2.2.drop j).any (fun n => setB u.2.1 n || memB u.2.2 n) = true then (((⟨#[]⟩ : ByteArray), ([] : List Pair), ([] : List ByteArray)), (11 : Int)) else fin) u.2.2 ⟨by simp, by simp⟩ fun a j hj ha next => ?_).eq (by rw [List.drop_zero])
  obtain ⟨ha, hnone⟩ := ha
  subst ha
  dsimp only
  rw [iltL]
  by_cases hlt' : ¬ j < t.2.2.length
  · refine Ult.no (decide_eq_false hlt') ?_
    rw [List.drop_eq_nil_of_le (by omega), List.any_nil, if_neg (by simp), List.take_of_length_le (by omega)]
    rw [List.take_of_length_le (by omega)] at hnone
    refine Ult.forA (A := List Pair) (lp_le _ _ fun _ => Nat.le_refl _) t.2.1.length (fun a j => ((j : Int), t.1, a, u.2.2 ++ t.2.2)) (fun a j => a = u.2.1 ++ (t.2.1.take j).filter fun p => !setB u.2.1 p.1 && !memB u.2.2 p.1) (fun _ _ => fin) u.2.1 (by simp) fun a i hi ha next2 => ?_
    subst ha
    dsimp only
    rw [iltL]
    have hfl : ((t.2.1.take i).filter fun p => !setB u.2.1 p.1 && !memB u.2.2 p.1).length ≤ t.2.1.length := Nat.le_trans (List.length_filter_le _ _) (by rw [List.length_take]; omega)
    by_cases hlu' : ¬ i < t.2.1.length
    · refine Ult.no (decide_eq_false hlu') ?_
      rw [List.take_of_length_le (by omega)] at hfl ⊢
      -- the sorts
      have nd : (u.2.2 ++ t.2.2).Nodup := by
        rw [List.nodup_append]
        refine ⟨(names_srt u3).1.imp fun h e => by subst e; exact lt_irr _ h, (names_srt t3).1.imp fun h e => by subst e; exact lt_irr _ h, fun x hx y hy e => ?_⟩
        subst e
        have := List.any_eq_false.1 hnone x hy
        rw [memB_iff.2 hx] at this
        simp at this
      obtain ⟨ms, e1, e2, e3⟩ := sortStr_ok (l := u.2.2 ++ t.2.2) (by rw [List.length_append]; omega) nd
      have hms : ms = thenSplits L t u := pw_ext lt_irr (fun _ _ _ => lt_trans') e2 (thenSplits_srt hs t u) fun x => by
        rw [e3, List.mem_append, thenSplits_mem (chkNames_look t3) (chkNames_look u3)]
      have np : (u.2.1 ++ tSets t u).Pairwise fun p q => p.1 ≠ q.1 := by
        rw [List.pairwise_append]
        refine ⟨su2.imp fun h e => by rw [e] at h; exact lt_irr _ h, (List.Pairwise.filter _ st2).imp fun h e => by rw [e] at h; exact lt_irr _ h, fun a ha b hb e => ?_⟩
        have hb2 := (List.mem_filter.1 hb).2
        simp only [Bool.and_eq_true, Bool.not_eq_true'] at hb2
        rw [setB_iff.2 ⟨a, ha, e⟩] at hb2
        exact absurd hb2.1 (by simp)
      have hts : (u.2.1 ++ tSets t u).length ≤ 60 := by rw [List.length_append]; unfold tSets; omega
      obtain ⟨mp, f1, f2, f3⟩ := sortF_ok (l := u.2.1 ++ tSets t u) (by omega) np
      have hmp : mp = thenSets L t u := srt_ext f2 (thenSets_srt hs st2 su2) fun x => by
        rw [f3, thenSets_mem kt2 ku2]
      have s64 : Ultk (fun k => S64 k (u.2.2 ++ t.2.2) []) ms := ⟨0, fun k _ => e1⟩
      have s65 : Ultk (fun k => S65 k (u.2.1 ++ tSets t u) [66]) mp := ⟨0, fun k _ => f1⟩
      refine Ult.bind (Ult.call (l := lp (lp fun k : Nat => k)) (k := fun q => q.1.1) (lp_le _ _ (lp_le _ _ fun _ => Nat.le_refl _)) s64) (Ult.bind (Ult.call (l := lp (lp fun k : Nat => k)) (k := fun q => q.1.1) (lp_le _ _ (lp_le _ _ fun _ => Nat.le_refl _)) s65) (Ult.ret.eq ?_))
      rw [← hfin, hms, hmp]
    have hlu : i < t.2.1.length := Decidable.not_not.1 hlu'
    refine Ult.yes (decide_eq_true hlu) (Ult.bindc (at?_nat hlu) ?_)
    refine Ult.bind (Ult.call (f := fun k => S57 k (u.2.1, t.2.1[i].1, ())) (l := lp (lp fun k : Nat => k)) (k := fun q => q.1.1) (lp_le _ _ (lp_le _ _ fun _ => Nat.le_refl _)) (S57_spec u.2.1 t.2.1[i].1 (by omega))) ?_
    rw [lookV_setB, isucc hlu (by omega)]
    have hn := tSets_take (t := t) (u := u) hlu
    cases hsb : setB u.2.1 t.2.1[i].1
    · refine Ult.yes rfl (Ult.bind (Ult.call (f := fun k => S63 k (u.2.2, t.2.1[i].1, ())) (l := lp (lp fun k : Nat => k)) (k := fun q => q.1.1) (lp_le _ _ (lp_le _ _ fun _ => Nat.le_refl _)) (S63_spec u.2.2 t.2.1[i].1 (by omega))) ?_)
      cases hmb : memB u.2.2 t.2.1[i].1
      · refine Ult.yes rfl (Ult.bindc (app?_ok (by rw [List.length_append]; show (_ + _ + 1) * 32 ≤ _; omega)) ?_)
        rw [hsb, hmb, if_pos (by rfl)] at hn
        exact next2 _ hlu (by rw [hn, List.append_assoc])
      · refine Ult.no rfl ?_
        rw [hsb, hmb, if_neg (by simp), List.append_nil] at hn
        exact next2 _ hlu (by rw [hn])
    · refine Ult.no rfl ?_
      rw [hsb, if_neg (by simp), List.append_nil] at hn
      exact next2 _ hlu (by rw [hn])
  have hlt : j < t.2.2.length := Decidable.not_not.1 hlt'
  refine Ult.yes (decide_eq_true hlt) (Ult.bindc (at?_nat hlt) ?_)
  rw [drop_cons hlt, List.any_cons]
  refine Ult.bind (Ult.call (f := fun k => S57 k (u.2.1, t.2.2[j], ())) (lp_le _ _ fun _ => Nat.le_refl _) (S57_spec u.2.1 t.2.2[j] (by omega))) ?_
  rw [lookV_setB, isucc hlt (by omega)]
  cases hsb : setB u.2.1 t.2.2[j]
  · refine Ult.no rfl (Ult.bind (Ult.call (f := fun k => S63 k (u.2.2, t.2.2[j], ())) (lp_le _ _ fun _ => Nat.le_refl _) (S63_spec u.2.2 t.2.2[j] (by omega))) ?_)
    cases hmb : memB u.2.2 t.2.2[j]
    · refine Ult.no rfl (Ult.bindc (app?_ok (by rw [List.length_append, List.length_take]; show (_ + _ + 1) * 16 ≤ _; omega)) ?_)
      rw [Bool.false_or, Bool.false_or]
      refine next _ hlt ⟨?_, ?_⟩
      · rw [List.take_succ_eq_append_getElem hlt, List.append_assoc]
      · rw [List.take_succ_eq_append_getElem hlt, List.any_append, hnone, List.any_cons, hsb, hmb]; rfl
    · refine Ult.yes rfl (Ult.ret.eq ?_)
      rw [Bool.false_or, Bool.true_or, if_pos rfl]
  · refine Ult.yes rfl (Ult.ret.eq ?_)
    rw [Bool.true_or, Bool.true_or, if_pos rfl]
end Go.Proofs.YtcbkiipcfdcdgaaGreatDoor.Ev

namespace Go.Proofs.YtcbkiipcfdcdgaaGreatDoor.Ev
open Go Go.RowKit
set_option linter.unusedVariables false
set_option linter.unusedSimpArgs false
variable {ι R α X : Type} {l : ι → Nat}
/-- a loop that puts some of a list's pairs behind others -/
theorem some_loop {kk : ι → Nat} (hk : ∀ i, l i ≤ kk i) (S : List Pair) (p : Pair → Bool) (hS : S.length ≤ 30) {γ δ : Type} (nm : γ) (sp : δ) (acc : List Pair) (hacc : acc.length ≤ 100000)
    {st : ι → ((Int × γ × List Pair × δ) → Option R) → (Int × γ × List Pair × δ) → Option R} {r : R}
    (hbody : ∀ (a : List Pair) (j : Nat) (hj : j < S.length), a.length ≤ 100030 → ∀ {r' : R}, Ult (lp l) (fun q => loopN q.2 (st q.1) (((j + 1 : Nat) : Int), nm, (if p S[j] = true then a ++ [S[j]] else a), sp)) r' → Ult (lp l) (fun q => st q.1 (loopN q.2 (st q.1)) ((j : Int), nm, a, sp)) r')
    (hend : Ult (lp l) (fun q => st q.1 (loopN q.2 (st q.1)) ((S.length : Int), nm, acc ++ S.filter p, sp)) r) :
    Ult l (fun i => loopN (kk i) (st i) (0, nm, acc, sp)) r := by
  refine Ult.forA (A := List Pair) hk S.length (fun a j => ((j : Int), nm, a, sp)) (fun a j => a = acc ++ (S.take j).filter p) (fun _ _ => r) acc (by simp) fun a j hj ha next => ?_
  subst ha
  by_cases hlt' : ¬ j < S.length
  · have : j = S.length := by omega
    subst this
    rw [List.take_length]
    exact hend
  have hlt : j < S.length := Decidable.not_not.1 hlt'
  have hfl : ((S.take j).filter p).length ≤ S.length := Nat.le_trans (List.length_filter_le _ _) (by rw [List.length_take]; omega)
  refine hbody _ j hlt (by rw [List.length_append]; omega) ?_
  have hn : acc ++ (S.take (j + 1)).filter p = if p S[j] = true then (acc ++ (S.take j).filter p) ++ [S[j]] else acc ++ (S.take j).filter p := by
    rw [List.take_succ_eq_append_getElem hlt, List.filter_append, List.filter_cons, List.filter_nil]
    split
    · rw [List.append_assoc]
    · rw [List.append_nil]
  exact next _ hlt hn.symm
theorem thenSets_take {L : List Setting} {t u : Transition} {j : Nat} (h : j < L.length) : thenSets (L.take (j + 1)) t u = thenSets (L.take j) t u ++ (u.2.1.filter fun p => decide (p.1 = L[j].1)) ++ (t.2.1.filter fun p => decide (p.1 = L[j].1) && (!setB u.2.1 L[j].1 && !memB u.2.2 L[j].1)) := by
  unfold thenSets
  rw [List.take_succ_eq_append_getElem h, List.flatMap_append, List.flatMap_cons, List.flatMap_nil, List.append_nil, List.append_assoc]
theorem thenSplits_take {L : List Setting} {t u : Transition} {j : Nat} (h : j < L.length) : thenSplits (L.take (j + 1)) t u = thenSplits (L.take j) t u ++ (if memB t.2.2 L[j].1 = true ∨ memB u.2.2 L[j].1 = true then [L[j].1] else []) := by
  unfold thenSplits
  rw [List.take_succ_eq_append_getElem h, List.filterMap_append, List.filterMap_cons, List.filterMap_nil]
  split
  · rename_i e
    split at e
    · cases e
    · rename_i q; rw [if_neg q]
  · rename_i x e
    split at e
    · rename_i q; cases e; rw [if_pos q]
    · cases e
theorem thenSets_len {t u : Transition} (h1 : t.2.1.length ≤ 30) (h2 : u.2.1.length ≤ 30) : ∀ {L : List Setting}, (thenSets L t u).length ≤ L.length * 60
  | [] => by simp [thenSets]
  | s :: L => by
    have ih := thenSets_len h1 h2 (L := L)
    unfold thenSets at ih ⊢
    rw [List.flatMap_cons, List.length_append, List.length_append, List.length_cons]
    have a1 := List.length_filter_le (fun p : Pair => decide (p.1 = s.1)) u.2.1
    have a2 := List.length_filter_le (fun p : Pair => decide (p.1 = s.1) && (!setB u.2.1 s.1 && !memB u.2.2 s.1)) t.2.1
    omega
theorem S17_spec (L : List Setting) (t u : Transition) (hL : SetSz L) (h1 : t.1.size ≤ 140737488351232) (h2 : PairSz t.2.1) (h3 : StrsSz t.2.2) (g1 : u.1.size ≤ 140737488351232) (g2 : PairSz u.2.1) (g3 : StrsSz u.2.2) : Ultk (fun k => S17 k (L, t, u, ())) (thenAns L t u) := by
  unfold S17 thenAns
  have l2 := h2.len
  have l3 := len_big h3.1 (by omega)
  have m2 := g2.len
  have m3 := len_big g3.1 (by omega)
  refine Ult.bind (S14_spec L [t] hL (tranSz_one h1 h2 h3)) (Ult.ifS (ine_eq _ _) (fun _ => Ult.ret) fun h0 => ?_)
  refine Ult.bind (S14_spec L [u] hL (tranSz_one g1 g2 g3)) (Ult.ifS (ine_eq _ _) (fun _ => Ult.ret) fun h0' => ?_)
  obtain ⟨c1, _, t2, t3, t4⟩ := trans_one (Decidable.not_not.1 h0)
  obtain ⟨_, _, u2, u3, u4⟩ := trans_one (Decidable.not_not.1 h0')
  have h30 := (chkSettings_ne c1).1
  have lt2 := cfg_len t2
  have lu2 := cfg_len u2
  generalize hfin : ((t.1, thenSets L t u, thenSplits L t u), (0 : Int)) = fin
  refine (Ult.forA (A := Unit) (fun _ => Nat.le_refl _) t.2.2.length (fun _ j => ((j : Int), (⟨#[]⟩ : ByteArray), ([] : List Pair), ([] : List ByteArray))) (fun _ _ => True) (fun _ j => if (t.2.2.drop j).any (fun n => setB u.2.1 n || memB u.2.2 n) = true then (((⟨#[]⟩ : ByteArray), ([] : List Pair), ([] : List ByteArray)), (11 : Int)) else fin) () trivial fun _ j hj _ next => ?_).eq (by rw [List.drop_zero])
  dsimp only
  rw [iltL]
  by_cases hlt' : ¬ j < t.2.2.length
  · refine Ult.no (decide_eq_false hlt') ?_
    rw [List.drop_eq_nil_of_le (by omega), List.any_nil, if_neg (by simp)]
    refine Ult.forA (A := List Pair × List ByteArray) (lp_le _ _ fun _ => Nat.le_refl _) L.length (fun a j => ((j : Int), t.1, a.1, a.2)) (fun a j => a = (thenSets (L.take j) t u, thenSplits (L.take j) t u)) (fun _ _ => fin) ([], []) (by simp [thenSets, thenSplits]) fun a i hi ha next2 => ?_
    subst ha
    dsimp only
    rw [iltL]
    have hlenS := thenSets_len (t := t) (u := u) (L := L.take i) (by omega) (by omega)
    rw [List.length_take] at hlenS
    have hlenN : (thenSplits (L.take i) t u).length ≤ 30 := Nat.le_trans (List.length_filterMap_le _ _) (by rw [List.length_take]; omega)
    by_cases hlu' : ¬ i < L.length
    · refine Ult.no (decide_eq_false hlu') (Ult.ret.eq ?_)
      rw [List.take_of_length_le (by omega)]; exact hfin
    have hlu : i < L.length := Decidable.not_not.1 hlu'
    refine Ult.yes (decide_eq_true hlu) (Ult.bindc (at?_nat hlu) ?_)
    have hb1 : (thenSets (L.take i) t u).length ≤ 2000 := by omega
    refine some_loop (lp_le _ _ (lp_le _ _ fun _ => Nat.le_refl _)) u.2.1 (fun p => decide (p.1 = L[i].1)) (by omega) t.1 (thenSplits (L.take i) t u) (thenSets (L.take i) t u) (by omega) (fun a j hj ha {r'} hn => ?_) ?_
    · dsimp only
      rw [iltL]
      refine Ult.yes (decide_eq_true hj) (Ult.bindc (at?_nat hj) ?_)
      rw [isucc hj (by omega)]
      by_cases e : u.2.1[j].1 = L[i].1
      · rw [if_pos (decide_eq_true e)] at hn
        refine Ult.yes (by rw [seq_eq]; exact decide_eq_true e) (Ult.bindc (app?_ok (by show (_ + 1) * 32 ≤ _; omega)) ?_)
        exact hn
      · rw [if_neg (by simpa using e)] at hn
        exact Ult.no (by rw [seq_eq]; exact decide_eq_false e) hn
    dsimp only
    refine Ult.no (by rw [iltL]; simp) ?_
    have hf1 := List.length_filter_le (fun p : Pair => decide (p.1 = L[i].1)) u.2.1
    refine some_loop (l := lp (lp (lp fun k : Nat => k))) (lp_le _ _ (lp_le _ _ (lp_le _ _ fun _ => Nat.le_refl _))) t.2.1 (fun p => decide (p.1 = L[i].1) && (!setB u.2.1 L[i].1 && !memB u.2.2 L[i].1)) (by omega) t.1 (thenSplits (L.take i) t u) (thenSets (L.take i) t u ++ u.2.1.filter fun p => decide (p.1 = L[i].1)) (by rw [List.length_append]; omega) (fun a j hj ha {r'} hn => ?_) ?_
    · dsimp only
      rw [iltL]
      refine Ult.yes (decide_eq_true hj) (Ult.bindc (at?_nat hj) ?_)
      rw [isucc hj (by omega)]
      have c62 := Ult.call (l := lp (lp (lp (lp fun k : Nat => k)))) (f := fun k => S62 k ((u.1, u.2.1, u.2.2), L[i].1, ())) (k := fun q => q.1.1.1.1) (lp_le _ _ (lp_le _ _ (lp_le _ _ (lp_le _ _ fun _ => Nat.le_refl _)))) (S62_spec (u.1, u.2.1, u.2.2) L[i].1 (by show u.2.1.length ≤ _; omega))
      have c63 := Ult.call (l := lp (lp (lp (lp fun k : Nat => k)))) (f := fun k => S63 k (u.2.2, L[i].1, ())) (k := fun q => q.1.1.1.1) (lp_le _ _ (lp_le _ _ (lp_le _ _ (lp_le _ _ fun _ => Nat.le_refl _)))) (S63_spec u.2.2 L[i].1 (by omega))
      refine Ult.jn ?_
      by_cases e : t.2.1[j].1 = L[i].1
      · refine Ult.yes (by rw [seq_eq]; exact decide_eq_true e) (Ult.bind c62 ?_)
        show Ult _ (fun q => cnd (bnot (setB u.2.1 L[i].1)) _ _) _
        cases hsb : setB u.2.1 L[i].1
        · refine Ult.yes (by rfl) (Ult.bind c63 ?_)
          cases hmb : memB u.2.2 L[i].1
          · rw [hsb, hmb, decide_eq_true e, if_pos (by rfl)] at hn
            exact Ult.yes (by rfl) (Ult.bindc (app?_ok (by show (_ + 1) * 32 ≤ _; omega)) hn)
          · rw [hsb, hmb, decide_eq_true e, if_neg (by simp)] at hn
            exact Ult.no (by rfl) hn
        · rw [hsb, decide_eq_true e, if_neg (by simp)] at hn
          exact Ult.no (by rfl) (Ult.no (by rfl) hn)
      · rw [decide_eq_false e, if_neg (by simp)] at hn
        exact Ult.no (by rw [seq_eq]; exact decide_eq_false e) (Ult.no (by rfl) hn)
    dsimp only
    refine Ult.no (by rw [iltL]; simp) ?_
    have q4 : ∀ q : (((Nat × Nat) × Nat) × Nat) × Nat, lp (lp (lp (lp fun k : Nat => k))) q ≤ q.1.1.1.1 := lp_le _ _ (lp_le _ _ (lp_le _ _ (lp_le _ _ fun _ => Nat.le_refl _)))
    have ht3 := Ult.call (l := lp (lp (lp (lp fun k : Nat => k)))) (f := fun k => S63 k (t.2.2, L[i].1, ())) (k := fun q => q.1.1.1.1) q4 (S63_spec t.2.2 L[i].1 (by omega))
    have hu3 := Ult.call (l := lp (lp (lp (lp fun k : Nat => k)))) (f := fun k => S63 k (u.2.2, L[i].1, ())) (k := fun q => q.1.1.1.1) q4 (S63_spec u.2.2 L[i].1 (by omega))
    have e1 := thenSets_take (t := t) (u := u) hlu
    have e2 := thenSplits_take (t := t) (u := u) hlu
    have nx := next2 _ hlu rfl
    rw [e1, e2] at nx
    have nx := nx.lift.lift
    rw [isucc hlu (by omega)]
    refine Ult.bind ht3 ?_
    cases hmt : memB t.2.2 L[i].1
    · refine Ult.no rfl (Ult.bind hu3 ?_)
      cases hmu : memB u.2.2 L[i].1
      · refine Ult.no rfl ?_
        rw [hmt, hmu, if_neg (by simp), List.append_nil] at nx
        exact nx
      · refine Ult.yes rfl (Ult.bindc (app?_ok (by show (_ + 1) * 16 ≤ _; omega)) ?_)
        rw [hmt, hmu, if_pos (.inr rfl)] at nx
        exact nx
    · refine Ult.yes rfl (Ult.bindc (app?_ok (by show (_ + 1) * 16 ≤ _; omega)) ?_)
      rw [hmt, if_pos (.inl rfl)] at nx
      exact nx
  have hlt : j < t.2.2.length := Decidable.not_not.1 hlt'
  refine Ult.yes (decide_eq_true hlt) (Ult.bindc (at?_nat hlt) ?_)
  rw [drop_cons hlt, List.any_cons]
  refine Ult.bind (Ult.call (l := lp fun k : Nat => k) (f := fun k => S63 k (u.2.2, t.2.2[j], ())) (lp_le _ _ fun _ => Nat.le_refl _) (S63_spec u.2.2 t.2.2[j] (by omega))) ?_
  rw [isucc hlt (by omega)]
  cases hmb : memB u.2.2 t.2.2[j]
  · refine Ult.no rfl (Ult.bind (Ult.call (l := lp fun k : Nat => k) (f := fun k => S62 k ((u.1, u.2.1, u.2.2), t.2.2[j], ())) (lp_le _ _ fun _ => Nat.le_refl _) (S62_spec (u.1, u.2.1, u.2.2) t.2.2[j] (by show u.2.1.length ≤ _; omega))) ?_)
    show Ult _ (fun q => cnd (setB u.2.1 t.2.2[j]) _ _) _
    cases hsb : setB u.2.1 t.2.2[j]
    · refine Ult.no rfl ?_
      rw [Bool.or_false, Bool.false_or]
      exact next () hlt trivial
    · refine Ult.yes rfl (Ult.ret.eq ?_)
      rw [Bool.true_or, Bool.true_or, if_pos rfl]
  · refine Ult.yes rfl (Ult.ret.eq ?_)
    rw [Bool.or_true, Bool.true_or, if_pos rfl]
end Go.Proofs.YtcbkiipcfdcdgaaGreatDoor.Ev

namespace Go.Proofs.YtcbkiipcfdcdgaaGreatDoor.Ev
open Go Go.RowKit
set_option linter.unusedVariables false
set_option linter.unusedSimpArgs false
variable {ι R α X : Type} {l : ι → Nat}
variable {L : List Setting} {x y : List Pair} {n v : ByteArray} {s : Setting} {M : List ByteArray}
/-- the same values but for some settings -/
def Agree (L : List Setting) (N : List ByteArray) (y x : List Pair) : Prop := ∀ s ∈ L, s.1 ∉ N → valOf L y s.1 = valOf L x s.1
theorem val_mem (c1 : chkSettings L = 0) (hy : chkSet L true none y = 0) {s : Setting} (hs : s ∈ L) : ∃ v, valOf L y s.1 = some v ∧ v ∈ s.2 := by
  have hl := look_self (settings_srt c1) hs
  obtain ⟨v, hv⟩ := valOf_some (C := y) c1 hl
  refine ⟨v, hv, ?_⟩
  unfold valOf at hv
  cases hc : look y s.1 with
  | some q =>
    rw [hc] at hv
    obtain ⟨k1, k2⟩ := look_name hc
    obtain ⟨t, t1, t2, _⟩ := (chkSet_ok hy).1 q k1
    rw [k2, hl] at t1
    cases t1
    cases hv
    exact t2
  | none =>
    rw [hc, hl] at hv
    exact List.mem_of_mem_head? hv
theorem spreadF_mem (c1 : chkSettings L = 0) (hy : chkSet L true none y = 0) : ∀ {N : List ByteArray} {a : List (List Pair)}, (spreadF L a N).2 = true → (∀ x ∈ a, chkSet L true none x = 0) → (∀ n ∈ N, ∃ s, look L n = some s) →
    (y ∈ (spreadF L a N).1 ↔ ∃ x ∈ a, Agree L N y x)
  | [], a, _, ha, _ => by
    constructor
    · intro h; exact ⟨y, h, fun _ _ _ => rfl⟩
    · rintro ⟨x, hx, h⟩
      rw [cfg_ext hy (ha x hx) fun s hs => h s hs (by simp)]
      exact hx
  | n :: N, a, ok, ha, hl => by
    obtain ⟨s, hs⟩ := hl n List.mem_cons_self
    obtain ⟨m1, m2⟩ := look_name hs
    rw [spreadF, hs] at ok ⊢
    dsimp only at ok ⊢
    split at ok
    · cases ok
    rename_i hle
    rw [if_neg hle]
    rw [spreadF_mem c1 hy ok (spread1_ok c1 hs ha) fun m hm => hl m (List.mem_cons_of_mem _ hm)]
    constructor
    · rintro ⟨z, hz, h⟩
      unfold spread1 at hz
      obtain ⟨x, hx, hz⟩ := List.mem_flatMap.1 hz
      obtain ⟨v, hv, rfl⟩ := List.mem_map.1 hz
      refine ⟨x, hx, fun t ht hn => ?_⟩
      have hn1 : t.1 ≠ n := fun e => hn (by simp [e])
      rw [h t ht fun q => hn (List.mem_cons_of_mem _ q), withV c1 (ha x hx) ht, if_neg hn1]
    · rintro ⟨x, hx, h⟩
      obtain ⟨v, hv, hvm⟩ := val_mem c1 hy m1
      refine ⟨withR L x n v, ?_, fun t ht hn => ?_⟩
      · unfold spread1
        exact List.mem_flatMap.2 ⟨x, hx, List.mem_map.2 ⟨v, hvm, rfl⟩⟩
      · rw [withV c1 (ha x hx) ht]
        by_cases e : t.1 = n
        · rw [if_pos e, e, ← m2, hv]
        · rw [if_neg e]
          exact h t ht fun q => by
            rcases List.mem_cons.1 q with q | q
            · exact e q
            · exact hn q
theorem spreadF_nodup (c1 : chkSettings L = 0) : ∀ {N : List ByteArray} {a : List (List Pair)}, (spreadF L a N).2 = true → (∀ x ∈ a, chkSet L true none x = 0) → (∀ n ∈ N, ∃ s, look L n = some s) → N.Nodup →
    a.Pairwise (fun x x' => ∃ s ∈ L, s.1 ∉ N ∧ valOf L x s.1 ≠ valOf L x' s.1) → (spreadF L a N).1.Nodup
  | [], a, _, ha, _, _, hp => by
    refine hp.imp fun {x x'} h e => ?_
    obtain ⟨s, _, _, h⟩ := h
    exact h (by rw [e])
  | n :: N, a, ok, ha, hl, hnd, hp => by
    obtain ⟨s, hs⟩ := hl n List.mem_cons_self
    obtain ⟨m1, m2⟩ := look_name hs
    obtain ⟨n1, n2⟩ := List.nodup_cons.1 hnd
    rw [spreadF, hs] at ok ⊢
    dsimp only at ok ⊢
    split at ok
    · cases ok
    rename_i hle
    rw [if_neg hle]
    refine spreadF_nodup c1 ok (spread1_ok c1 hs ha) (fun m hm => hl m (List.mem_cons_of_mem _ hm)) n2 ?_
    unfold spread1
    rw [List.pairwise_flatMap]
    refine ⟨fun x hx => ?_, ?_⟩
    · rw [List.pairwise_map]
      have hnd2 : s.2.Nodup := (chkVals_ok ((chkSettings_ne c1).2 s m1).2.2).2
      refine hnd2.imp fun {v v'} hv => ⟨s, m1, by rw [m2]; exact n1, ?_⟩
      rw [withV c1 (ha x hx) m1, withV c1 (ha x hx) m1, if_pos m2, if_pos m2]
      exact fun e => hv (Option.some.inj e)
    · refine hp.imp_of_mem fun {x x'} hx hx' h z hz z' hz' => ?_
      obtain ⟨r, r1, r2, r3⟩ := h
      obtain ⟨v, hv, rfl⟩ := List.mem_map.1 hz
      obtain ⟨v', hv', rfl⟩ := List.mem_map.1 hz'
      have hn1 : r.1 ≠ n := fun e => r2 (by simp [e])
      refine ⟨r, r1, fun q => r2 (List.mem_cons_of_mem _ q), ?_⟩
      rw [withV c1 (ha x hx) r1, withV c1 (ha x' hx') r1, if_neg hn1, if_neg hn1]
      exact r3
theorem withs_val (c1 : chkSettings L = 0) : ∀ {S : List Pair} {C : List Pair}, S.Pairwise (fun p q => p.1 ≠ q.1) → chkSet L true none C = 0 → (∀ p ∈ S, ∃ s, look L p.1 = some s ∧ p.2 ∈ s.2) → ∀ {t : Setting}, t ∈ L →
    valOf L (withs L C S) t.1 = match look S t.1 with
      | some p => some p.2
      | none => valOf L C t.1
  | [], C, _, _, _, t, _ => rfl
  | p :: S, C, hp, hC, h, t, ht => by
    obtain ⟨s, h1, h2⟩ := h p List.mem_cons_self
    obtain ⟨p1, p2⟩ := List.pairwise_cons.1 hp
    have ih := withs_val c1 (C := withR L C p.1 p.2) p2 (withR_ok c1 hC h1 h2) (fun q hq => h q (List.mem_cons_of_mem _ hq)) ht
    have e0 : withs L C (p :: S) = withs L (withR L C p.1 p.2) S := rfl
    rw [e0, ih, withV c1 hC ht]
    have hlk : look (p :: S) t.1 = if p.1 = t.1 then some p else look S t.1 := by
      unfold look
      rw [List.find?_cons]
      by_cases e : p.1 = t.1
      · rw [decide_eq_true e, if_pos e]
      · rw [decide_eq_false e, if_neg e]
    rw [hlk]
    by_cases e : p.1 = t.1
    · rw [if_pos e, if_pos e.symm]
      cases hc : look S t.1 with
      | none => rfl
      | some q =>
        obtain ⟨k1, k2⟩ := look_name hc
        exact absurd (e.trans k2.symm) (p1 q k1)
    · rw [if_neg e, if_neg (Ne.symm e)]
theorem srt_ne {S : List Pair} (h : Srt S) : S.Pairwise fun p q => p.1 ≠ q.1 := h.imp fun h e => by rw [e] at h; exact lt_irr _ h
/-- what both transitions set of a setting that the second one does not spread -/
theorem then_look {t u : Transition} (c1 : chkSettings L = 0) (t2 : chkSet L false none t.2.1 = 0) (u2 : chkSet L false none u.2.1 = 0) {m : ByteArray} (hm : m ∉ u.2.2) : look (thenSets L t u) m = match look u.2.1 m with
    | some p => some p
    | none => look t.2.1 m := by
  have hs := settings_srt c1
  have st2 := (chkSet_ok t2).2
  have su2 := (chkSet_ok u2).2
  have kt2 : ∀ p ∈ t.2.1, ∃ s, look L p.1 = some s := fun p hp => by
    obtain ⟨s, q, _⟩ := sets_look t2 p hp; exact ⟨s, q⟩
  have ku2 : ∀ p ∈ u.2.1, ∃ s, look L p.1 = some s := fun p hp => by
    obtain ⟨s, q, _⟩ := sets_look u2 p hp; exact ⟨s, q⟩
  have hS := thenSets_srt hs (t := t) (u := u) st2 su2
  have mem : ∀ p, p ∈ thenSets L t u ↔ p ∈ u.2.1 ++ tSets t u := fun p => thenSets_mem kt2 ku2
  cases hu : look u.2.1 m with
  | some p =>
    obtain ⟨k1, k2⟩ := look_name hu
    have := look_self hS ((mem p).2 (List.mem_append_left _ k1))
    rw [k2] at this; exact this
  | none =>
    have hsb : setB u.2.1 m = false := by unfold setB; rw [hu]; rfl
    have hmb : memB u.2.2 m = false := by
      cases h : memB u.2.2 m with
      | false => rfl
      | true => exact absurd (memB_iff.1 h) hm
    dsimp only
    cases ht : look t.2.1 m with
    | some p =>
      obtain ⟨k1, k2⟩ := look_name ht
      have hin : p ∈ tSets t u := List.mem_filter.2 ⟨k1, by rw [k2, hsb, hmb]; rfl⟩
      have := look_self hS ((mem p).2 (List.mem_append_right _ hin))
      rw [k2] at this; exact this
    | none =>
      cases hc : look (thenSets L t u) m with
      | none => rfl
      | some q =>
        exfalso
        obtain ⟨k1, k2⟩ := look_name hc
        rcases List.mem_append.1 ((mem q).1 k1) with z | z
        · have := setB_iff.2 ⟨q, z, k2⟩
          rw [hsb] at this; cases this
        · have : setB t.2.1 m = true := setB_iff.2 ⟨q, (List.mem_filter.1 z).1, k2⟩
          unfold setB at this
          rw [ht] at this; cases this
theorem through_parts {t : Transition} {C : List Pair} (h : (throughAns L t C).2 = 0) : chkConfig L C = 0 ∧ chkTransitions L [t] = 0 ∧ (spreadF L [withs L C t.2.1] t.2.2).2 = true ∧ (throughAns L t C).1 = (spreadF L [withs L C t.2.1] t.2.2).1 := by
  unfold throughAns at h ⊢
  split at h
  · rename_i q; exact absurd h q
  rename_i q0
  split at h
  · rename_i q; exact absurd h q
  rename_i q1
  split at h
  · cases h
  rename_i q2
  rw [if_neg q0, if_neg q1, if_neg q2]
  exact ⟨Decidable.not_not.1 q0, Decidable.not_not.1 q1, by simpa using q2, rfl⟩
theorem through_mem {t : Transition} {C : List Pair} (h : (throughAns L t C).2 = 0) (hy : chkSet L true none y = 0) : y ∈ (throughAns L t C).1 ↔ ∀ s ∈ L, s.1 ∉ t.2.2 → valOf L y s.1 = match look t.2.1 s.1 with
    | some p => some p.2
    | none => valOf L C s.1 := by
  obtain ⟨q0, q1, q2, q3⟩ := through_parts h
  obtain ⟨c1, c2⟩ := chkConfig_ok q0
  obtain ⟨_, _, t2, t3, _⟩ := trans_one q1
  have hlk := sets_look t2
  rw [q3, spreadF_mem c1 hy q2 (fun x hx => by rw [List.mem_singleton] at hx; rw [hx]; exact withs_ok c1 c2 hlk) (chkNames_look t3)]
  constructor
  · rintro ⟨x, hx, ha⟩ s hs hn
    rw [List.mem_singleton] at hx
    subst hx
    rw [ha s hs hn, withs_val c1 (srt_ne (chkSet_ok t2).2) c2 hlk hs]
  · intro ha
    refine ⟨_, List.mem_singleton.2 rfl, fun s hs hn => ?_⟩
    rw [ha s hs hn, withs_val c1 (srt_ne (chkSet_ok t2).2) c2 hlk hs]
theorem through_nodup {t : Transition} {C : List Pair} (h : (throughAns L t C).2 = 0) : (throughAns L t C).1.Nodup := by
  obtain ⟨q0, q1, q2, q3⟩ := through_parts h
  obtain ⟨c1, c2⟩ := chkConfig_ok q0
  obtain ⟨_, _, t2, t3, _⟩ := trans_one q1
  rw [q3]
  exact spreadF_nodup c1 q2 (fun x hx => by rw [List.mem_singleton] at hx; rw [hx]; exact withs_ok c1 c2 (sets_look t2)) (chkNames_look t3) ((names_srt t3).1.imp fun h e => by subst e; exact lt_irr _ h) (List.pairwise_singleton _ _)
/-- both at once, or one after the other -/
theorem then_both {t u : Transition} {C : List Pair} (hv : (thenAns L t u).2 = 0) (hb : (throughAns L (thenAns L t u).1 C).2 = 0) (hf : (throughAns L t C).2 = 0) (hn : ∀ x ∈ (throughAns L t C).1, (throughAns L u x).2 = 0) (hy : chkSet L true none y = 0) :
    y ∈ (throughAns L (thenAns L t u).1 C).1 ↔ ∃ x ∈ (throughAns L t C).1, y ∈ (throughAns L u x).1 := by
  have hv2 : chkTransitions L [t] = 0 ∧ chkTransitions L [u] = 0 ∧ t.2.2.any (fun n => setB u.2.1 n || memB u.2.2 n) = false ∧ (thenAns L t u).1 = (t.1, thenSets L t u, thenSplits L t u) := by
    unfold thenAns at hv ⊢
    split at hv
    · rename_i q; exact absurd hv q
    rename_i q0
    split at hv
    · rename_i q; exact absurd hv q
    rename_i q1
    split at hv
    · cases hv
    rename_i q2
    rw [if_neg q0, if_neg q1, if_neg q2]
    exact ⟨Decidable.not_not.1 q0, Decidable.not_not.1 q1, by simpa using q2, rfl⟩
  obtain ⟨k0, k1, k2, k3⟩ := hv2
  rw [k3] at hb
  rw [k3]
  obtain ⟨c1, _, t2, t3, t4⟩ := trans_one k0
  obtain ⟨_, _, u2, u3, u4⟩ := trans_one k1
  obtain ⟨q0, _, _, _⟩ := through_parts hf
  obtain ⟨_, c2⟩ := chkConfig_ok q0
  have spl : ∀ {m : ByteArray}, m ∈ thenSplits L t u ↔ m ∈ u.2.2 ∨ m ∈ t.2.2 := thenSplits_mem (chkNames_look t3) (chkNames_look u3)
  have dis : ∀ {m : ByteArray}, m ∈ t.2.2 → look u.2.1 m = none := fun {m} hm => by
    have := List.any_eq_false.1 k2 m hm
    cases hc : look u.2.1 m with
    | none => rfl
    | some p =>
      have hsb : setB u.2.1 m = true := by unfold setB; rw [hc]; rfl
      exact (this (by rw [hsb]; rfl)).elim
  rw [through_mem hb hy]
  dsimp only
  constructor
  · intro h
    -- the configuration in between
    let S : List Pair := t.2.2.map fun n => (n, (valOf L y n).getD ⟨#[]⟩)
    have hS1 : S.Pairwise fun p q => p.1 ≠ q.1 := by
      show (t.2.2.map _).Pairwise _
      rw [List.pairwise_map]
      exact (names_srt t3).1.imp fun h e => by
        dsimp only at e
        rw [e] at h; exact lt_irr _ h
    have hS2 : ∀ p ∈ S, ∃ s, look L p.1 = some s ∧ p.2 ∈ s.2 := fun p hp => by
      obtain ⟨n, hn, rfl⟩ := List.mem_map.1 hp
      obtain ⟨s, hs⟩ := chkNames_look t3 n hn
      obtain ⟨m1, m2⟩ := look_name hs
      obtain ⟨v, hv, hvm⟩ := val_mem c1 hy m1
      refine ⟨s, hs, ?_⟩
      dsimp only
      rw [← m2, hv]; exact hvm
    have hD := withs_ok c1 c2 (sets_look t2)
    have hx := withs_ok c1 hD hS2
    have vx : ∀ s ∈ L, valOf L (withs L (withs L C t.2.1) S) s.1 = if memB t.2.2 s.1 = true then valOf L y s.1 else match look t.2.1 s.1 with
        | some p => some p.2
        | none => valOf L C s.1 := fun s hs => by
      rw [withs_val c1 hS1 hD hS2 hs]
      by_cases hm : s.1 ∈ t.2.2
      · rw [if_pos (memB_iff.2 hm)]
        have hin : (s.1, (valOf L y s.1).getD ⟨#[]⟩) ∈ S := List.mem_map.2 ⟨s.1, hm, rfl⟩
        obtain ⟨v, hv, hvm⟩ := val_mem c1 hy hs
        cases hc : look S s.1 with
        | none =>
          unfold look at hc
          rw [List.find?_eq_none] at hc
          exact absurd (hc _ hin) (by simp)
        | some p =>
          obtain ⟨z1, z2⟩ := look_name hc
          obtain ⟨n, hn, rfl⟩ := List.mem_map.1 z1
          dsimp only at z2 ⊢
          rw [z2, hv]; rfl
      · rw [if_neg (mt memB_iff.1 hm)]
        cases hc : look S s.1 with
        | none => exact withs_val c1 (srt_ne (chkSet_ok t2).2) c2 (sets_look t2) hs
        | some p =>
          obtain ⟨z1, z2⟩ := look_name hc
          obtain ⟨n, hn, rfl⟩ := List.mem_map.1 z1
          dsimp only at z2
          rw [z2] at hn; exact absurd hn hm
    refine ⟨withs L (withs L C t.2.1) S, (through_mem hf hx).2 fun s hs hn => by rw [vx s hs, if_neg (mt memB_iff.1 hn)], ?_⟩
    refine (through_mem (hn _ ((through_mem hf hx).2 fun s hs hn => by rw [vx s hs, if_neg (mt memB_iff.1 hn)])) hy).2 fun s hs hsu => ?_
    cases hu : look u.2.1 s.1 with
    | some p =>
      have hnt : s.1 ∉ t.2.2 := fun q => by rw [dis q] at hu; cases hu
      have := h s hs fun q => (spl.1 q).elim hsu hnt
      rw [then_look c1 t2 u2 hsu, hu] at this
      exact this
    | none =>
      dsimp only
      rw [vx s hs]
      by_cases hm : s.1 ∈ t.2.2
      · rw [if_pos (memB_iff.2 hm)]
      · rw [if_neg (mt memB_iff.1 hm)]
        have := h s hs fun q => (spl.1 q).elim hsu hm
        rw [then_look c1 t2 u2 hsu, hu] at this
        exact this
  · rintro ⟨x, hx, hyx⟩ s hs hns
    have hsu : s.1 ∉ u.2.2 := fun q => hns (spl.2 (.inl q))
    have hst : s.1 ∉ t.2.2 := fun q => hns (spl.2 (.inr q))
    have hxok := (through_ok (L := L) (t := t) (C := C)).2 x hx
    have e1 := (through_mem (hn x hx) hy).1 hyx s hs hsu
    have e2 := (through_mem hf hxok).1 hx s hs hst
    rw [e1, then_look c1 t2 u2 hsu]
    cases hu : look u.2.1 s.1 with
    | some p => rfl
    | none => exact e2
end Go.Proofs.YtcbkiipcfdcdgaaGreatDoor.Ev

namespace Go.Proofs.YtcbkiipcfdcdgaaGreatDoor.Ev
open Go Go.RowKit
set_option linter.unusedVariables false
variable {ι R α X : Type} {l : ι → Nat}
noncomputable def inB (A : List (List Pair)) (x : List Pair) : Bool := @decide (x ∈ A) (Classical.propDecidable _)
theorem inB_iff {A : List (List Pair)} {x : List Pair} : inB A x = true ↔ x ∈ A := @decide_eq_true_iff _ (Classical.propDecidable _)
theorem inB_no {A : List (List Pair)} {x : List Pair} (h : x ∉ A) : inB A x = false := by
  cases e : inB A x
  · rfl
  · exact absurd (inB_iff.1 e) h
theorem S70_spec (A : List (List Pair)) (x : List Pair) (hA : A.length ≤ 9223372036854775807) (h : ∀ a ∈ A, a.length ≤ 9223372036854775807) (hx : x.length ≤ 9223372036854775807) : Ultk (fun k => S70 k (A, x, ())) (inB A x) := by
  unfold S70
  refine (Ult.forI (fun _ => Nat.le_refl _) A.length (fun j => inB (A.drop j) x) fun j hj next => ?_).eq (by rw [List.drop_zero])
  dsimp only
  rw [iltL]
  by_cases hlt' : ¬ j < A.length
  · refine Ult.no (decide_eq_false hlt') (Ult.ret.eq ?_)
    rw [List.drop_eq_nil_of_le (by omega)]; exact (inB_no List.not_mem_nil).symm
  have hlt : j < A.length := Decidable.not_not.1 hlt'
  refine Ult.yes (decide_eq_true hlt) (Ult.bindc (at?_nat hlt) ?_)
  refine Ult.bind (Ult.call (l := lp fun k : Nat => k) (f := fun k => S18 k (A[j], x, ())) (lp_le _ _ fun _ => Nat.le_refl _) (S18_spec A[j] x (h _ (List.getElem_mem hlt)) hx)) ?_
  rw [isucc hlt hA, drop_cons hlt]
  by_cases e : A[j] = x
  · refine Ult.yes (decide_eq_true e) (Ult.ret.eq ?_)
    exact (inB_iff.2 (by rw [e]; exact List.mem_cons_self)).symm
  · refine Ult.no (decide_eq_false e) ((next hlt).eq ?_)
    rw [Bool.eq_iff_iff, inB_iff, inB_iff, List.mem_cons]
    exact ⟨.inr, fun q => q.resolve_left fun z => e z.symm⟩
theorem S23_spec (A B : List (List Pair)) (hA : A.length ≤ 140737488355328) (hB : B.length ≤ 140737488355328) (sA : ∀ a ∈ A, a.length ≤ 9223372036854775807) (sB : ∀ a ∈ B, a.length ≤ 9223372036854775807) (hnd : A.Nodup) (h1 : ∀ a ∈ A, a ∈ B) (h2 : ∀ a ∈ B, a ∈ A) : Ultk (fun k => S23 k (A, B, ())) true := by
  unfold S23
  refine Ult.forI (fun _ => Nat.le_refl _) A.length (fun _ => true) fun j hj next => ?_
  dsimp only
  rw [iltL]
  by_cases hlt' : ¬ j < A.length
  · refine Ult.no (decide_eq_false hlt') ?_
    refine Ult.forI (lp_le _ _ fun _ => Nat.le_refl _) B.length (fun _ => true) fun i hi next2 => ?_
    rw [iltL]
    by_cases hlu' : ¬ i < B.length
    · exact Ult.no (decide_eq_false hlu') Ult.ret
    have hlu : i < B.length := Decidable.not_not.1 hlu'
    refine Ult.yes (decide_eq_true hlu) (Ult.bindc (at?_nat hlu) ?_)
    have hm := List.getElem_mem hlu
    have c := Ult.call (l := lp (lp fun k : Nat => k)) (f := fun k => S70 k (A, B[i], ())) (k := fun q => q.1.1) (lp_le _ _ (lp_le _ _ fun _ => Nat.le_refl _)) (S70_spec A B[i] (by omega) sA (sB _ hm))
    rw [inB_iff.2 (h2 _ hm)] at c
    refine Ult.bind c (Ult.no rfl ?_)
    rw [isucc hlu (by omega)]
    exact next2 hlu
  have hlt : j < A.length := Decidable.not_not.1 hlt'
  refine Ult.yes (decide_eq_true hlt) (Ult.bindc (at?_nat hlt) (Ult.bindc (cut?_take (Nat.le_of_lt hlt)) ?_))
  have hm := List.getElem_mem hlt
  have hno : A[j] ∉ A.take j := fun q => by
    obtain ⟨i, hi, e⟩ := List.getElem_of_mem q
    rw [List.getElem_take] at e
    rw [List.length_take] at hi
    exact List.pairwise_iff_getElem.1 hnd i j (by omega) hlt (by omega) e
  have ca := Ult.call (l := lp fun k : Nat => k) (f := fun k => S70 k (A.take j, A[j], ())) (lp_le _ _ fun _ => Nat.le_refl _) (S70_spec (A.take j) A[j] (by rw [List.length_take]; omega) (fun a ha => sA a (List.mem_of_mem_take ha)) (sA _ hm))
  have cb := Ult.call (l := lp fun k : Nat => k) (f := fun k => S70 k (B, A[j], ())) (lp_le _ _ fun _ => Nat.le_refl _) (S70_spec B A[j] (by omega) sB (sA _ hm))
  rw [inB_no hno] at ca
  rw [inB_iff.2 (h1 _ hm)] at cb
  refine Ult.bind ca (Ult.no rfl (Ult.bind cb (Ult.no rfl ?_)))
  rw [isucc hlt (by omega)]
  exact next hlt
theorem pair_big {S : List Pair} (h1 : S.length ≤ 2000) (h2 : ∀ p ∈ S, p.1.size ≤ 140737488351232 ∧ p.2.size ≤ 140737488351232) : PairSz S := ⟨by omega, h2⟩
theorem then_sizes {L : List Setting} {t u : Transition} (hL : SetSz L) (h1 : t.1.size ≤ 140737488351232) (h2 : PairSz t.2.1) (g2 : PairSz u.2.1) : (thenAns L t u).1.1.size ≤ 140737488351232 ∧ PairSz (thenAns L t u).1.2.1 ∧ StrsSz (thenAns L t u).1.2.2 ∧ ((thenAns L t u).2 ≠ 0 → (thenAns L t u).1.1 = ⟨#[]⟩) := by
  have z : PairSz [] := ⟨by simp, fun p hp => by cases hp⟩
  have z2 : StrsSz [] := ⟨by simp, fun p hp => by cases hp⟩
  unfold thenAns
  split
  · exact ⟨by show (0 : Nat) ≤ _; omega, z, z2, fun _ => rfl⟩
  rename_i h0
  split
  · exact ⟨by show (0 : Nat) ≤ _; omega, z, z2, fun _ => rfl⟩
  rename_i h0'
  split
  · exact ⟨by show (0 : Nat) ≤ _; omega, z, z2, fun _ => rfl⟩
  obtain ⟨c1, _, t2, t3, t4⟩ := trans_one (Decidable.not_not.1 h0)
  obtain ⟨_, _, u2, u3, u4⟩ := trans_one (Decidable.not_not.1 h0')
  have h30 := (chkSettings_ne c1).1
  have lt2 := cfg_len t2
  have lu2 := cfg_len u2
  have hlen := thenSets_len (t := t) (u := u) (by omega) (by omega) (L := L)
  have hl2 : (thenSplits L t u).length ≤ 30 := Nat.le_trans (List.length_filterMap_le _ _) h30
  refine ⟨h1, pair_big (by show (thenSets L t u).length ≤ 2000; omega) fun p hp => ?_, ⟨by show (thenSplits L t u).length * 16 ≤ _; omega, fun m hm => ?_⟩, fun q => absurd rfl q⟩
  · unfold thenSets at hp
    obtain ⟨s, hs, hp⟩ := List.mem_flatMap.1 hp
    rcases List.mem_append.1 hp with q | q
    · exact g2.2 p (List.mem_filter.1 q).1
    · exact h2.2 p (List.mem_filter.1 q).1
  · unfold thenSplits at hm
    obtain ⟨s, hs, e⟩ := List.mem_filterMap.1 hm
    split at e
    · cases e; exact (hL.2 s hs).1
    · cases e
theorem ConfigThenIsBothPure : ConfigThenIsBothStated := by
  intro L t u C hL ht hu hC
  have hL : SetSz L := ⟨hL.2.1, fun s hs => ⟨(hL.2.2 s hs).1, (hL.2.2 s hs).2.2.1, (hL.2.2 s hs).2.2.2⟩⟩
  obtain ⟨t1, t2, t3⟩ := ht
  obtain ⟨u1, u2, u3⟩ := hu
  have t2 : PairSz t.2.1 := ⟨t2.2.1, t2.2.2⟩
  have t3 : StrsSz t.2.2 := ⟨t3.2.1, t3.2.2⟩
  have u2 : PairSz u.2.1 := ⟨u2.2.1, u2.2.2⟩
  have u3 : StrsSz u.2.2 := ⟨u3.2.1, u3.2.2⟩
  have hC : PairSz C := ⟨hC.2.1, hC.2.2⟩
  have lC := hC.len
  have lL := hL.len
  have some_of : ∀ {f : Nat → Option Bool}, Ultk f true → ∃ k, f k = some true := fun {f} h => by
    obtain ⟨K, h⟩ := h
    exact ⟨K, h K (Nat.le_refl _)⟩
  refine some_of ?_
  unfold S4
  dsimp only
  obtain ⟨w1, w2, w3, w4⟩ := then_sizes (L := L) (t := t) (u := u) hL t1 t2 u2
  have hboth := fun (hv : (thenAns L t u).2 = 0) hb hf hn y hy => then_both (L := L) (y := y) (t := t) (u := u) (C := C) hv hb hf hn hy
  refine Ult.bind (S16_spec L t u hL t1 t2 t3 u1 u2 u3) ?_
  by_cases hv : (thenAns L t u).2 ≠ 0
  · refine Ult.yes (by rw [ine_eq]; exact decide_eq_true hv) (Ult.yes (by rw [seq_eq, w4 hv]; simp) (Ult.bind S22_spec Ult.ret))
  have hv := Decidable.not_not.1 hv
  refine Ult.no (by rw [ine_eq, hv]; simp) ?_
  generalize hV : (thenAns L t u).1 = V at w1 w2 w3 hboth
  refine Ult.bind (S11_spec L V C hL w1 w2 w3 (by omega)) (Ult.bind (S11_spec L t C hL t1 t2 t3 (by omega)) (Ult.jn ?_))
  by_cases hb : (throughAns L V C).2 ≠ 0
  · exact Ult.yes (by rw [ine_eq]; exact decide_eq_true hb) (Ult.bind S22_spec Ult.ret)
  have hb := Decidable.not_not.1 hb
  refine Ult.no (by rw [ine_eq, hb]; simp) ?_
  by_cases hf : (throughAns L t C).2 ≠ 0
  · exact Ult.yes (by rw [ine_eq]; exact decide_eq_true hf) (Ult.bind S22_spec Ult.ret)
  have hf := Decidable.not_not.1 hf
  refine Ult.no (by rw [ine_eq, hf]; simp) ?_
  obtain ⟨f1, f2⟩ := through_ok (L := L) (t := t) (C := C)
  obtain ⟨b1, b2⟩ := through_ok (L := L) (t := V) (C := C)
  have hnd := through_nodup (L := L) (t := V) (C := C) hb
  have hboth := hboth hv hb hf
  have hu0 : chkTransitions L [u] = 0 := by
    unfold thenAns at hv
    split at hv
    · rename_i q; exact absurd hv q
    split at hv
    · rename_i q; exact absurd hv q
    · rename_i q; exact Decidable.not_not.1 q
  obtain ⟨q0, _⟩ := through_parts hf
  obtain ⟨c1, _⟩ := chkConfig_ok q0
  have htwo : ∀ x ∈ (throughAns L t C).1, (throughAns L u x).2 = 0 ∨ (throughAns L u x).2 = 2 := fun x hx => by
    have hcx : chkConfig L x = 0 := by
      unfold chkConfig
      rw [if_neg (by rw [c1]; simp)]; exact f2 x hx
    unfold throughAns
    rw [if_neg (by rw [hcx]; simp), if_neg (by rw [hu0]; simp)]
    split
    · exact .inr rfl
    · exact .inl rfl
  generalize hF : (throughAns L t C).1 = F at f1 f2 hboth htwo
  generalize hBo : (throughAns L V C).1 = Bo at b1 b2 hnd hboth
  have small : ∀ x : List Pair, chkSet L true none x = 0 → x.length ≤ 9223372036854775807 := fun x hx => by have := cfg_len hx; omega
  refine Ult.forA (A := List (List Pair)) (fun _ => Nat.le_refl _) F.length (fun a j => (a, (j : Int))) (fun a j => a = (F.take j).flatMap (fun x => (throughAns L u x).1) ∧ ∀ x ∈ F.take j, (throughAns L u x).2 = 0) (fun _ _ => true) [] ⟨by simp, by simp⟩ fun a j hj ha next => ?_
  obtain ⟨ha, hz⟩ := ha
  have hlen : a.length ≤ j * 1000 := by
    rw [ha]
    clear next ha hz
    induction j with
    | zero => simp
    | succ j ih =>
      have hjl : j < F.length := by omega
      rw [List.take_succ_eq_append_getElem hjl, List.flatMap_append, List.length_append, List.flatMap_cons, List.flatMap_nil, List.append_nil]
      have h1 := ih (by omega)
      have h2 := (through_ok (L := L) (t := u) (C := F[j])).1
      omega
  have hlen2 : j * 1000 ≤ 1000 * 1000 := Nat.mul_le_mul_right _ (by omega)
  dsimp only
  rw [iltL]
  by_cases hlt' : ¬ j < F.length
  · refine Ult.no (decide_eq_false hlt') ?_
    rw [List.take_of_length_le (by omega)] at ha hz
    have hmem : ∀ y, chkSet L true none y = 0 → (y ∈ Bo ↔ y ∈ a) := fun y hy => by
      rw [hboth hz y hy, ha, List.mem_flatMap]
    have sa : ∀ y ∈ a, chkSet L true none y = 0 := fun y hy => by
      rw [ha] at hy
      obtain ⟨x, hx, hy⟩ := List.mem_flatMap.1 hy
      exact (through_ok (L := L) (t := u) (C := x)).2 y hy
    have h23 := S23_spec Bo a (by omega) (by omega) (fun y hy => small y (b2 y hy)) (fun y hy => small y (sa y hy)) hnd (fun y hy => (hmem y (b2 y hy)).1 hy) (fun y hy => (hmem y (sa y hy)).2 hy)
    exact Ult.bind (Ult.call (l := lp fun k : Nat => k) (lp_le _ _ fun _ => Nat.le_refl _) h23) (Ult.yes rfl (Ult.bind S22_spec.lift Ult.ret))
  have hlt : j < F.length := Decidable.not_not.1 hlt'
  refine Ult.yes (decide_eq_true hlt) (Ult.bindc (at?_nat hlt) ?_)
  have hm := List.getElem_mem hlt
  have h11 := S11_spec L u F[j] hL u1 u2 u3 (by have := cfg_len (f2 _ hm); omega)
  refine Ult.bind (Ult.call (l := lp fun k : Nat => k) (lp_le _ _ fun _ => Nat.le_refl _) h11) ?_
  rcases htwo _ hm with hr | hr
  · refine Ult.no (by rw [ine_eq, hr]; simp) (Ult.bindc (app?_ok (by have := (through_ok (L := L) (t := u) (C := F[j])).1; show (_ + _) * 24 ≤ _; omega)) ?_)
    rw [isucc hlt (by omega)]
    refine next _ hlt ⟨?_, fun x hx => ?_⟩
    · rw [List.take_succ_eq_append_getElem hlt, List.flatMap_append, ← ha, List.flatMap_cons, List.flatMap_nil, List.append_nil]
    · rw [List.take_succ_eq_append_getElem hlt] at hx
      rcases List.mem_append.1 hx with q | q
      · exact hz x q
      · rw [List.mem_singleton] at q; rw [q]; exact hr
  · refine Ult.yes (by rw [ine_eq, hr]; simp) (Ult.yes (by rw [ieq_eq, hr]; simp) (Ult.bind S22_spec.lift Ult.ret))
end Go.Proofs.YtcbkiipcfdcdgaaGreatDoor.Ev
