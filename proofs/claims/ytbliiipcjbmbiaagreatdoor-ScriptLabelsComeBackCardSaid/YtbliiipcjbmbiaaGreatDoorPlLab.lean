/- A part of a small evaluator of the program's own code over plain data, or of the plain laws behind it (this session's own). No condition but those in the statements. -/
import Derived.Test.YtbliiipcjbmbiaaGreatDoorFLab
import Derived.Test.YtbliiipcjbmbiaaGreatDoorGc
import Derived.Test.YtbliiipcjbmbiaaGreatDoorEvD
import Derived.Test.YtbliiipcjbmbiaaGreatDoorEvK
import Derived.Sort.Walk0
import Derived.Lib.SplitLaws
import Derived.Lib.IndexMore
import Derived.Lib.Join
namespace Go.Proofs.YtbliiipcjbmbiaaGreatDoor.Ev
open Go Go.RowKit
/-- THE ONE PURE STATEMENT. -/
def ScriptLabelsComeBackStated : Prop := ∀ (x0 : (.agg (.pair (.str) (.str)) : Kd).T) (x1 : (.str : Kd).T), (fun x => (fun s => s.size ≤ 140737488351232) x.1 ∧ (fun s => s.size ≤ 140737488351232) x.2) x0 → (fun s => s.size ≤ 140737488351232) x1 → ∃ k, S7 k (x0, x1, ()) = some true
end Go.Proofs.YtbliiipcjbmbiaaGreatDoor.Ev

namespace Go.Proofs.YtbliiipcjbmbiaaGreatDoor.Ev
open Go.RowKit
set_option linter.unusedVariables false

/-- from some number of rounds on; l: the least of all numbers of rounds that matter -/
def Ult {ι R : Type} (l : ι → Nat) (f : ι → Option R) (r : R) : Prop := ∃ K, ∀ i, K ≤ l i → f i = some r
variable {ι R α : Type} {l : ι → Nat}
theorem Ult.ret {r : R} : Ult l (fun _ => some r) r := ⟨0, fun _ _ => rfl⟩
theorem Ult.congr {f g : ι → Option R} {r : R} (h : Ult l f r) (e : ∀ i, g i = f i) : Ult l g r := by
  obtain ⟨K, h⟩ := h
  exact ⟨K, fun i hi => (e i).trans (h i hi)⟩
theorem Ult.bind {f : ι → Option α} {g : ι → α → Option R} {a : α} {r : R} (h : Ult l f a) (k : Ult l (fun i => g i a) r) : Ult l (fun i => bnd (f i) (g i)) r := by
  obtain ⟨K, h⟩ := h
  obtain ⟨L, k⟩ := k
  refine ⟨max K L, fun i hi => ?_⟩
  show Option.bind (f i) (g i) = some r
  rw [h i (by omega)]
  exact k i (by omega)
theorem Ult.bindc {m : Option α} {g : ι → α → Option R} {a : α} {r : R} (h : m = some a) (k : Ult l (fun i => g i a) r) : Ult l (fun i => bnd m (g i)) r := Ult.bind ⟨0, fun _ _ => h⟩ k
theorem Ult.yes {c : Bool} {f g : ι → Option R} {r : R} (hc : c = true) (h : Ult l f r) : Ult l (fun i => cnd c (f i) (g i)) r := by subst hc; exact h
theorem Ult.no {c : Bool} {f g : ι → Option R} {r : R} (hc : c = false) (h : Ult l g r) : Ult l (fun i => cnd c (f i) (g i)) r := by subst hc; exact h
theorem Ult.ite {c : Bool} {f g : ι → Option R} {r : R} (h : c = true → Ult l f r) (k : c = false → Ult l g r) : Ult l (fun i => cnd c (f i) (g i)) r := by
  cases c
  · exact Ult.no rfl (k rfl)
  · exact Ult.yes rfl (h rfl)
/-- a function's own number of rounds -/
abbrev Ultk (f : Nat → Option R) (r : R) : Prop := Ult (fun k : Nat => k) f r
theorem Ult.call {f : Nat → Option R} {r : R} {k : ι → Nat} (hk : ∀ i, l i ≤ k i) (h : Ultk f r) : Ult l (fun i => f (k i)) r := by
  obtain ⟨K, h⟩ := h
  exact ⟨K, fun i hi => h (k i) (Nat.le_trans hi (hk i))⟩
theorem Ultk.call {f : Nat → Option R} {r : R} (h : Ultk f r) : Ultk (fun k => f k) r := h
/-- the rounds of a loop, told by a number of their own -/
def lp (l : ι → Nat) (p : ι × Nat) : Nat := min (l p.1) p.2
theorem lp_le (l : ι → Nat) (k : ι → Nat) (hk : ∀ i, l i ≤ k i) : ∀ p : ι × Nat, lp l p ≤ k p.1 := fun p => Nat.le_trans (Nat.min_le_left _ _) (hk _)
variable {X : Type}
theorem Ult.loop {st : ι → (X → Option R) → X → Option R} {x : X} {r : R} {k : ι → Nat} (hk : ∀ i, l i ≤ k i) (h : Ult (lp l) (fun p => loopN p.2 (st p.1) x) r) : Ult l (fun i => loopN (k i) (st i) x) r := by
  obtain ⟨K, h⟩ := h
  refine ⟨K, fun i hi => h (i, k i) ?_⟩
  have := hk i
  show K ≤ min (l i) (k i)
  omega
theorem Ult.round {st : ι → (X → Option R) → X → Option R} {x : X} {r : R} (h : Ult (lp l) (fun p => st p.1 (loopN p.2 (st p.1)) x) r) : Ult (lp l) (fun p => loopN p.2 (st p.1) x) r := by
  obtain ⟨K, h⟩ := h
  refine ⟨K + 1, fun p hp => ?_⟩
  obtain ⟨i, n⟩ := p
  have h1 : K + 1 ≤ min (l i) n := hp
  cases n with
  | zero => omega
  | succ n =>
    have h2 := h (i, n) (show K ≤ min (l i) n by omega)
    exact h2
/-- rounds by a measure -/
theorem Ult.rounds {st : ι → (X → Option R) → X → Option R} {r : R} (I : X → Prop) (μ : X → Nat) (h : ∀ x, I x → (∀ y, I y → μ y < μ x → Ult (lp l) (fun p => loopN p.2 (st p.1) y) r) → Ult (lp l) (fun p => st p.1 (loopN p.2 (st p.1)) x) r) :
    ∀ x, I x → Ult (lp l) (fun p => loopN p.2 (st p.1) x) r := by
  intro x
  generalize hn : μ x = n
  induction n using Nat.strongRecOn generalizing x with
  | _ n ih =>
    intro hI
    refine Ult.round (h x hI fun y hy hlt => ih (μ y) (by omega) y rfl hy)

/-- a loop by an invariant and a measure -/
theorem Ult.loopI {st : ι → (X → Option R) → X → Option R} {x : X} {r : R} {k : ι → Nat} (hk : ∀ i, l i ≤ k i) (I : X → Prop) (μ : X → Nat) (h0 : I x)
    (h : ∀ x, I x → (∀ y, I y → μ y < μ x → Ult (lp l) (fun p => loopN p.2 (st p.1) y) r) → Ult (lp l) (fun p => st p.1 (loopN p.2 (st p.1)) x) r) : Ult l (fun i => loopN (k i) (st i) x) r :=
  Ult.loop hk (Ult.rounds I μ h x h0)

/-! ### total correctness: it ends, and with what is wanted -/
def Fin {ι R : Type} (l : ι → Nat) (f : ι → Option R) (Q : R → Prop) : Prop := ∃ r, Q r ∧ Ult l f r
abbrev Fink {R : Type} (f : Nat → Option R) (Q : R → Prop) : Prop := Fin (fun k : Nat => k) f Q
variable {Q : R → Prop}
theorem Fin.ret {r : R} (h : Q r) : Fin l (fun _ => some r) Q := ⟨r, h, Ult.ret⟩
theorem Fin.bind {f : ι → Option α} {g : ι → α → Option R} {Qa : α → Prop} (h : Fin l f Qa) (k : ∀ a, Qa a → Fin l (fun i => g i a) Q) : Fin l (fun i => bnd (f i) (g i)) Q := by
  obtain ⟨a, ha, h⟩ := h
  obtain ⟨r, hr, k⟩ := k a ha
  exact ⟨r, hr, Ult.bind h k⟩
theorem Fin.bindu {f : ι → Option α} {g : ι → α → Option R} {a : α} (h : Ult l f a) (k : Fin l (fun i => g i a) Q) : Fin l (fun i => bnd (f i) (g i)) Q := by
  obtain ⟨r, hr, k⟩ := k
  exact ⟨r, hr, Ult.bind h k⟩
theorem Fin.bindc {m : Option α} {g : ι → α → Option R} {a : α} (h : m = some a) (k : Fin l (fun i => g i a) Q) : Fin l (fun i => bnd m (g i)) Q := Fin.bindu ⟨0, fun _ _ => h⟩ k
theorem Fin.ite {c : Bool} {f g : ι → Option R} (h : c = true → Fin l f Q) (k : c = false → Fin l g Q) : Fin l (fun i => cnd c (f i) (g i)) Q := by
  cases c
  · exact k rfl
  · exact h rfl
theorem Fin.mono {Q' : R → Prop} {f : ι → Option R} (h : Fin l f Q) (k : ∀ r, Q r → Q' r) : Fin l f Q' := by
  obtain ⟨r, hr, h⟩ := h
  exact ⟨r, k r hr, h⟩
theorem Fin.of {f : ι → Option R} {r : R} (h : Ult l f r) (hq : Q r) : Fin l f Q := ⟨r, hq, h⟩
theorem Fin.ult {f : ι → Option R} {r : R} (h : Fin l f (fun x => x = r)) : Ult l f r := by
  obtain ⟨_, rfl, h⟩ := h
  exact h
theorem Fin.call {f : Nat → Option R} {k : ι → Nat} (hk : ∀ i, l i ≤ k i) (h : Fink f Q) : Fin l (fun i => f (k i)) Q := by
  obtain ⟨r, hr, h⟩ := h
  exact ⟨r, hr, Ult.call hk h⟩
/-- a loop by an invariant and a measure -/
theorem Fin.loopI {st : ι → (X → Option R) → X → Option R} {x : X} {k : ι → Nat} (hk : ∀ i, l i ≤ k i) (I : X → Prop) (μ : X → Nat) (h0 : I x)
    (h : ∀ x, I x → (∀ y, I y → μ y < μ x → Fin (lp l) (fun p => loopN p.2 (st p.1) y) Q) → Fin (lp l) (fun p => st p.1 (loopN p.2 (st p.1)) x) Q) : Fin l (fun i => loopN (k i) (st i) x) Q := by
  have key : ∀ (n : Nat) (x : X), μ x = n → I x → Fin (lp l) (fun p => loopN p.2 (st p.1) x) Q := by
    intro n
    induction n using Nat.strongRecOn with
    | _ n ih =>
      intro x hn hI
      obtain ⟨r, hr, hu⟩ := h x hI fun y hy hlt => ih (μ y) (by omega) y rfl hy
      exact ⟨r, hr, Ult.round hu⟩
  obtain ⟨r, hr, hu⟩ := key _ x rfl h0
  exact ⟨r, hr, Ult.loop hk hu⟩
theorem Ult.lift {f : ι → Option R} {r : R} (h : Ult l f r) : Ult (lp l) (fun q => f q.1) r := by
  obtain ⟨K, h⟩ := h
  exact ⟨K, fun q hq => h q.1 (Nat.le_trans hq (Nat.min_le_left _ _))⟩
theorem Fin.lift {f : ι → Option R} (h : Fin l f Q) : Fin (lp l) (fun q => f q.1) Q := by
  obtain ⟨r, hr, h⟩ := h
  exact ⟨r, hr, h.lift⟩
theorem Ultk.unique {f : Nat → Option R} {a b : R} (h : Ultk f a) (k : Ultk f b) : a = b := by
  obtain ⟨K, h⟩ := h
  obtain ⟨L, k⟩ := k
  have h1 := h (max K L) (Nat.le_max_left _ _)
  rw [k (max K L) (Nat.le_max_right _ _)] at h1
  exact (Option.some.inj h1).symm

/-! ### the operations -/
theorem wrap64 {n : Int} (h0 : -9223372036854775808 ≤ n) (h1 : n ≤ 9223372036854775807) : IntKind.i64.wrap n = n := by
  rw [IntKind.wrap_i64]; omega
theorem iadd64 {a b : Int} (h0 : -9223372036854775808 ≤ a + b) (h1 : a + b ≤ 9223372036854775807) : iadd .i64 a b = a + b := wrap64 h0 h1
theorem isub64 {a b : Int} (h0 : -9223372036854775808 ≤ a - b) (h1 : a - b ≤ 9223372036854775807) : isub .i64 a b = a - b := wrap64 h0 h1
theorem at?_nat {l : List α} {i : Nat} (h : i < l.length) : at? l (i : Int) = some l[i] := by
  unfold at?
  rw [if_pos (Int.natCast_nonneg _), Int.toNat_natCast, List.getElem?_eq_getElem h]
theorem bt?_nat {s : ByteArray} {i : Nat} (h : i < s.size) : bt? s (i : Int) = some (bt s (i : Int)) := by
  unfold bt?
  rw [if_pos ⟨Int.natCast_nonneg _, by omega⟩]
theorem len_def {l : List α} : len l = (l.length : Int) := rfl

end Go.Proofs.YtbliiipcjbmbiaaGreatDoor.Ev

namespace Go.Proofs.YtbliiipcjbmbiaaGreatDoor.Ev
open Go Go.RowKit
set_option linter.unusedVariables false
set_option linter.unusedSimpArgs false
variable {ι R X A α β : Type} {l : ι → Nat}

/-- a loop by an index and what is gathered; 'res': what comes of it from there on -/
theorem Ult.forA {st : ι → (X → Option R) → X → Option R} {k : ι → Nat} (hk : ∀ i, l i ≤ k i) (n : Nat) (mk : A → Nat → X) (I : A → Nat → Prop) (res : A → Nat → R) (a0 : A) (h0 : I a0 0)
    (h : ∀ a j, j ≤ n → I a j → (∀ a', j < n → I a' (j + 1) → Ult (lp l) (fun p => loopN p.2 (st p.1) (mk a' (j + 1))) (res a' (j + 1))) → Ult (lp l) (fun p => st p.1 (loopN p.2 (st p.1)) (mk a j)) (res a j)) :
    Ult l (fun i => loopN (k i) (st i) (mk a0 0)) (res a0 0) := by
  have key : ∀ (d j : Nat) (a : A), n - j = d → j ≤ n → I a j → Ult (lp l) (fun p => loopN p.2 (st p.1) (mk a j)) (res a j) := by
    intro d
    induction d with
    | zero => intro j a hd hj hI; exact Ult.round (h a j hj hI fun a' hlt _ => by omega)
    | succ d ih => intro j a hd hj hI; exact Ult.round (h a j hj hI fun a' hlt hI' => ih (j + 1) a' (by omega) (by omega) hI')
  exact Ult.loop hk (key n 0 a0 (by omega) (Nat.zero_le _) h0)
theorem Ult.forI {st : ι → (Int → Option R) → Int → Option R} {k : ι → Nat} (hk : ∀ i, l i ≤ k i) (n : Nat) (res : Nat → R)
    (h : ∀ j, j ≤ n → (j < n → Ult (lp l) (fun p => loopN p.2 (st p.1) ((j + 1 : Nat) : Int)) (res (j + 1))) → Ult (lp l) (fun p => st p.1 (loopN p.2 (st p.1)) (j : Int)) (res j)) :
    Ult l (fun i => loopN (k i) (st i) 0) (res 0) :=
  Ult.forA (A := Unit) hk n (fun _ j => (j : Int)) (fun _ _ => True) (fun _ j => res j) () trivial fun _ j hj _ hn => h j hj fun hlt => hn () hlt trivial
theorem Ult.jn {f : ι → (X → Option R) → Option R} {g : ι → X → Option R} {r : R} (h : Ult l (fun i => f i (g i)) r) : Ult l (fun i => jn (f i) (g i)) r := h
theorem Ult.eq {f : ι → Option R} {r r' : R} (h : Ult l f r) (e : r = r') : Ult l f r' := e ▸ h
theorem Ult.iteS {c : Bool} {f g : ι → Option R} {r r' : R} (h : c = true → Ult l f r) (k : c = false → Ult l g r') : Ult l (fun i => cnd c (f i) (g i)) (if c then r else r') := by
  cases c
  · exact Ult.no rfl (k rfl)
  · exact Ult.yes rfl (h rfl)
theorem Ult.ifS {c : Bool} {p : Prop} [Decidable p] (e : c = decide p) {f g : ι → Option R} {r r' : R} (h : p → Ult l f r) (k : ¬ p → Ult l g r') : Ult l (fun i => cnd c (f i) (g i)) (if p then r else r') := by
  subst e
  by_cases hp : p
  · rw [if_pos hp]; exact Ult.yes (decide_eq_true hp) (h hp)
  · rw [if_neg hp]; exact Ult.no (decide_eq_false hp) (k hp)

/-! ### operations -/
theorem seq_eq (a b : ByteArray) : seq a b = decide (a = b) := by
  unfold seq
  by_cases h : a = b
  · subst h; simp
  · rw [decide_eq_false h, beq_eq_false_iff_ne]
    intro e
    refine h ?_
    rw [ByteArray.toList_eq, ByteArray.toList_eq] at e
    obtain ⟨⟨x⟩⟩ := a
    obtain ⟨⟨y⟩⟩ := b
    simpa using e
theorem sne_eq (a b : ByteArray) : sne a b = decide (a ≠ b) := by
  have := seq_eq a b
  unfold seq at this
  unfold sne
  rw [this]
  by_cases h : a = b <;> simp [h]
theorem ieq_eq (a b : Int) : ieq a b = decide (a = b) := by
  unfold ieq
  by_cases h : a = b <;> simp [h]
theorem ine_eq (a b : Int) : ine a b = decide (a ≠ b) := by
  unfold ine
  by_cases h : a = b <;> simp [h]
theorem igt_eq (a b : Int) : igt a b = decide (b < a) := rfl
theorem ige_eq (a b : Int) : ige a b = decide (b ≤ a) := rfl
theorem ilt_eq (a b : Int) : ilt a b = decide (a < b) := rfl
theorem ile_eq (a b : Int) : ile a b = decide (a ≤ b) := rfl
theorem bnot_eq (a : Bool) : bnot a = !a := rfl
theorem iltL (j : Nat) (l : List α) : ilt (j : Int) (len l) = decide (j < l.length) := by
  unfold ilt len
  by_cases h : j < l.length
  · rw [decide_eq_true h, decide_eq_true (by omega)]
  · rw [decide_eq_false h, decide_eq_false (by omega)]
theorem igt0 (j : Nat) : igt (j : Int) 0 = decide (0 < j) := by
  unfold igt
  by_cases h : 0 < j
  · rw [decide_eq_true h, decide_eq_true (by omega)]
  · rw [decide_eq_false h, decide_eq_false (by omega)]
theorem isucc {j n : Nat} (h : j < n) (hn : n ≤ 9223372036854775807) : iadd .i64 (j : Int) 1 = ((j + 1 : Nat) : Int) := by rw [iadd64 (by omega) (by omega)]; rfl
theorem ipred {j n : Nat} (h0 : 0 < j) (h : j ≤ n) (hn : n ≤ 9223372036854775807) : isub .i64 (j : Int) 1 = ((j - 1 : Nat) : Int) := by rw [isub64 (by omega) (by omega)]; omega
theorem app?_ok {b : Nat} {l r : List α} (h : (l.length + r.length) * (max b 1) ≤ 140737488355328) : app? b l r = some (l ++ r) := by unfold app?; rw [if_pos h]
theorem cat?_ok {a b : ByteArray} (h : a.size + b.size ≤ 9223372036854775807) : cat? a b = some (a ++ b) := by unfold cat?; rw [if_pos h]
theorem cut?_take {l : List α} {j : Nat} (h : j ≤ l.length) : cut? l 0 (j : Int) = some (l.take j) := by
  unfold cut?
  rw [if_pos ⟨Int.le_refl _, by omega, by omega⟩]
  simp
theorem kbeq_pair (a b : ByteArray × ByteArray) : kbeq (.agg (.pair .str .str)) a b = decide (a = b) := by
  show (seq a.1 b.1 && seq a.2 b.2) = _
  rw [seq_eq, seq_eq]
  by_cases h1 : a.1 = b.1 <;> by_cases h2 : a.2 = b.2 <;> simp [h1, h2, Prod.ext_iff]
theorem drop_cons {l : List α} {j : Nat} (h : j < l.length) : l.drop j = l[j] :: l.drop (j + 1) := List.drop_eq_getElem_cons h

/-! ### strings in order -/
def lt (a b : ByteArray) : Prop := a.data.toList < b.data.toList
theorem slt_eq (a b : ByteArray) : slt a b = decide (a.data.toList < b.data.toList) := by
  unfold slt
  rw [ByteArray.toList_eq, ByteArray.toList_eq]
  exact bytesLess_eq _ _
theorem bytes_ext {a b : ByteArray} (h : a.data.toList = b.data.toList) : a = b := by
  obtain ⟨⟨x⟩⟩ := a
  obtain ⟨⟨y⟩⟩ := b
  simpa using h
theorem sle_eq (a b : ByteArray) : sle a b = decide (¬ b.data.toList < a.data.toList) := by
  have h : sle a b = (Op.bytesLess a.toList b.toList || a.toList == b.toList) := rfl
  rw [h, ByteArray.toList_eq, ByteArray.toList_eq, bytesLess_eq]
  by_cases h1 : a.data.toList < b.data.toList
  · simp [h1, List.lt_asymm h1]
  · by_cases h2 : a.data.toList = b.data.toList
    · rw [h2]; simp [List.lt_irrefl]
    · have h3 : b.data.toList < a.data.toList := by
        rcases List.le_total a.data.toList b.data.toList with q | q
        · rcases List.le_iff_lt_or_eq.1 q with q | q
          · exact absurd q h1
          · exact absurd q h2
        · rcases List.le_iff_lt_or_eq.1 q with q | q
          · exact q
          · exact absurd q.symm h2
      have h4 : ¬ a.data = b.data := fun e => h2 (by rw [e])
      simp [h1, h4, h3]
end Go.Proofs.YtbliiipcjbmbiaaGreatDoor.Ev

namespace Go.Proofs.YtbliiipcjbmbiaaGreatDoor.Ev
open Go Go.RowKit
set_option linter.unusedVariables false
set_option linter.unusedSimpArgs false
def mkB (l : List UInt8) : ByteArray := ⟨l.toArray⟩
theorem mkB_data (l : List UInt8) : (mkB l).data.toList = l := by simp [mkB]
theorem mkB_of (s : ByteArray) : mkB s.data.toList = s := bytes_ext (mkB_data _)
theorem mkB_size (l : List UInt8) : (mkB l).size = l.length := rfl
theorem size_list (s : ByteArray) : s.size = s.data.toList.length := by simp
/-- cut at each c -/
def splitL (c : UInt8) : List UInt8 → List (List UInt8)
  | [] => [[]]
  | b :: r => if b = c then [] :: splitL c r else match splitL c r with
    | [] => [[b]]
    | p :: ps => (b :: p) :: ps
theorem splitL_ne (c : UInt8) : ∀ l, splitL c l ≠ []
  | [] => by simp [splitL]
  | b :: r => by
    rw [splitL]
    split
    · simp
    · split <;> simp
theorem splitL_none {c : UInt8} : ∀ {l : List UInt8}, c ∉ l → splitL c l = [l]
  | [], _ => rfl
  | b :: r, h => by
    rw [splitL, if_neg (fun e => h (by simp [e])), splitL_none (fun m => h (by simp [m]))]
theorem splitL_cons {c : UInt8} : ∀ {p : List UInt8} (r : List UInt8), c ∉ p → splitL c (p ++ c :: r) = p :: splitL c r
  | [], r, _ => by simp [splitL]
  | b :: p, r, h => by
    rw [List.cons_append, splitL, if_neg (fun e => h (by simp [e])), splitL_cons r (fun m => h (by simp [m]))]
theorem first_of {c : UInt8} : ∀ {l : List UInt8}, c ∈ l → ∃ p r, l = p ++ c :: r ∧ c ∉ p
  | b :: l, h => by
    by_cases e : b = c
    · exact ⟨[], l, by simp [e], by simp⟩
    · have : c ∈ l := by rcases List.mem_cons.1 h with q | q; exact absurd q.symm e; exact q
      obtain ⟨p, r, rfl, h2⟩ := first_of this
      refine ⟨b :: p, r, rfl, fun m => ?_⟩
      rcases List.mem_cons.1 m with q | q
      · exact e q.symm
      · exact h2 q
theorem splitL_parts {c : UInt8} : ∀ (n : Nat) {l : List UInt8}, l.length ≤ n → ∀ p ∈ splitL c l, c ∉ p ∧ p.length ≤ l.length
  | n, l, hn, p, hp => by
    by_cases h : c ∈ l
    · obtain ⟨a, r, rfl, ha⟩ := first_of h
      rw [splitL_cons r ha] at hp
      rcases List.mem_cons.1 hp with rfl | hp
      · exact ⟨ha, by simp⟩
      · cases n with
        | zero => simp at hn
        | succ n =>
          obtain ⟨h1, h2⟩ := splitL_parts n (l := r) (by simp only [List.length_append, List.length_cons] at hn; omega) p hp
          exact ⟨h1, by simp only [List.length_append, List.length_cons]; omega⟩
    · rw [splitL_none h] at hp
      obtain rfl : p = l := by simpa using hp
      exact ⟨h, Nat.le_refl _⟩
theorem splitL_len {c : UInt8} : ∀ (l : List UInt8), (splitL c l).length ≤ l.length + 1
  | [] => by simp [splitL]
  | b :: r => by
    have ih := splitL_len (c := c) r
    rw [splitL]
    split
    · simp only [List.length_cons]; omega
    · split
      · simp
      · rename_i p ps e
        rw [e] at ih
        simp only [List.length_cons] at ih ⊢
        omega
theorem index_none {c : UInt8} : ∀ {l : List UInt8}, c ∉ l → Lib.index l [c] = -1
  | [], _ => rfl
  | b :: r, h => by
    have hb : b ≠ c := fun e => h (by simp [e])
    have := index_none (fun m => h (by simp [m]) : c ∉ r)
    rw [Lib.index, this]
    have hp : ([c] : List UInt8).isPrefixOf (b :: r) = false := by simp [List.isPrefixOf, Ne.symm hb]
    rw [hp]; simp
theorem index_first {c : UInt8} : ∀ {p : List UInt8} (r : List UInt8), c ∉ p → Lib.index (p ++ c :: r) [c] = (p.length : Int)
  | [], r, _ => by
    rw [List.nil_append, Lib.index]
    have hp : ([c] : List UInt8).isPrefixOf (c :: r) = true := by simp [List.isPrefixOf]
    rw [hp]; simp
  | b :: p, r, h => by
    have hb : b ≠ c := fun e => h (by simp [e])
    have ih := index_first (p := p) r (fun m => h (List.mem_cons_of_mem _ m))
    have ih : Lib.index (p ++ c :: r) [c] = (p.length : Int) := ih
    rw [List.cons_append, Lib.index, ih]
    have hp : ([c] : List UInt8).isPrefixOf (b :: (p ++ c :: r)) = false := by simp [List.isPrefixOf, Ne.symm hb]
    rw [hp]
    have : ¬ ((p.length : Int) == -1) = true := by simp <;> omega
    rw [if_neg (by simp), if_neg this]
    simp
theorem count_none {c : UInt8} {l : List UInt8} (h : c ∉ l) : Lib.count l [c] = 0 := by
  rw [Lib.count_one]; exact List.count_eq_zero.2 h
theorem count_first {c : UInt8} {p : List UInt8} (r : List UInt8) (h : c ∉ p) : Lib.count (p ++ c :: r) [c] = Lib.count r [c] + 1 := by
  rw [Lib.count_one, Lib.count_one, List.count_append, List.count_cons_self, List.count_eq_zero.2 h]; omega
theorem splitK_one {c : UInt8} : ∀ (n : Nat) {l : List UInt8}, l.length ≤ n → Lib.splitK [c] 0 (Lib.count l [c]) l = splitL c l
  | n, l, hn => by
    by_cases h : c ∈ l
    · obtain ⟨a, r, rfl, ha⟩ := first_of h
      rw [splitL_cons r ha, count_first r ha, Lib.splitK, index_first r ha]
      have : ¬ ((a.length : Int) == -1) = true := by simp <;> omega
      rw [if_neg this]
      cases n with
      | zero => simp at hn
      | succ n =>
        have ih := splitK_one (c := c) n (l := r) (by simp only [List.length_append, List.length_cons] at hn; omega)
        simp only [Int.toNat_natCast, Nat.add_zero, List.length_cons, List.length_nil, Nat.zero_add]
        rw [List.take_left' rfl, show (a ++ c :: r).drop (a.length + 1) = r by simp [← List.drop_drop], ih]
    · rw [splitL_none h, count_none h]; rfl
/-- strings.Split at one byte -/
theorem split_one (c : UInt8) (s : ByteArray) : Lib.splitB ⟨#[c]⟩ 0 (Lib.countB s ⟨#[c]⟩) s = (splitL c s.data.toList).map mkB := by
  have h := Lib.splitB_data ⟨#[c]⟩ 0 (Lib.countB s ⟨#[c]⟩) s
  have h2 : Lib.splitK [c] 0 (Lib.countB s ⟨#[c]⟩) s.data.toList = splitL c s.data.toList := splitK_one _ (Nat.le_refl _)
  rw [show (⟨#[c]⟩ : ByteArray).data.toList = [c] from rfl, h2] at h
  rw [← h, List.map_map]
  conv => lhs; rw [← List.map_id (Lib.splitB _ _ _ _)]
  exact List.map_congr_left fun x _ => (mkB_of x).symm
theorem cut_none {c : UInt8} {l : List UInt8} (h : c ∉ l) : Lib.cut l [c] = (l, [], false) := by
  unfold Lib.cut
  rw [index_none h, if_neg (by decide)]
theorem cut_first {c : UInt8} {p : List UInt8} (r : List UInt8) (h : c ∉ p) : Lib.cut (p ++ c :: r) [c] = (p, r, true) := by
  unfold Lib.cut
  rw [index_first r h, if_pos (Int.natCast_nonneg _)]
  simp only [Int.toNat_natCast, List.length_cons, List.length_nil, Nat.zero_add]
  rw [List.take_left' rfl, show (p ++ c :: r).drop (p.length + 1) = r by simp [← List.drop_drop]]
theorem joinTail_cons (sep : List UInt8) (y : List UInt8) (r : List (List UInt8)) : Lib.joinTail sep (y :: r) = sep ++ y ++ Lib.joinTail sep r := by simp [Lib.joinTail]
/-- what was joined is split again -/
theorem splitL_join {c : UInt8} : ∀ (r : List (List UInt8)) (x : List UInt8), c ∉ x → (∀ y ∈ r, c ∉ y) → splitL c (Lib.join (x :: r) [c]) = x :: r
  | [], x, hx, _ => by rw [Lib.join_one, splitL_none hx]
  | y :: r, x, hx, hr => by
    have ih := splitL_join r y (hr y (by simp)) fun z hz => hr z (by simp [hz])
    rw [Lib.join_cons] at ih ⊢
    rw [joinTail_cons, List.append_assoc, List.singleton_append, splitL_cons _ hx, ih]
end Go.Proofs.YtbliiipcjbmbiaaGreatDoor.Ev

namespace Go.Proofs.YtbliiipcjbmbiaaGreatDoor.Ev.Pth
open Go Go.RowKit
set_option linter.unusedVariables false
set_option linter.unusedSimpArgs false
variable {ι R A X α β : Type} {l : ι → Nat}
abbrev File := ByteArray × (Bool × List Int)
theorem bt_get {s : ByteArray} {j : Nat} (h : j < s.size) : bt s (j : Int) = ((s.data.toList[j]'(by simpa using h)).toNat : Int) := by
  unfold bt
  rw [dif_pos (by simpa using h)]
  simp [ByteArray.getElem_eq_getElem_data]
theorem bt?_get {s : ByteArray} {j : Nat} (h : j < s.size) : bt? s (j : Int) = some (bt s (j : Int)) := by unfold bt?; rw [if_pos ⟨Int.natCast_nonneg _, by omega⟩]
theorem iltS (j : Nat) (s : ByteArray) : ilt (j : Int) (ssz s) = decide (j < s.size) := by
  unfold ilt ssz
  by_cases h : j < s.size
  · rw [decide_eq_true h, decide_eq_true (by omega)]
  · rw [decide_eq_false h, decide_eq_false (by omega)]
theorem ssz_small {s : ByteArray} {n : Int} (h : igt (ssz s) n = false) : (s.size : Int) ≤ n := by
  have : ¬ ssz s > n := of_decide_eq_false h
  unfold ssz at this
  omega

/-! ### words -/
/-- a byte of a part of a path -/
def pb (c : Int) : Bool := decide (97 ≤ c ∧ c ≤ 122) || (decide (65 ≤ c ∧ c ≤ 90) || (decide (48 ≤ c ∧ c ≤ 57) || (decide (c = 46) || (decide (c = 95) || (decide (c = 45) || decide (c = 43))))))
def allP (l : List UInt8) : Bool := l.all fun b => pb (b.toNat : Int)
def dot1 : ByteArray := ⟨#[46]⟩
def dot2 : ByteArray := ⟨#[46, 46]⟩
def isPartD (s : ByteArray) : Bool := allP s.data.toList && decide (s ≠ ⟨#[]⟩ ∧ s ≠ dot1 ∧ s ≠ dot2)
def parts (s : ByteArray) : List ByteArray := (splitL 47 s.data.toList).map mkB
def isPathD (s : ByteArray) : Bool := decide (1 ≤ s.size ∧ s.size ≤ 200) && (parts s).all isPartD
theorem isPathD_size {s : ByteArray} (h : isPathD s = true) : 1 ≤ s.size ∧ s.size ≤ 200 := by
  simp only [isPathD, Bool.and_eq_true, decide_eq_true_eq] at h
  exact h.1
theorem parts_len (s : ByteArray) : (parts s).length ≤ s.size + 1 := by
  have := splitL_len (c := 47) s.data.toList
  rw [← size_list] at this
  simpa [parts] using this
theorem parts_size {s p : ByteArray} (h : p ∈ parts s) : p.size ≤ s.size := by
  obtain ⟨x, hx, rfl⟩ := List.mem_map.1 h
  have := (splitL_parts (c := 47) _ (Nat.le_refl _) x hx).2
  rw [← size_list] at this
  rw [mkB_size]; exact this
theorem parts_noslash {s p : ByteArray} (h : p ∈ parts s) : (47 : UInt8) ∉ p.data.toList := by
  obtain ⟨x, hx, rfl⟩ := List.mem_map.1 h
  rw [mkB_data]
  exact (splitL_parts (c := 47) _ (Nat.le_refl _) x hx).1
theorem idx_pb (b : UInt8) : ige (Lib.indexByte [46, 95, 45, 43] (((b.toNat : Int)).toNat.toUInt8)) 0 = (decide ((b.toNat : Int) = 46) || (decide ((b.toNat : Int) = 95) || (decide ((b.toNat : Int) = 45) || decide ((b.toNat : Int) = 43)))) := by
  have key : ∀ n : _root_.Fin 256, ige (Lib.indexByte [46, 95, 45, 43] (((UInt8.ofNat n.1).toNat : Int)).toNat.toUInt8) 0 = (decide (((UInt8.ofNat n.1).toNat : Int) = 46) || (decide (((UInt8.ofNat n.1).toNat : Int) = 95) || (decide (((UInt8.ofNat n.1).toNat : Int) = 45) || decide (((UInt8.ofNat n.1).toNat : Int) = 43)))) := by decide +kernel
  have := key ⟨b.toNat, b.toNat_lt⟩
  simpa using this

/-! ### maps -/
theorem ba_eq (a b : ByteArray) : (a == b) = true ↔ a = b := by
  obtain ⟨x⟩ := a
  obtain ⟨y⟩ := b
  constructor
  · intro h
    have e : x = y := by simpa using (show (x == y) = true from h)
    rw [e]
  · intro h
    cases h
    show (x == x) = true
    simp
theorem keq_eq (a b : ByteArray) : keq a b = decide (a = b) := by
  unfold keq
  rw [Bool.eq_iff_iff, ba_eq, decide_eq_true_iff]
def mputR (m : List (ByteArray × β)) (k : ByteArray) (v : β) : List (ByteArray × β) := match m with
  | [] => [(k, v)]
  | p :: m => if k = p.1 then (p.1, v) :: m else p :: mputR m k v
theorem mput_R : ∀ (m : List (ByteArray × β)) (k : ByteArray) (v : β), mput keq m k v = mputR m k v
  | [], k, v => rfl
  | p :: m, k, v => by
    have ih := mput_R m k v
    unfold mput at ih ⊢
    rw [List.findIdx?_cons, mputR]
    by_cases h : k = p.1
    · rw [if_pos (by rw [keq_eq]; exact decide_eq_true h), if_pos h]; rfl
    · rw [if_neg (by rw [keq_eq, decide_eq_false h]; simp), if_neg h, ← ih]
      cases m.findIdx? fun p => keq k p.1 <;> rfl
theorem mget_nil (s : ByteArray) : mget? keq ([] : List (ByteArray × β)) s = none := rfl
theorem mget_cons (p : ByteArray × β) (m : List (ByteArray × β)) (s : ByteArray) : mget? keq (p :: m) s = if s = p.1 then some p.2 else mget? keq m s := by
  unfold mget?
  rw [List.find?_cons]
  by_cases h : s = p.1
  · rw [if_pos h, show keq s p.1 = true by rw [keq_eq]; exact decide_eq_true h]; rfl
  · rw [if_neg h, show keq s p.1 = false by rw [keq_eq]; exact decide_eq_false h]
theorem mget_mput : ∀ (m : List (ByteArray × β)) (k : ByteArray) (v : β) (s : ByteArray), mget? keq (mput keq m k v) s = if s = k then some v else mget? keq m s := by
  intro m k v s
  rw [mput_R]
  induction m with
  | nil => rw [mputR, mget_cons]
  | cons p m ih =>
    rw [mputR]
    by_cases h : k = p.1
    · rw [if_pos h, mget_cons, mget_cons, h]
      by_cases e : s = p.1
      · rw [if_pos e, if_pos e]
      · rw [if_neg e, if_neg e, if_neg e]
    · rw [if_neg h, mget_cons, mget_cons, ih]
      by_cases e : s = p.1
      · rw [if_pos e, if_pos e, if_neg (fun q => h (q.symm.trans e))]
      · rw [if_neg e, if_neg e]
theorem mput_len (m : List (ByteArray × β)) (k : ByteArray) (v : β) : (mput keq m k v).length ≤ m.length + 1 := by
  rw [mput_R]
  induction m with
  | nil => simp [mputR]
  | cons p m ih =>
    rw [mputR]
    split
    · simp
    · simp only [List.length_cons]; omega

/-! ### files in order -/
def Asc (l : List File) : Prop := l.Pairwise fun p q => lt p.1 q.1
instance (a b : ByteArray) : Decidable (lt a b) := inferInstanceAs (Decidable (a.data.toList < b.data.toList))
theorem lt_irrefl (a : ByteArray) : ¬ lt a a := List.lt_irrefl _
theorem lt_trans {a b c : ByteArray} (h : lt a b) (k : lt b c) : lt a c := List.lt_trans h k
theorem lt_asymm {a b : ByteArray} (h : lt a b) : ¬ lt b a := List.lt_asymm h
theorem lt_tri {a b : ByteArray} (h : ¬ lt a b) (k : ¬ lt b a) : a = b := by
  unfold lt at h k
  rcases List.le_total a.data.toList b.data.toList with q | q
  · rcases List.le_iff_lt_or_eq.1 q with q | q
    · exact absurd q h
    · exact bytes_ext q
  · rcases List.le_iff_lt_or_eq.1 q with q | q
    · exact absurd q k
    · exact bytes_ext q.symm
theorem lt_of_le_lt {a b c : ByteArray} (h : ¬ lt b a) (k : lt b c) : lt a c := by
  rcases Classical.em (lt a b) with q | q
  · exact lt_trans q k
  · rw [lt_tri q h]; exact k
theorem Asc.get {L : List File} (h : Asc L) {i j : Nat} (hij : i < j) (hj : j < L.length) : lt (L[i]'(by omega)).1 L[j].1 := List.pairwise_iff_getElem.1 h i j (by omega) hj hij
/-- a file has the path -/
def inF (l : List File) (p : ByteArray) : Bool := l.any fun x => decide (x.1 = p)
theorem inF_iff {l : List File} {p : ByteArray} : inF l p = true ↔ ∃ x ∈ l, x.1 = p := by unfold inF; simp
/-- a file has a path within which this one lies -/
def clash (inn : ByteArray → Bool) (s : ByteArray) (j : Nat) : Bool := ((List.range s.size).drop j).any fun i => decide (bt s (i : Int) = 47) && inn (s.extract 0 i)
def inside (l : List File) (s : ByteArray) : Bool := clash (inF l) s 0
theorem clash_end {inn : ByteArray → Bool} {s : ByteArray} {j : Nat} (h : s.size ≤ j) : clash inn s j = false := by
  unfold clash; rw [List.drop_eq_nil_of_le (by simpa using h)]; rfl
theorem clash_step {inn : ByteArray → Bool} {s : ByteArray} {j : Nat} (h : j < s.size) : clash inn s j = ((decide (bt s (j : Int) = 47) && inn (s.extract 0 j)) || clash inn s (j + 1)) := by
  unfold clash
  rw [List.drop_eq_getElem_cons (by simpa using h), List.any_cons, List.getElem_range]
theorem clash_congr {f g : ByteArray → Bool} (h : ∀ s, f s = g s) (s : ByteArray) (j : Nat) : clash f s j = clash g s j := by rw [show f = g from funext h]
theorem sub?_take {s : ByteArray} {j : Nat} (h : j ≤ s.size) : sub? s 0 (j : Int) = some (s.extract 0 j) := by
  unfold sub?
  rw [if_pos ⟨by omega, by omega, by omega⟩, Int.toNat_natCast]; rfl

/-! ### CheckFiles -/
def firstNZ (l : List Int) : Int := (l.find? fun x => decide (x ≠ 0)).getD 0
theorem firstNZ_nil : firstNZ [] = 0 := rfl
theorem firstNZ_cons (x : Int) (r : List Int) : firstNZ (x :: r) = if x ≠ 0 then x else firstNZ r := by
  unfold firstNZ
  rw [List.find?_cons]
  by_cases h : x = 0
  · subst h; rfl
  · rw [if_pos h, decide_eq_true h]; rfl
theorem firstNZ_zero : ∀ {l : List Int}, firstNZ l = 0 ↔ ∀ x ∈ l, x = 0
  | [] => by simp [firstNZ_nil]
  | x :: r => by
    rw [firstNZ_cons]
    by_cases h : x = 0
    · rw [if_neg (by simp [h]), firstNZ_zero (l := r)]; simp [h]
    · rw [if_pos h]; simp [h]
def fileErr (l : List File) (j : Nat) : Int :=
  if isPathD (l.getD j default).1 = false then 3 else if 100000 < (l.getD j default).2.2.length then 2 else if 0 < j ∧ ¬ lt (l.getD (j - 1) default).1 (l.getD j default).1 then 8 else 0
theorem rng {c a b : Int} {F : ι → Option Bool} {r : Bool} (h : Ult l F r) : Ult l (fun i => cnd (ige c a) (cnd (ile c b) (some true) (F i)) (F i)) (decide (a ≤ c ∧ c ≤ b) || r) := by
  by_cases h1 : a ≤ c
  · refine Ult.yes (decide_eq_true h1) ?_
    by_cases h2 : c ≤ b
    · exact Ult.yes (decide_eq_true h2) (Ult.ret.eq (by simp [h1, h2]))
    · exact Ult.no (decide_eq_false h2) (h.eq (by simp [h1, h2]))
  · exact Ult.no (decide_eq_false h1) (h.eq (by simp [h1]))
theorem isc {c a : Int} {F : ι → Option Bool} {r : Bool} (h : Ult l F r) : Ult l (fun i => cnd (ieq c a) (some true) (F i)) (decide (c = a) || r) := by
  by_cases h1 : c = a
  · exact Ult.yes (by rw [ieq_eq]; exact decide_eq_true h1) (Ult.ret.eq (by simp [h1]))
  · exact Ult.no (by rw [ieq_eq]; exact decide_eq_false h1) (h.eq (by simp [h1]))
theorem inPart_spec (b : UInt8) : Ultk (fun k => S126 k ((b.toNat : Int), ())) (pb (b.toNat : Int)) := by
  unfold S126 pb
  rw [← idx_pb b]
  exact rng (rng (rng (Ult.bind (a := Lib.indexByte [46, 95, 45, 43] ((b.toNat : Int)).toNat.toUInt8) ⟨0, fun _ _ => rfl⟩ Ult.ret)))

theorem part_loop (f : Nat → Int × Unit → Option Bool) (hf : ∀ b : UInt8, Ultk (fun k => f k ((b.toNat : Int), ())) (pb (b.toNat : Int))) (s : ByteArray) (hs : s.size ≤ 9223372036854775807) :
    Ultk (fun k => loopN k (fun (a2 : (Int → (Option Bool))) (a3 : Int) => cnd (ilt a3 (ssz s)) (bnd (bt? s a3) (fun (a4 : Int) => bnd (f k (a4, ())) (fun (a5 : Bool) => cnd (bnot a5) (some false) (a2 (iadd Go.IntKind.i64 a3 1))))) (cnd (sne s (⟨#[]⟩ : ByteArray)) (cnd (sne s (⟨#[46]⟩ : ByteArray)) (some (sne s (⟨#[46, 46]⟩ : ByteArray))) (some false)) (some false))) 0) (isPartD s) := by
  refine (Ult.forI (fun _ => Nat.le_refl _) s.size (fun j => allP (s.data.toList.drop j) && decide (s ≠ ⟨#[]⟩ ∧ s ≠ dot1 ∧ s ≠ dot2)) fun j hj next => ?_).eq (by rw [List.drop_zero]; rfl)
  rw [iltS]
  by_cases hlt : j < s.size
  · have hl : j < s.data.toList.length := by simpa using hlt
    refine Ult.yes (decide_eq_true hlt) (Ult.bindc (bt?_get hlt) ?_)
    rw [bt_get hlt]
    refine Ult.bind (Ult.call (l := lp fun k : Nat => k) (f := fun k => f k (((s.data.toList[j]).toNat : Int), ())) (lp_le _ _ fun _ => Nat.le_refl _) (hf s.data.toList[j])) ?_
    rw [isucc hlt hs, drop_cons hl]
    unfold allP at next ⊢
    rw [List.all_cons]
    cases hb : pb ((s.data.toList[j]).toNat : Int) with
    | true => exact Ult.no rfl ((next hlt).eq (by simp))
    | false => exact Ult.yes rfl (Ult.ret.eq (by simp))
  · refine Ult.no (decide_eq_false hlt) ?_
    rw [List.drop_eq_nil_of_le (by simp; omega), sne_eq, sne_eq, sne_eq]
    by_cases h1 : s = ⟨#[]⟩
    · exact Ult.no (by simp [h1]) (Ult.ret.eq (by simp [h1]))
    refine Ult.yes (by simp [h1]) ?_
    by_cases h2 : s = dot1
    · exact Ult.no (decide_eq_false (fun q => q h2)) (Ult.ret.eq (by simp [h2]))
    refine Ult.yes (decide_eq_true h2) (Ult.ret.eq ?_)
    simp only [allP, List.all_nil, Bool.true_and, decide_eq_decide]
    exact ⟨fun h => ⟨h1, h2, h⟩, fun h => h.2.2⟩
theorem isPart_spec (s : ByteArray) (hs : s.size ≤ 9223372036854775807) : Ultk (fun k => S101 k (s, ())) (isPartD s) := by
  unfold S101
  exact part_loop S126 inPart_spec s hs

theorem all_loop (f : Nat → ByteArray × Unit → Option Bool) (q : ByteArray → Bool) (A : List ByteArray) (hA : A.length ≤ 9223372036854775807) (hf : ∀ s ∈ A, Ultk (fun k => f k (s, ())) (q s)) :
    Ultk (fun k => loopN k (fun (a4 : (Int → (Option Bool))) (a5 : Int) => cnd (ilt a5 (len A)) (bnd (at? A a5) (fun (a6 : ByteArray) => bnd (f k (a6, ())) (fun (a7 : Bool) => cnd (bnot a7) (some false) (a4 (iadd Go.IntKind.i64 a5 1))))) (some true)) 0) (A.all q) := by
  refine (Ult.forI (fun _ => Nat.le_refl _) A.length (fun j => (A.drop j).all q) fun j hj next => ?_).eq (by rw [List.drop_zero])
  rw [iltL]
  by_cases hlt : j < A.length
  · refine Ult.yes (decide_eq_true hlt) (Ult.bindc (at?_nat hlt) ?_)
    refine Ult.bind (Ult.call (l := lp fun k : Nat => k) (f := fun k => f k (A[j], ())) (lp_le _ _ fun _ => Nat.le_refl _) (hf A[j] (List.getElem_mem hlt))) ?_
    rw [isucc hlt hA, drop_cons hlt, List.all_cons]
    cases hb : q A[j] with
    | true => exact Ult.no rfl ((next hlt).eq (by simp))
    | false => exact Ult.yes rfl (Ult.ret.eq (by simp))
  · refine Ult.no (decide_eq_false hlt) (Ult.ret.eq ?_)
    rw [List.drop_eq_nil_of_le (by omega)]; rfl
def sl : ByteArray := ⟨#[47]⟩
theorem split_spec (s : ByteArray) (h : s.size < 4294967281) : Ultk (fun k => S94 k (s, (⟨#[47]⟩ : ByteArray), ())) (parts s) :=
  ⟨0, fun k _ => by
    unfold S94
    rw [if_pos ⟨h, show 1 ≤ (⟨#[47]⟩ : ByteArray).size by decide⟩]
    exact congrArg some (split_one 47 s)⟩
theorem isPath_spec (s : ByteArray) : Ultk (fun k => S59 k (s, ())) (isPathD s) := by
  unfold S59 isPathD
  refine Ult.jn ?_
  dsimp only
  by_cases h1 : s.size < 1
  · exact Ult.yes (by simp only [ilt_eq, ssz, decide_eq_true_eq]; omega) (Ult.ret.eq (by rw [decide_eq_false (by omega)]; rfl))
  refine Ult.no (by simp only [ilt_eq, ssz, decide_eq_false_iff_not]; omega) ?_
  by_cases h2 : 200 < s.size
  · exact Ult.yes (by simp only [igt_eq, ssz, decide_eq_true_eq]; omega) (Ult.ret.eq (by rw [decide_eq_false (by omega)]; rfl))
  refine Ult.no (by simp only [igt_eq, ssz, decide_eq_false_iff_not]; omega) (Ult.bind (split_spec s (by omega)) ?_)
  refine (all_loop S101 isPartD (parts s) (by have := parts_len s; omega) fun p hp => isPart_spec p (by have := parts_size hp; omega)).eq ?_
  rw [decide_eq_true (by omega), Bool.true_and]
end Go.Proofs.YtbliiipcjbmbiaaGreatDoor.Ev.Pth

namespace Go.Proofs.YtbliiipcjbmbiaaGreatDoor.Ev
open Go Go.RowKit
set_option linter.unusedVariables false
set_option linter.unusedSimpArgs false
variable {ι R α X : Type} {l : ι → Nat}
theorem splitL_mem' {c x : UInt8} (hc : x ≠ c) : ∀ (n : Nat) {l : List UInt8}, l.length ≤ n → x ∈ l → ∃ p ∈ splitL c l, x ∈ p
  | n, l, hn, hx => by
    by_cases hm : c ∈ l
    · obtain ⟨p, r, rfl, hp⟩ := first_of hm
      rw [splitL_cons r hp]
      rcases List.mem_append.1 hx with h | h
      · exact ⟨p, List.mem_cons_self .., h⟩
      · rcases List.mem_cons.1 h with h | h
        · exact (hc h).elim
        · cases n with
          | zero => simp at hn
          | succ n =>
            obtain ⟨q, q1, q2⟩ := splitL_mem' hc n (l := r) (by simp at hn; omega) h
            exact ⟨q, List.mem_cons_of_mem _ q1, q2⟩
    · rw [splitL_none hm]
      exact ⟨l, List.mem_singleton.2 rfl, hx⟩
theorem splitL_mem {c x : UInt8} {l : List UInt8} (hx : x ∈ l) (hc : x ≠ c) : ∃ p ∈ splitL c l, x ∈ p := splitL_mem' hc l.length (Nat.le_refl _) hx
/-- a path has no colon -/
theorem path_colon {s : ByteArray} (h : Pth.isPathD s = true) : (58 : UInt8) ∉ s.data.toList := by
  intro hm
  obtain ⟨p, p1, p2⟩ := splitL_mem (c := 47) hm (by decide)
  unfold Pth.isPathD at h
  rw [Bool.and_eq_true] at h
  have h1 := List.all_eq_true.1 h.2 (mkB p) (List.mem_map.2 ⟨p, p1, rfl⟩)
  unfold Pth.isPartD at h1
  rw [Bool.and_eq_true] at h1
  have h2 := List.all_eq_true.1 h1.1 58 (by rw [mkB_data]; exact p2)
  revert h2
  decide
def okL (p n : ByteArray) : Bool := (decide (p = ⟨#[]⟩) || Pth.isPathD p) && Pth.isPathD n
def okI (p n : ByteArray) : Int := if okL p n = true then 0 else 3
theorem chkL_spec (p n : ByteArray) : Ultk (fun k => S28 k ((p, n), ())) (okI p n) := by
  unfold S28
  dsimp only
  have hn := Pth.isPath_spec n
  have hp := Pth.isPath_spec p
  rw [sne_eq]
  unfold okI okL
  by_cases h0 : p = ⟨#[]⟩
  · refine Ult.no (by simp [h0]) (Ult.bind hn ?_)
    cases hN : Pth.isPathD n
    · exact Ult.yes rfl (by simp; exact Ult.ret)
    · exact Ult.no rfl (by simp [h0]; exact Ult.ret)
  · refine Ult.yes (by simp [h0]) (Ult.bind hp ?_)
    cases hP : Pth.isPathD p
    · exact Ult.yes rfl (by simp [h0]; exact Ult.ret)
    · refine Ult.no rfl (Ult.bind hn ?_)
      cases hN : Pth.isPathD n
      · exact Ult.yes rfl (by simp; exact Ult.ret)
      · exact Ult.no rfl (by simp; exact Ult.ret)
def lastIdx (s : ByteArray) : Nat → Int
  | 0 => -1
  | j + 1 => if bt s (j : Int) = 47 then (j : Int) else lastIdx s j
theorem lastIdx_low (s : ByteArray) : ∀ j : Nat, -1 ≤ lastIdx s j ∧ lastIdx s j < (j : Int)
  | 0 => ⟨Int.le_refl _, by show (-1 : Int) < ((0 : Nat) : Int); decide⟩
  | j + 1 => by
    unfold lastIdx
    have := lastIdx_low s j
    split <;> omega
theorem lastByte_spec (s : ByteArray) (hs : s.size ≤ 9223372036854775807) : Ultk (fun k => S129 k (s, 47, ())) (lastIdx s s.size) := by
  unfold S129
  dsimp only
  have h0 : isub .i64 (ssz s) 1 = (s.size : Int) - 1 := isub64 (by unfold ssz; omega) (by unfold ssz; omega)
  rw [h0]
  refine Ult.loopI (fun _ => Nat.le_refl _) (fun x => ∃ j : Nat, j ≤ s.size ∧ x = (j : Int) - 1 ∧ lastIdx s j = lastIdx s s.size) (fun x => (x + 1).toNat) ⟨s.size, Nat.le_refl _, rfl, rfl⟩ ?_
  rintro x ⟨j, hj, rfl, hl⟩ ih
  rw [ige_eq]
  cases j with
  | zero =>
    refine Ult.no (by decide) ?_
    rw [← hl]
    exact Ult.ret
  | succ j =>
    have e : ((j + 1 : Nat) : Int) - 1 = (j : Int) := by omega
    rw [e]
    refine Ult.yes (by simp) (Ult.bindc (bt?_nat (by omega)) ?_)
    rw [ieq_eq]
    by_cases hb : bt s (j : Int) = 47
    · refine Ult.yes (by simp [hb]) ?_
      rw [← hl]
      unfold lastIdx
      rw [if_pos hb]
      exact Ult.ret
    · refine Ult.no (by simp [hb]) ?_
      rw [isub64 (by omega) (by omega)]
      refine ih _ ⟨j, by omega, rfl, ?_⟩ (by omega)
      rw [← hl]
      conv => rhs; unfold lastIdx
      rw [if_neg hb]
def lastD (s : ByteArray) : ByteArray := s.extract (lastIdx s s.size + 1).toNat s.size
theorem last_spec (s : ByteArray) (hs : s.size ≤ 9223372036854775806) : Ultk (fun k => S62 k (s, ())) (lastD s) := by
  unfold S62
  dsimp only
  have h1 : Ultk (fun k => S104 k (s, 47, ())) (lastIdx s s.size) := by
    unfold S104
    exact Ult.bind (lastByte_spec s (by omega)) Ult.ret
  have hl := lastIdx_low s s.size
  refine Ult.bind h1 ?_
  rw [iadd64 (by omega) (by omega)]
  refine Ult.bindc (a := lastD s) ?_ Ult.ret
  unfold sub? lastD ssz
  rw [if_pos ⟨by omega, by omega, by omega⟩]
  simp

/-! ### prefixes -/
theorem ext_take (s : ByteArray) (n : Nat) : (s.extract 0 n).data.toList = s.data.toList.take n := by simp
theorem ext_drop (s : ByteArray) (n : Nat) : (s.extract n s.size).data.toList = s.data.toList.drop n := by
  have : (s.extract n s.size).data.toList = (s.data.toList.take s.size).drop n := by
    simp only [ByteArray.data_extract, Array.toList_extract, List.extract_eq_take_drop]
    rw [List.drop_take]
  rw [this, List.take_of_length_le (by rw [size_list]; exact Nat.le_refl _)]
theorem hasPre_spec (x p : ByteArray) : Ultk (fun k => S127 k (x, p, ())) (decide (p.data.toList <+: x.data.toList)) := by
  unfold S127
  dsimp only
  rw [ige_eq]
  by_cases h : p.size ≤ x.size
  · refine Ult.yes (by simp [ssz]; omega) (Ult.bindc (a := x.extract 0 p.size) ?_ ?_)
    · unfold sub? ssz
      rw [if_pos ⟨by omega, by omega, by omega⟩]
      simp
    · rw [seq_eq]
      refine Ult.eq Ult.ret ?_
      refine decide_eq_decide.2 ⟨fun e => ?_, fun e => ?_⟩
      · rw [← e, ext_take]
        exact List.take_prefix _ _
      · apply bytes_ext
        rw [ext_take]
        obtain ⟨r, hr⟩ := e
        rw [← hr, size_list]
        simp
  · refine Ult.no (by simp [ssz]; omega) (Ult.eq Ult.ret ?_)
    refine (decide_eq_false fun e => h ?_).symm
    have := e.length_le
    rwa [← size_list, ← size_list] at this
theorem cutPre_yes (x p : ByteArray) (r : List UInt8) (h : x.data.toList = p.data.toList ++ r) : Ultk (fun k => S60 k (x, p, ())) (mkB r, true) := by
  have h1 : Ultk (fun k => S102 k (x, p, ())) (mkB r, true) := by
    unfold S102
    dsimp only
    refine Ult.bind (hasPre_spec x p) (Ult.no ?_ (Ult.bindc (a := mkB r) ?_ Ult.ret))
    · rw [decide_eq_true (show p.data.toList <+: x.data.toList from ⟨r, h.symm⟩)]; rfl
    · unfold sub? ssz
      have hs : p.size ≤ x.size := by rw [size_list, size_list, h]; simp
      rw [if_pos ⟨by omega, by omega, by omega⟩]
      refine congrArg some (bytes_ext ?_)
      show (x.extract p.size x.size).data.toList = _
      rw [ext_drop, h, mkB_data, size_list]
      simp
  unfold S60
  exact Ult.bind h1 Ult.ret
theorem cutPre_no (x p : ByteArray) (h : ¬ p.data.toList <+: x.data.toList) : Ultk (fun k => S60 k (x, p, ())) (x, false) := by
  have h1 : Ultk (fun k => S102 k (x, p, ())) (x, false) := by
    unfold S102
    dsimp only
    refine Ult.bind (hasPre_spec x p) (Ult.yes ?_ Ult.ret)
    rw [decide_eq_false h]; rfl
  unfold S60
  exact Ult.bind h1 Ult.ret
theorem cut_yes (x : ByteArray) (a b : List UInt8) (hx : x.size < 4294967281) (h : x.data.toList = a ++ 58 :: b) (ha : (58 : UInt8) ∉ a) : Ultk (fun k => S61 k (x, (⟨#[58]⟩ : ByteArray), ())) (mkB a, mkB b, true) :=
  ⟨0, fun k _ => by
    show cutF x ⟨#[58]⟩ = _
    unfold cutF
    rw [if_pos hx, show (⟨#[58]⟩ : ByteArray).data.toList = [58] from rfl, h, cut_first b ha]
    rfl⟩
theorem cut_no (x : ByteArray) (hx : x.size < 4294967281) (ha : (58 : UInt8) ∉ x.data.toList) : Ultk (fun k => S61 k (x, (⟨#[58]⟩ : ByteArray), ())) (x, mkB [], false) :=
  ⟨0, fun k _ => by
    show cutF x ⟨#[58]⟩ = _
    unfold cutF
    rw [if_pos hx, show (⟨#[58]⟩ : ByteArray).data.toList = [58] from rfl, cut_none ha]
    rfl⟩
end Go.Proofs.YtbliiipcjbmbiaaGreatDoor.Ev

namespace Go.Proofs.YtbliiipcjbmbiaaGreatDoor.Ev
open Go Go.RowKit
set_option linter.unusedVariables false
set_option linter.unusedSimpArgs false
variable {ι R α X : Type} {l : ι → Nat}
abbrev Lab := ByteArray × ByteArray
def isPk (p : ByteArray) : Prop := p = ⟨#[]⟩ ∨ Pth.isPathD p = true
theorem pkg_key {R : Type} {pkg : ByteArray} {r e : R} (hp : isPk pkg) (G : Nat → Option R) (h : Ultk (fun k => G k) r) :
    Ultk (fun k => cnd (sne pkg (⟨#[]⟩ : ByteArray)) (bnd (S59 k (pkg, ())) (fun a3 => cnd (bnot a3) (some e) (G k))) (G k)) r := by
  rcases hp with hp | hp
  · exact Ult.no (by rw [sne_eq]; simp [hp]) h
  · exact Ult.ite (fun _ => Ult.bind (Pth.isPath_spec pkg) (Ult.no (by rw [hp]; rfl) h)) (fun _ => h)
theorem chk_end {p n : ByteArray} (h : okL p n = true) : Ultk (fun k => bnd (S28 k ((p, n), ())) (fun a6 => cnd (ine a6 0) (some (((⟨#[]⟩ : ByteArray), (⟨#[]⟩ : ByteArray)), (10 : Int))) (some ((p, n), (0 : Int))))) ((p, n), (0 : Int)) := by
  have := chkL_spec p n
  unfold okI at this
  rw [if_pos h] at this
  exact Ult.bind this (Ult.no (by decide) Ult.ret)
theorem read_own {x pkg n : ByteArray} (hp : isPk pkg) (hok : okL pkg n = true) (hx : x.data.toList = 58 :: n.data.toList) : Ultk (fun k => S26 k (x, pkg, ())) ((pkg, n), (0 : Int)) := by
  unfold S26
  dsimp only
  refine Ult.jn ?_
  dsimp only
  refine pkg_key hp _ ?_
  have h1 := cutPre_no x (⟨#[47, 47]⟩ : ByteArray) (by rw [hx]; rintro ⟨r, hr⟩; exact absurd (List.cons.inj hr).1 (by decide))
  have h2 := cutPre_yes x (⟨#[58]⟩ : ByteArray) n.data.toList (by rw [hx]; rfl)
  rw [mkB_of] at h2
  refine Ult.bind h1 (Ult.bind h2 (Ult.jn ?_))
  dsimp only
  exact Ult.no rfl (Ult.yes rfl (chk_end hok))
theorem read_short {x pkg p : ByteArray} (hp : isPk pkg) (hP : Pth.isPathD p = true) (hok : okL p (lastD p) = true) (hx : x.data.toList = 47 :: 47 :: p.data.toList) : Ultk (fun k => S26 k (x, pkg, ())) ((p, lastD p), (0 : Int)) := by
  unfold S26
  dsimp only
  refine Ult.jn ?_
  dsimp only
  refine pkg_key hp _ ?_
  have hsz := Pth.isPathD_size hP
  have h1 := cutPre_yes x (⟨#[47, 47]⟩ : ByteArray) p.data.toList (by rw [hx]; rfl)
  rw [mkB_of] at h1
  have h2 := cutPre_no x (⟨#[58]⟩ : ByteArray) (by rw [hx]; rintro ⟨r, hr⟩; exact absurd (List.cons.inj hr).1 (by decide))
  have h3 := cut_no p (by omega) (path_colon hP)
  have h4 := last_spec p (by omega)
  refine Ult.bind h1 (Ult.bind h2 (Ult.jn ?_))
  dsimp only
  exact Ult.yes rfl (Ult.bind h3 (Ult.yes rfl (Ult.bind h4 (chk_end hok))))
theorem read_whole {x pkg p n : ByteArray} (hp : isPk pkg) (hpk : isPk p) (hok : okL p n = true) (hn : n.size ≤ 200) (hx : x.data.toList = 47 :: 47 :: (p.data.toList ++ 58 :: n.data.toList)) : Ultk (fun k => S26 k (x, pkg, ())) ((p, n), (0 : Int)) := by
  unfold S26
  dsimp only
  refine Ult.jn ?_
  dsimp only
  refine pkg_key hp _ ?_
  have hsz : p.size ≤ 200 := by
    rcases hpk with h | h
    · rw [h]; decide
    · exact (Pth.isPathD_size h).2
  have hc : (58 : UInt8) ∉ p.data.toList := by
    rcases hpk with h | h
    · rw [h]; simp
    · exact path_colon h
  have h1 := cutPre_yes x (⟨#[47, 47]⟩ : ByteArray) (p.data.toList ++ 58 :: n.data.toList) (by rw [hx]; rfl)
  have h2 := cutPre_no x (⟨#[58]⟩ : ByteArray) (by rw [hx]; rintro ⟨r, hr⟩; exact absurd (List.cons.inj hr).1 (by decide))
  have h3 := cut_yes (mkB (p.data.toList ++ 58 :: n.data.toList)) p.data.toList n.data.toList (by
    rw [mkB_size, List.length_append, List.length_cons, ← size_list, ← size_list]; omega) (mkB_data _) hc
  rw [mkB_of, mkB_of] at h3
  refine Ult.bind h1 (Ult.bind h2 (Ult.jn ?_))
  dsimp only
  exact Ult.yes rfl (Ult.bind h3 (Ult.no rfl (chk_end hok)))
/-- what a label's text is -/
theorem cat_data {a b : ByteArray} : (a ++ b).data.toList = a.data.toList ++ b.data.toList := by simp
theorem whole_spec (p n : ByteArray) (hp : p.size ≤ 200) (hn : n.size ≤ 200) : Fink (fun k => S65 k ((p, n), ())) (fun x => x.data.toList = 47 :: 47 :: (p.data.toList ++ 58 :: n.data.toList)) := by
  unfold S65
  dsimp only
  have z2 : (⟨#[47, 47]⟩ : ByteArray).size = 2 := rfl
  have z1 : (⟨#[58]⟩ : ByteArray).size = 1 := rfl
  have s1 : ((⟨#[47, 47]⟩ : ByteArray) ++ p).size = 2 + p.size := by rw [ByteArray.size_append]; rfl
  have s2 : ((⟨#[47, 47]⟩ : ByteArray) ++ p ++ (⟨#[58]⟩ : ByteArray)).size = 2 + p.size + 1 := by rw [ByteArray.size_append, s1]; rfl
  refine Fin.bindc (cat?_ok (by omega)) (Fin.bindc (cat?_ok (by omega)) (Fin.bindc (cat?_ok (by omega)) (Fin.ret ?_)))
  rw [cat_data, cat_data, cat_data]
  simp
theorem text_spec (p n pkg : ByteArray) : Fink (fun k => S30 k ((p, n), pkg, ())) (fun r => (r.1 = ⟨#[]⟩ ∧ r.2 ≠ 0) ∨ (r.2 = 0 ∧ okL p n = true ∧ isPk pkg ∧
    ((p = pkg ∧ r.1.data.toList = 58 :: n.data.toList) ∨ (Pth.isPathD p = true ∧ lastD p = n ∧ r.1.data.toList = 47 :: 47 :: p.data.toList) ∨ r.1.data.toList = 47 :: 47 :: (p.data.toList ++ 58 :: n.data.toList)))) := by
  unfold S30
  dsimp only
  have hc := chkL_spec p n
  refine Fin.bindu hc ?_
  by_cases hok : okL p n = true
  rotate_left
  · have e : okI p n = 3 := by unfold okI; rw [if_neg hok]
    rw [e]
    refine Fin.of (Ult.yes (by decide) Ult.ret) (.inl ⟨rfl, by decide⟩)
  have e : okI p n = 0 := by unfold okI; rw [if_pos hok]
  rw [e]
  have hok' := hok
  unfold okL at hok'
  rw [Bool.and_eq_true, Bool.or_eq_true] at hok'
  have hpk : isPk p := hok'.1.imp (fun h => of_decide_eq_true h) id
  have hn := (Pth.isPathD_size hok'.2).2
  have hps : p.size ≤ 200 := by
    rcases hpk with h | h
    · rw [h]; decide
    · exact (Pth.isPathD_size h).2
  refine Fin.ite (fun h => absurd h (by decide)) (fun _ => ?_)
  show Fink (fun k => _) _
  unfold jn
  dsimp only
  have z2 : (⟨#[47, 47]⟩ : ByteArray).size = 2 := rfl
  have z1 : (⟨#[58]⟩ : ByteArray).size = 1 := rfl
  have tail : isPk pkg → Fink (fun k => cnd (seq p pkg) (bnd (cat? (⟨#[58]⟩ : ByteArray) n) (fun a4 => some (a4, (0 : Int)))) (cnd (sne p (⟨#[]⟩ : ByteArray)) (bnd (S62 k (p, ())) (fun a4 => cnd (seq a4 n) (bnd (cat? (⟨#[47, 47]⟩ : ByteArray) p) (fun a5 => some (a5, (0 : Int)))) (bnd (S65 k ((p, n), ())) (fun a5 => some (a5, (0 : Int)))))) (bnd (S65 k ((p, n), ())) (fun a4 => some (a4, (0 : Int))))))
      (fun r => (r.1 = ⟨#[]⟩ ∧ r.2 ≠ 0) ∨ (r.2 = 0 ∧ okL p n = true ∧ isPk pkg ∧
    ((p = pkg ∧ r.1.data.toList = 58 :: n.data.toList) ∨ (Pth.isPathD p = true ∧ lastD p = n ∧ r.1.data.toList = 47 :: 47 :: p.data.toList) ∨ r.1.data.toList = 47 :: 47 :: (p.data.toList ++ 58 :: n.data.toList)))) := fun hpkg => by
    have hw : Fink (fun k => bnd (S65 k ((p, n), ())) (fun a5 => some (a5, (0 : Int)))) (fun r => (r.1 = ⟨#[]⟩ ∧ r.2 ≠ 0) ∨ (r.2 = 0 ∧ okL p n = true ∧ isPk pkg ∧
    ((p = pkg ∧ r.1.data.toList = 58 :: n.data.toList) ∨ (Pth.isPathD p = true ∧ lastD p = n ∧ r.1.data.toList = 47 :: 47 :: p.data.toList) ∨ r.1.data.toList = 47 :: 47 :: (p.data.toList ++ 58 :: n.data.toList)))) :=
      Fin.bind (whole_spec p n hps hn) fun a ha => Fin.ret (.inr ⟨rfl, hok, hpkg, .inr (.inr ha)⟩)
    rw [seq_eq, sne_eq]
    refine Fin.ite (fun h => ?_) (fun _ => Fin.ite (fun h => ?_) (fun _ => hw))
    · have h := of_decide_eq_true h
      refine Fin.bindc (cat?_ok (by omega)) (Fin.ret (.inr ⟨rfl, hok, hpkg, .inl ⟨h, ?_⟩⟩))
      rw [cat_data]; rfl
    · have h := of_decide_eq_true h
      have hP : Pth.isPathD p = true := hpk.resolve_left h
      refine Fin.bindu (last_spec p (by omega)) ?_
      rw [seq_eq]
      refine Fin.ite (fun h2 => ?_) (fun _ => hw)
      have h2 := of_decide_eq_true h2
      refine Fin.bindc (cat?_ok (by omega)) (Fin.ret (.inr ⟨rfl, hok, hpkg, .inr (.inl ⟨hP, h2, ?_⟩)⟩))
      rw [cat_data]; rfl
  rw [sne_eq]
  refine Fin.ite (fun h => Fin.bindu (Pth.isPath_spec pkg) ?_) (fun h => tail (.inl (by simpa using h)))
  cases hq : Pth.isPathD pkg
  · exact Fin.of (Ult.yes rfl Ult.ret) (.inl ⟨rfl, by decide⟩)
  · exact Fin.ite (fun h => nomatch h) (fun _ => tail (.inr hq))
theorem ScriptLabelsComeBackPure : ScriptLabelsComeBackStated := by
  rintro ⟨p, n⟩ pkg _ _
  have aw : Ultk (fun k => S10 k ()) true := ⟨0, fun _ _ => rfl⟩
  have fin : Ultk (fun k => S7 k ((p, n), pkg, ())) true := by
    unfold S7
    dsimp only
    refine Fin.ult (Fin.bind (text_spec p n pkg) ?_)
    rintro ⟨s, f⟩ hr
    rcases hr with ⟨h1, h2⟩ | ⟨h1, hok, hpkg, h2⟩
    · refine Fin.of (Ult.yes (by rw [ine_eq]; exact decide_eq_true h2) (Ult.yes (by rw [seq_eq]; exact decide_eq_true h1) (Ult.bind aw Ult.ret))) rfl
    · have h1 : f = 0 := h1
      subst h1
      have hok' := hok
      unfold okL at hok'
      rw [Bool.and_eq_true, Bool.or_eq_true] at hok'
      have hpk : isPk p := hok'.1.imp (fun h => of_decide_eq_true h) id
      have hread : Ultk (fun k => S26 k (s, pkg, ())) ((p, n), (0 : Int)) := by
        rcases h2 with ⟨rfl, h3⟩ | ⟨hP, rfl, h3⟩ | h3
        · exact read_own hpkg hok h3
        · exact read_short hpkg hP hok h3
        · exact read_whole hpkg hpk hok (Pth.isPathD_size hok'.2).2 h3
      refine Fin.of (Ult.no (show ine (0 : Int) 0 = false by decide) (Ult.bind hread (Ult.yes (show ieq (0 : Int) 0 = true by decide) (Ult.yes (by rw [kbeq_pair]; exact decide_eq_true rfl) (Ult.bind aw Ult.ret))))) rfl
  obtain ⟨k, hk⟩ := fin
  exact ⟨k, hk k (Nat.le_refl _)⟩
end Go.Proofs.YtbliiipcjbmbiaaGreatDoor.Ev
