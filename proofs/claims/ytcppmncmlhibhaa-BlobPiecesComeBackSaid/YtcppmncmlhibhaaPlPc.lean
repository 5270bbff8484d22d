/- The plain laws (this session's own). No condition but those in the statements. -/
import Derived.Test.YtcppmncmlhibhaaFPcb
import Derived.Test.YtcppmncmlhibhaaEv5
import Derived.Test.YtcppmncmlhibhaaEvD
import Derived.Test.YtcppmncmlhibhaaEvK
import Derived.Sort.Walk0
namespace Go.Proofs.Ytcppmncmlhibhaa.Ev
open Go Go.RowKit
/-- THE ONE PURE STATEMENT. -/
def BlobPiecesComeBackStated : Prop := ∀ (x0 : (.slice (.int .u8) : Kd).T) (x1 : (.int .i64 : Kd).T) (x2 : (.int .i64 : Kd).T) (x3 : (.int .i64 : Kd).T) (x4 : (.int .i64 : Kd).T), (WfS 1 (fun n => (Lit.int .u8 n).wf = true)) x0 → (fun n => (Lit.int .i64 n).wf = true) x1 → (fun n => (Lit.int .i64 n).wf = true) x2 → (fun n => (Lit.int .i64 n).wf = true) x3 → (fun n => (Lit.int .i64 n).wf = true) x4 → ∃ k, S3 k (x0, x1, x2, x3, x4, ()) = some true
end Go.Proofs.Ytcppmncmlhibhaa.Ev

namespace Go.Proofs.Ytcppmncmlhibhaa.Ev
open Go.RowKit
set_option linter.unusedVariables false

/-- from some number of rounds on; l: the least of all numbers of rounds that matter -/
def Ult {ι R : Type} (l : ι → Nat) (f : ι → Option R) (r : R) : Prop := ∃ K, ∀ i, K ≤ l i → f i = some r
variable {ι R α : Type} {l : ι → Nat}
theorem Ult.ret {r : R} : Ult l (fun _ => some r) r := ⟨0, fun _ _ => rfl⟩
theorem Ult.congr {f g : ι → Option R} {r : R} (h : Ult l f r) (e : ∀ i, g i = f i) : Ult l g r := by
  obtain ⟨K, h⟩ := h
  exact ⟨K, fun i hi => (e i).trans (h i hi)⟩
theorem Ult.bind {f : ι → Option α} {g : ι → α → Option R} {a : α} {r : R} (h : Ult l f a) (k : Ult l (fun i => g i a) r) : Ult l (fun i => bnd (f i) (g i)) r := by
  obtain ⟨K, h⟩ := h
  obtain ⟨L, k⟩ := k
  refine ⟨max K L, fun i hi => ?_⟩
  show Option.bind (f i) (g i) = some r
  rw [h i (by omega)]
  exact k i (by omega)
theorem Ult.bindc {m : Option α} {g : ι → α → Option R} {a : α} {r : R} (h : m = some a) (k : Ult l (fun i => g i a) r) : Ult l (fun i => bnd m (g i)) r := Ult.bind ⟨0, fun _ _ => h⟩ k
theorem Ult.yes {c : Bool} {f g : ι → Option R} {r : R} (hc : c = true) (h : Ult l f r) : Ult l (fun i => cnd c (f i) (g i)) r := by subst hc; exact h
theorem Ult.no {c : Bool} {f g : ι → Option R} {r : R} (hc : c = false) (h : Ult l g r) : Ult l (fun i => cnd c (f i) (g i)) r := by subst hc; exact h
theorem Ult.ite {c : Bool} {f g : ι → Option R} {r : R} (h : c = true → Ult l f r) (k : c = false → Ult l g r) : Ult l (fun i => cnd c (f i) (g i)) r := by
  cases c
  · exact Ult.no rfl (k rfl)
  · exact Ult.yes rfl (h rfl)
/-- a function's own number of rounds -/
abbrev Ultk (f : Nat → Option R) (r : R) : Prop := Ult (fun k : Nat => k) f r
theorem Ult.call {f : Nat → Option R} {r : R} {k : ι → Nat} (hk : ∀ i, l i ≤ k i) (h : Ultk f r) : Ult l (fun i => f (k i)) r := by
  obtain ⟨K, h⟩ := h
  exact ⟨K, fun i hi => h (k i) (Nat.le_trans hi (hk i))⟩
theorem Ultk.call {f : Nat → Option R} {r : R} (h : Ultk f r) : Ultk (fun k => f k) r := h
/-- the rounds of a loop, told by a number of their own -/
def lp (l : ι → Nat) (p : ι × Nat) : Nat := min (l p.1) p.2
theorem lp_le (l : ι → Nat) (k : ι → Nat) (hk : ∀ i, l i ≤ k i) : ∀ p : ι × Nat, lp l p ≤ k p.1 := fun p => Nat.le_trans (Nat.min_le_left _ _) (hk _)
variable {X : Type}
theorem Ult.loop {st : ι → (X → Option R) → X → Option R} {x : X} {r : R} {k : ι → Nat} (hk : ∀ i, l i ≤ k i) (h : Ult (lp l) (fun p => loopN p.2 (st p.1) x) r) : Ult l (fun i => loopN (k i) (st i) x) r := by
  obtain ⟨K, h⟩ := h
  refine ⟨K, fun i hi => h (i, k i) ?_⟩
  have := hk i
  show K ≤ min (l i) (k i)
  omega
theorem Ult.round {st : ι → (X → Option R) → X → Option R} {x : X} {r : R} (h : Ult (lp l) (fun p => st p.1 (loopN p.2 (st p.1)) x) r) : Ult (lp l) (fun p => loopN p.2 (st p.1) x) r := by
  obtain ⟨K, h⟩ := h
  refine ⟨K + 1, fun p hp => ?_⟩
  obtain ⟨i, n⟩ := p
  have h1 : K + 1 ≤ min (l i) n := hp
  cases n with
  | zero => omega
  | succ n =>
    have h2 := h (i, n) (show K ≤ min (l i) n by omega)
    exact h2
/-- rounds by a measure -/
theorem Ult.rounds {st : ι → (X → Option R) → X → Option R} {r : R} (I : X → Prop) (μ : X → Nat) (h : ∀ x, I x → (∀ y, I y → μ y < μ x → Ult (lp l) (fun p => loopN p.2 (st p.1) y) r) → Ult (lp l) (fun p => st p.1 (loopN p.2 (st p.1)) x) r) :
    ∀ x, I x → Ult (lp l) (fun p => loopN p.2 (st p.1) x) r := by
  intro x
  generalize hn : μ x = n
  induction n using Nat.strongRecOn generalizing x with
  | _ n ih =>
    intro hI
    refine Ult.round (h x hI fun y hy hlt => ih (μ y) (by omega) y rfl hy)

/-- a loop by an invariant and a measure -/
theorem Ult.loopI {st : ι → (X → Option R) → X → Option R} {x : X} {r : R} {k : ι → Nat} (hk : ∀ i, l i ≤ k i) (I : X → Prop) (μ : X → Nat) (h0 : I x)
    (h : ∀ x, I x → (∀ y, I y → μ y < μ x → Ult (lp l) (fun p => loopN p.2 (st p.1) y) r) → Ult (lp l) (fun p => st p.1 (loopN p.2 (st p.1)) x) r) : Ult l (fun i => loopN (k i) (st i) x) r :=
  Ult.loop hk (Ult.rounds I μ h x h0)

/-! ### total correctness: it ends, and with what is wanted -/
def Fin {ι R : Type} (l : ι → Nat) (f : ι → Option R) (Q : R → Prop) : Prop := ∃ r, Q r ∧ Ult l f r
abbrev Fink {R : Type} (f : Nat → Option R) (Q : R → Prop) : Prop := Fin (fun k : Nat => k) f Q
variable {Q : R → Prop}
theorem Fin.ret {r : R} (h : Q r) : Fin l (fun _ => some r) Q := ⟨r, h, Ult.ret⟩
theorem Fin.bind {f : ι → Option α} {g : ι → α → Option R} {Qa : α → Prop} (h : Fin l f Qa) (k : ∀ a, Qa a → Fin l (fun i => g i a) Q) : Fin l (fun i => bnd (f i) (g i)) Q := by
  obtain ⟨a, ha, h⟩ := h
  obtain ⟨r, hr, k⟩ := k a ha
  exact ⟨r, hr, Ult.bind h k⟩
theorem Fin.bindu {f : ι → Option α} {g : ι → α → Option R} {a : α} (h : Ult l f a) (k : Fin l (fun i => g i a) Q) : Fin l (fun i => bnd (f i) (g i)) Q := by
  obtain ⟨r, hr, k⟩ := k
  exact ⟨r, hr, Ult.bind h k⟩
theorem Fin.bindc {m : Option α} {g : ι → α → Option R} {a : α} (h : m = some a) (k : Fin l (fun i => g i a) Q) : Fin l (fun i => bnd m (g i)) Q := Fin.bindu ⟨0, fun _ _ => h⟩ k
theorem Fin.ite {c : Bool} {f g : ι → Option R} (h : c = true → Fin l f Q) (k : c = false → Fin l g Q) : Fin l (fun i => cnd c (f i) (g i)) Q := by
  cases c
  · exact k rfl
  · exact h rfl
theorem Fin.mono {Q' : R → Prop} {f : ι → Option R} (h : Fin l f Q) (k : ∀ r, Q r → Q' r) : Fin l f Q' := by
  obtain ⟨r, hr, h⟩ := h
  exact ⟨r, k r hr, h⟩
theorem Fin.of {f : ι → Option R} {r : R} (h : Ult l f r) (hq : Q r) : Fin l f Q := ⟨r, hq, h⟩
theorem Fin.ult {f : ι → Option R} {r : R} (h : Fin l f (fun x => x = r)) : Ult l f r := by
  obtain ⟨_, rfl, h⟩ := h
  exact h
theorem Fin.call {f : Nat → Option R} {k : ι → Nat} (hk : ∀ i, l i ≤ k i) (h : Fink f Q) : Fin l (fun i => f (k i)) Q := by
  obtain ⟨r, hr, h⟩ := h
  exact ⟨r, hr, Ult.call hk h⟩
/-- a loop by an invariant and a measure -/
theorem Fin.loopI {st : ι → (X → Option R) → X → Option R} {x : X} {k : ι → Nat} (hk : ∀ i, l i ≤ k i) (I : X → Prop) (μ : X → Nat) (h0 : I x)
    (h : ∀ x, I x → (∀ y, I y → μ y < μ x → Fin (lp l) (fun p => loopN p.2 (st p.1) y) Q) → Fin (lp l) (fun p => st p.1 (loopN p.2 (st p.1)) x) Q) : Fin l (fun i => loopN (k i) (st i) x) Q := by
  have key : ∀ (n : Nat) (x : X), μ x = n → I x → Fin (lp l) (fun p => loopN p.2 (st p.1) x) Q := by
    intro n
    induction n using Nat.strongRecOn with
    | _ n ih =>
      intro x hn hI
      obtain ⟨r, hr, hu⟩ := h x hI fun y hy hlt => ih (μ y) (by omega) y rfl hy
      exact ⟨r, hr, Ult.round hu⟩
  obtain ⟨r, hr, hu⟩ := key _ x rfl h0
  exact ⟨r, hr, Ult.loop hk hu⟩
theorem Ult.lift {f : ι → Option R} {r : R} (h : Ult l f r) : Ult (lp l) (fun q => f q.1) r := by
  obtain ⟨K, h⟩ := h
  exact ⟨K, fun q hq => h q.1 (Nat.le_trans hq (Nat.min_le_left _ _))⟩
theorem Fin.lift {f : ι → Option R} (h : Fin l f Q) : Fin (lp l) (fun q => f q.1) Q := by
  obtain ⟨r, hr, h⟩ := h
  exact ⟨r, hr, h.lift⟩
theorem Ultk.unique {f : Nat → Option R} {a b : R} (h : Ultk f a) (k : Ultk f b) : a = b := by
  obtain ⟨K, h⟩ := h
  obtain ⟨L, k⟩ := k
  have h1 := h (max K L) (Nat.le_max_left _ _)
  rw [k (max K L) (Nat.le_max_right _ _)] at h1
  exact (Option.some.inj h1).symm

/-! ### the operations -/
theorem wrap64 {n : Int} (h0 : -9223372036854775808 ≤ n) (h1 : n ≤ 9223372036854775807) : IntKind.i64.wrap n = n := by
  rw [IntKind.wrap_i64]; omega
theorem iadd64 {a b : Int} (h0 : -9223372036854775808 ≤ a + b) (h1 : a + b ≤ 9223372036854775807) : iadd .i64 a b = a + b := wrap64 h0 h1
theorem isub64 {a b : Int} (h0 : -9223372036854775808 ≤ a - b) (h1 : a - b ≤ 9223372036854775807) : isub .i64 a b = a - b := wrap64 h0 h1
theorem at?_nat {l : List α} {i : Nat} (h : i < l.length) : at? l (i : Int) = some l[i] := by
  unfold at?
  rw [if_pos (Int.natCast_nonneg _), Int.toNat_natCast, List.getElem?_eq_getElem h]
theorem bt?_nat {s : ByteArray} {i : Nat} (h : i < s.size) : bt? s (i : Int) = some (bt s (i : Int)) := by
  unfold bt?
  rw [if_pos ⟨Int.natCast_nonneg _, by omega⟩]
theorem len_def {l : List α} : len l = (l.length : Int) := rfl

end Go.Proofs.Ytcppmncmlhibhaa.Ev

namespace Go.Proofs.Ytcppmncmlhibhaa.Ev
open Go Go.RowKit
set_option linter.unusedVariables false
set_option linter.unusedSimpArgs false
variable {ι R X A α β : Type} {l : ι → Nat}

/-- a loop by an index and what is gathered; 'res': what comes of it from there on -/
theorem Ult.forA {st : ι → (X → Option R) → X → Option R} {k : ι → Nat} (hk : ∀ i, l i ≤ k i) (n : Nat) (mk : A → Nat → X) (I : A → Nat → Prop) (res : A → Nat → R) (a0 : A) (h0 : I a0 0)
    (h : ∀ a j, j ≤ n → I a j → (∀ a', j < n → I a' (j + 1) → Ult (lp l) (fun p => loopN p.2 (st p.1) (mk a' (j + 1))) (res a' (j + 1))) → Ult (lp l) (fun p => st p.1 (loopN p.2 (st p.1)) (mk a j)) (res a j)) :
    Ult l (fun i => loopN (k i) (st i) (mk a0 0)) (res a0 0) := by
  have key : ∀ (d j : Nat) (a : A), n - j = d → j ≤ n → I a j → Ult (lp l) (fun p => loopN p.2 (st p.1) (mk a j)) (res a j) := by
    intro d
    induction d with
    | zero => intro j a hd hj hI; exact Ult.round (h a j hj hI fun a' hlt _ => by omega)
    | succ d ih => intro j a hd hj hI; exact Ult.round (h a j hj hI fun a' hlt hI' => ih (j + 1) a' (by omega) (by omega) hI')
  exact Ult.loop hk (key n 0 a0 (by omega) (Nat.zero_le _) h0)
theorem Ult.forI {st : ι → (Int → Option R) → Int → Option R} {k : ι → Nat} (hk : ∀ i, l i ≤ k i) (n : Nat) (res : Nat → R)
    (h : ∀ j, j ≤ n → (j < n → Ult (lp l) (fun p => loopN p.2 (st p.1) ((j + 1 : Nat) : Int)) (res (j + 1))) → Ult (lp l) (fun p => st p.1 (loopN p.2 (st p.1)) (j : Int)) (res j)) :
    Ult l (fun i => loopN (k i) (st i) 0) (res 0) :=
  Ult.forA (A := Unit) hk n (fun _ j => (j : Int)) (fun _ _ => True) (fun _ j => res j) () trivial fun _ j hj _ hn => h j hj fun hlt => hn () hlt trivial
theorem Ult.jn {f : ι → (X → Option R) → Option R} {g : ι → X → Option R} {r : R} (h : Ult l (fun i => f i (g i)) r) : Ult l (fun i => jn (f i) (g i)) r := h
theorem Ult.eq {f : ι → Option R} {r r' : R} (h : Ult l f r) (e : r = r') : Ult l f r' := e ▸ h
theorem Ult.iteS {c : Bool} {f g : ι → Option R} {r r' : R} (h : c = true → Ult l f r) (k : c = false → Ult l g r') : Ult l (fun i => cnd c (f i) (g i)) (if c then r else r') := by
  cases c
  · exact Ult.no rfl (k rfl)
  · exact Ult.yes rfl (h rfl)
theorem Ult.ifS {c : Bool} {p : Prop} [Decidable p] (e : c = decide p) {f g : ι → Option R} {r r' : R} (h : p → Ult l f r) (k : ¬ p → Ult l g r') : Ult l (fun i => cnd c (f i) (g i)) (if p then r else r') := by
  subst e
  by_cases hp : p
  · rw [if_pos hp]; exact Ult.yes (decide_eq_true hp) (h hp)
  · rw [if_neg hp]; exact Ult.no (decide_eq_false hp) (k hp)

/-! ### operations -/
theorem seq_eq (a b : ByteArray) : seq a b = decide (a = b) := by
  unfold seq
  by_cases h : a = b
  · subst h; simp
  · rw [decide_eq_false h, beq_eq_false_iff_ne]
    intro e
    refine h ?_
    rw [ByteArray.toList_eq, ByteArray.toList_eq] at e
    obtain ⟨⟨x⟩⟩ := a
    obtain ⟨⟨y⟩⟩ := b
    simpa using e
theorem sne_eq (a b : ByteArray) : sne a b = decide (a ≠ b) := by
  have := seq_eq a b
  unfold seq at this
  unfold sne
  rw [this]
  by_cases h : a = b <;> simp [h]
theorem ieq_eq (a b : Int) : ieq a b = decide (a = b) := by
  unfold ieq
  by_cases h : a = b <;> simp [h]
theorem ine_eq (a b : Int) : ine a b = decide (a ≠ b) := by
  unfold ine
  by_cases h : a = b <;> simp [h]
theorem igt_eq (a b : Int) : igt a b = decide (b < a) := rfl
theorem ige_eq (a b : Int) : ige a b = decide (b ≤ a) := rfl
theorem ilt_eq (a b : Int) : ilt a b = decide (a < b) := rfl
theorem ile_eq (a b : Int) : ile a b = decide (a ≤ b) := rfl
theorem bnot_eq (a : Bool) : bnot a = !a := rfl
theorem iltL (j : Nat) (l : List α) : ilt (j : Int) (len l) = decide (j < l.length) := by
  unfold ilt len
  by_cases h : j < l.length
  · rw [decide_eq_true h, decide_eq_true (by omega)]
  · rw [decide_eq_false h, decide_eq_false (by omega)]
theorem igt0 (j : Nat) : igt (j : Int) 0 = decide (0 < j) := by
  unfold igt
  by_cases h : 0 < j
  · rw [decide_eq_true h, decide_eq_true (by omega)]
  · rw [decide_eq_false h, decide_eq_false (by omega)]
theorem isucc {j n : Nat} (h : j < n) (hn : n ≤ 9223372036854775807) : iadd .i64 (j : Int) 1 = ((j + 1 : Nat) : Int) := by rw [iadd64 (by omega) (by omega)]; rfl
theorem ipred {j n : Nat} (h0 : 0 < j) (h : j ≤ n) (hn : n ≤ 9223372036854775807) : isub .i64 (j : Int) 1 = ((j - 1 : Nat) : Int) := by rw [isub64 (by omega) (by omega)]; omega
theorem app?_ok {b : Nat} {l r : List α} (h : (l.length + r.length) * (max b 1) ≤ 140737488355328) : app? b l r = some (l ++ r) := by unfold app?; rw [if_pos h]
theorem cat?_ok {a b : ByteArray} (h : a.size + b.size ≤ 9223372036854775807) : cat? a b = some (a ++ b) := by unfold cat?; rw [if_pos h]
theorem cut?_take {l : List α} {j : Nat} (h : j ≤ l.length) : cut? l 0 (j : Int) = some (l.take j) := by
  unfold cut?
  rw [if_pos ⟨Int.le_refl _, by omega, by omega⟩]
  simp
theorem kbeq_pair (a b : ByteArray × ByteArray) : kbeq (.agg (.pair .str .str)) a b = decide (a = b) := by
  show (seq a.1 b.1 && seq a.2 b.2) = _
  rw [seq_eq, seq_eq]
  by_cases h1 : a.1 = b.1 <;> by_cases h2 : a.2 = b.2 <;> simp [h1, h2, Prod.ext_iff]
theorem drop_cons {l : List α} {j : Nat} (h : j < l.length) : l.drop j = l[j] :: l.drop (j + 1) := List.drop_eq_getElem_cons h

/-! ### strings in order -/
def lt (a b : ByteArray) : Prop := a.data.toList < b.data.toList
theorem slt_eq (a b : ByteArray) : slt a b = decide (a.data.toList < b.data.toList) := by
  unfold slt
  rw [ByteArray.toList_eq, ByteArray.toList_eq]
  exact bytesLess_eq _ _
theorem bytes_ext {a b : ByteArray} (h : a.data.toList = b.data.toList) : a = b := by
  obtain ⟨⟨x⟩⟩ := a
  obtain ⟨⟨y⟩⟩ := b
  simpa using h
theorem sle_eq (a b : ByteArray) : sle a b = decide (¬ b.data.toList < a.data.toList) := by
  have h : sle a b = (Op.bytesLess a.toList b.toList || a.toList == b.toList) := rfl
  rw [h, ByteArray.toList_eq, ByteArray.toList_eq, bytesLess_eq]
  by_cases h1 : a.data.toList < b.data.toList
  · simp [h1, List.lt_asymm h1]
  · by_cases h2 : a.data.toList = b.data.toList
    · rw [h2]; simp [List.lt_irrefl]
    · have h3 : b.data.toList < a.data.toList := by
        rcases List.le_total a.data.toList b.data.toList with q | q
        · rcases List.le_iff_lt_or_eq.1 q with q | q
          · exact absurd q h1
          · exact absurd q h2
        · rcases List.le_iff_lt_or_eq.1 q with q | q
          · exact q
          · exact absurd q.symm h2
      have h4 : ¬ a.data = b.data := fun e => h2 (by rw [e])
      simp [h1, h4, h3]
end Go.Proofs.Ytcppmncmlhibhaa.Ev

namespace Go.Proofs.Ytcppmncmlhibhaa.Ev
open Go Go.RowKit
set_option linter.unusedVariables false
set_option linter.unusedSimpArgs false
variable {ι R A X : Type} {l : ι → Nat}
/-- a loop by an index, the rounds that follow by a name -/
theorem Ult.forN {st : ι → (X → Option R) → X → Option R} {k : ι → Nat} (hk : ∀ i, l i ≤ k i) (n : Nat) (mk : A → Nat → X) (I : A → Nat → Prop) (res : A → Nat → R) (a0 : A) (h0 : I a0 0)
    (h : ∀ (N : (ι × Nat) → X → Option R) a j, j ≤ n → I a j → (∀ a', j < n → I a' (j + 1) → Ult (lp l) (fun p => N p (mk a' (j + 1))) (res a' (j + 1))) → Ult (lp l) (fun p => st p.1 (N p) (mk a j)) (res a j)) :
    Ult l (fun i => loopN (k i) (st i) (mk a0 0)) (res a0 0) := Ult.forA hk n mk I res a0 h0 fun a j hj hI next => h (fun p => loopN p.2 (st p.1)) a j hj hI next
theorem ieq_self (a : Int) : ieq a a = true := by rw [ieq_eq]; simp
theorem ine_self (a : Int) : ine a a = false := by rw [ine_eq]; simp
/-! ### where bytes are divided -/
def pwN : Nat → Int
  | 0 => 1
  | j + 1 => imul .u32 (pwN j) 31
def hh (b : List Int) : Nat → Int
  | 0 => 0
  | i + 1 => iadd .u32 (imul .u32 31 (if 16 ≤ i then isub .u32 (hh b i) (imul .u32 (pwN 15) (iwr .u32 (b.getD (i - 16) 0))) else hh b i)) (iwr .u32 (b.getD i 0))
def mskOf (bits : Int) : Int := isub .u32 (IntKind.u32.wrap (1 * 2 ^ (min bits.toNat IntKind.u32.bits))) 1
structure Cu where
  least : Int
  bits : Int
  most : Int
def Cu.ok (c : Cu) : Prop := 1 ≤ c.least ∧ c.least ≤ c.most ∧ 0 ≤ c.bits ∧ c.bits ≤ 20 ∧ c.most ≤ 100000
instance (c : Cu) : Decidable c.ok := by unfold Cu.ok; exact inferInstance
def Cu.cuts (c : Cu) (b : List Int) (i n : Nat) : Bool := (decide (c.least ≤ (n : Int)) && decide (iand .u32 (hh b (i + 1)) (mskOf c.bits) = 0)) || decide (c.most ≤ (n : Int))
def Cu.st (c : Cu) (b : List Int) : Nat → List Nat × Nat
  | 0 => ([], 0)
  | i + 1 => if c.cuts b i (i + 1 - (c.st b i).2) = true then ((c.st b i).1 ++ [i + 1 - (c.st b i).2], i + 1) else c.st b i
def toI (xs : List Nat) : List Int := List.map (fun n : Nat => (n : Int)) xs
theorem toI_app (a : List Nat) (n : Nat) : toI (a ++ [n]) = toI a ++ [(n : Int)] := by simp [toI]
theorem toI_len (a : List Nat) : (toI a).length = a.length := by simp [toI]
/-- the pieces -/
def Cu.pcs (c : Cu) (b : List Int) (n : Nat) : List Nat := if (c.st b n).2 < n then (c.st b n).1 ++ [n - (c.st b n).2] else (c.st b n).1
theorem Cu.st_succ (c : Cu) (b : List Int) (i : Nat) : c.st b (i + 1) = if c.cuts b i (i + 1 - (c.st b i).2) = true then ((c.st b i).1 ++ [i + 1 - (c.st b i).2], i + 1) else c.st b i := rfl
theorem Cu.st_facts (c : Cu) (hc : c.ok) (b : List Int) : ∀ i, (c.st b i).2 ≤ i ∧ ((i : Int) - (c.st b i).2 < c.most) ∧ (c.st b i).1.sum = (c.st b i).2 ∧ (∀ n ∈ (c.st b i).1, 1 ≤ n ∧ c.least ≤ (n : Int) ∧ (n : Int) ≤ c.most) ∧ (c.st b i).1.length ≤ i
  | 0 => ⟨Nat.le_refl _, by have := hc; unfold Cu.ok at this; show (0 : Int) - ((0 : Nat) : Int) < c.most; omega, rfl, by simp [Cu.st], by simp [Cu.st]⟩
  | i + 1 => by
    obtain ⟨h1, h2, h3, h4, h5⟩ := c.st_facts hc b i
    have hc' := hc
    unfold Cu.ok at hc'
    rw [c.st_succ]
    by_cases q : c.cuts b i (i + 1 - (c.st b i).2) = true
    · rw [if_pos q]
      have q' := q
      unfold Cu.cuts at q'
      simp only [Bool.or_eq_true, Bool.and_eq_true, decide_eq_true_eq] at q'
      refine ⟨Nat.le_refl _, by dsimp only; omega, by simp only [List.sum_append, List.sum_cons, List.sum_nil]; omega, fun n hn => ?_, by simp only [List.length_append, List.length_singleton]; omega⟩
      rcases List.mem_append.1 hn with hn | hn
      · exact h4 n hn
      · rw [List.mem_singleton] at hn
        subst hn
        refine ⟨by omega, ?_, by omega⟩
        rcases q' with q' | q'
        · exact q'.1
        · omega
    · rw [if_neg q]
      refine ⟨by omega, ?_, h3, h4, by omega⟩
      unfold Cu.cuts at q
      simp only [Bool.or_eq_true, Bool.and_eq_true, decide_eq_true_eq] at q
      have : ¬ c.most ≤ ((i + 1 - (c.st b i).2 : Nat) : Int) := fun z => q (.inr z)
      omega
theorem Cu.st_mono (c : Cu) (b : List Int) (i : Nat) : ∀ d, (c.st b i).1 <+: (c.st b (i + d)).1
  | 0 => List.prefix_refl _
  | d + 1 => by
    refine (c.st_mono b i d).trans ?_
    rw [show i + (d + 1) = (i + d) + 1 from rfl, c.st_succ]
    split
    · exact List.prefix_append _ _
    · exact List.prefix_refl _
/-- of a beginning the same -/
theorem hh_take (b : List Int) (n : Nat) : ∀ i, i ≤ n → hh (b.take n) i = hh b i
  | 0, _ => rfl
  | i + 1, h => by
    have e : ∀ j, j < n → (b.take n).getD j 0 = b.getD j 0 := fun j hj => by simp [List.getD_eq_getElem?_getD, List.getElem?_take, hj]
    unfold hh
    rw [hh_take b n i (by omega), e i (by omega)]
    by_cases q : 16 ≤ i
    · rw [e (i - 16) (by omega)]
    · rw [if_neg q, if_neg q]
theorem Cu.st_take (c : Cu) (b : List Int) (n : Nat) : ∀ i, i ≤ n → c.st (b.take n) i = c.st b i
  | 0, _ => rfl
  | i + 1, h => by
    rw [c.st_succ, c.st_succ, c.st_take b n i (by omega)]
    unfold Cu.cuts
    rw [hh_take b n (i + 1) h]
theorem Cu.pcs_facts (c : Cu) (hc : c.ok) (b : List Int) (n : Nat) : (c.pcs b n).sum = n ∧ (∀ x ∈ c.pcs b n, 1 ≤ x ∧ (x : Int) ≤ c.most) ∧ ∀ i (h : i < (c.pcs b n).length), i + 1 < (c.pcs b n).length → c.least ≤ ((c.pcs b n)[i] : Int) := by
  obtain ⟨h1, h2, h3, h4, h5⟩ := c.st_facts hc b n
  unfold Cu.pcs
  by_cases q : (c.st b n).2 < n
  · simp only [if_pos q]
    refine ⟨by simp only [List.sum_append, List.sum_cons, List.sum_nil]; omega, fun x hx => ?_, fun i hi hi2 => ?_⟩
    · rcases List.mem_append.1 hx with hx | hx
      · exact ⟨(h4 x hx).1, (h4 x hx).2.2⟩
      · rw [List.mem_singleton] at hx; subst hx; omega
    · have : i < (c.st b n).1.length := by simp only [List.length_append, List.length_singleton] at hi2; omega
      rw [List.getElem_append_left this]
      exact (h4 _ (List.getElem_mem this)).2.1
  · simp only [if_neg q]
    exact ⟨by omega, fun x hx => ⟨(h4 x hx).1, (h4 x hx).2.2⟩, fun i hi _ => (h4 _ (List.getElem_mem hi)).2.1⟩
theorem Cu.pcs_len (c : Cu) (hc : c.ok) (b : List Int) (n : Nat) : (c.pcs b n).length ≤ n + 1 := by
  obtain ⟨h1, h2, h3, h4, h5⟩ := c.st_facts hc b n
  unfold Cu.pcs
  split
  · simp only [List.length_append, List.length_singleton]; omega
  · omega
/-- no more pieces of a beginning; all but its last one the first ones -/
theorem Cu.pcs_take (c : Cu) (hc : c.ok) (b : List Int) (m n : Nat) (hmn : m ≤ n) : (c.pcs (b.take m) m).length ≤ (c.pcs b n).length ∧ (c.pcs (b.take m) m).take ((c.pcs (b.take m) m).length - 1) = (c.pcs b n).take ((c.pcs (b.take m) m).length - 1) := by
  have e : c.pcs (b.take m) m = if (c.st b m).2 < m then (c.st b m).1 ++ [m - (c.st b m).2] else (c.st b m).1 := by
    unfold Cu.pcs; rw [c.st_take b m m (Nat.le_refl _)]
  have hp : (c.st b m).1 <+: c.pcs b n := by
    obtain ⟨d, rfl⟩ : ∃ d, n = m + d := ⟨n - m, by omega⟩
    refine (c.st_mono b m d).trans ?_
    unfold Cu.pcs
    split
    · exact List.prefix_append _ _
    · exact List.prefix_refl _
  obtain ⟨t, ht⟩ := hp
  obtain ⟨h1, h2, h3, h4, h5⟩ := c.st_facts hc b m
  obtain ⟨s1, _, _⟩ := c.pcs_facts hc b n
  rw [e]
  by_cases q : (c.st b m).2 < m
  · rw [if_pos q]
    have htn : t ≠ [] := fun z => by
      rw [z, List.append_nil] at ht
      rw [← ht] at s1; omega
    have htl : 0 < t.length := List.length_pos_iff.2 htn
    rw [← ht]
    simp only [List.length_append, List.length_singleton, Nat.add_sub_cancel]
    refine ⟨by omega, ?_⟩
    rw [List.take_left' rfl, List.take_left' rfl]
  · rw [if_neg q, ← ht]
    refine ⟨by simp, ?_⟩
    rw [List.take_append_of_le_length (by omega)]
/-! ### cut, Pieces -/
theorem cut_spec (b : List Int) (c : Cu) (hc : c.ok) (hb : b.length ≤ 2000000) : Ultk (fun k => S9 k (b, c.least, c.bits, c.most, ())) (toI (c.pcs b b.length)) := by
  unfold S9
  have hc' := hc
  unfold Cu.ok at hc'
  refine Ult.forA (A := Unit) (fun _ => Nat.le_refl _) 15 (fun _ j => (pwN j, (j : Int))) (fun _ _ => True) (fun _ _ => toI (c.pcs b b.length)) () trivial fun _ j hj _ next => ?_
  dsimp only
  by_cases hlt : j < 15
  · refine Ult.yes (by rw [ilt_eq]; exact decide_eq_true (by omega)) ?_
    rw [isucc hlt (by omega)]
    exact next () hlt trivial
  · refine Ult.no (by rw [ilt_eq]; exact decide_eq_false (by omega)) ?_
    have h15 : j = 15 := by omega
    subst h15
    refine Ult.forN (A := Unit) (lp_le _ _ fun _ => Nat.le_refl _) b.length (fun _ i => (toI (c.st b i).1, hh b i, ((c.st b i).2 : Int), (i : Int))) (fun _ _ => True) (fun _ _ => toI (c.pcs b b.length)) () trivial fun N _ i hi _ next2 => ?_
    dsimp only
    rw [iltL]
    obtain ⟨h1, h2, h3, h4, h5⟩ := c.st_facts hc b i
    by_cases hlu : i < b.length
    · refine Ult.yes (decide_eq_true hlu) (Ult.bindc (at?_nat hlu) (Ult.jn ?_))
      dsimp only
      have e1 : iadd Go.IntKind.i64 (i : Int) 1 = ((i + 1 : Nat) : Int) := isucc hlu (by omega)
      have e2 : isub Go.IntKind.i64 ((i + 1 : Nat) : Int) ((c.st b i).2 : Int) = ((i + 1 - (c.st b i).2 : Nat) : Int) := by rw [isub64 (by omega) (by omega)]; omega
      rw [e1, e2]
      have eb : b[i] = b.getD i 0 := by simp [hlu]
      -- behind the number of the last bytes
      have rest : ∀ v, (v = if 16 ≤ i then isub .u32 (hh b i) (imul .u32 (pwN 15) (iwr .u32 (b.getD (i - 16) 0))) else hh b i) → Ult (lp (lp fun k : Nat => k)) (fun p : (Nat × Nat) × Nat => jn (fun (a8 : (Bool → (Option (List Int)))) => cnd (ige ((i + 1 - (c.st b i).2 : Nat) : Int) c.least) (bnd (ishl? Go.IntKind.u32 1 c.bits) (fun (a9 : Int) => cnd (ieq (iand Go.IntKind.u32 (iadd Go.IntKind.u32 (imul Go.IntKind.u32 31 v) (iwr Go.IntKind.u32 b[i])) (isub Go.IntKind.u32 a9 1)) 0) (a8 true) (a8 (ige ((i + 1 - (c.st b i).2 : Nat) : Int) c.most)))) (a8 (ige ((i + 1 - (c.st b i).2 : Nat) : Int) c.most))) (fun (a8 : Bool) => cnd a8 (bnd (app? 8 (toI (c.st b i).1) (((i + 1 - (c.st b i).2 : Nat) : Int) :: ([] : List Int))) (fun (a9 : (List Int)) => N p (a9, iadd Go.IntKind.u32 (imul Go.IntKind.u32 31 v) (iwr Go.IntKind.u32 b[i]), ((i + 1 : Nat) : Int), ((i + 1 : Nat) : Int)))) (N p (toI (c.st b i).1, iadd Go.IntKind.u32 (imul Go.IntKind.u32 31 v) (iwr Go.IntKind.u32 b[i]), ((c.st b i).2 : Int), ((i + 1 : Nat) : Int))))) (toI (c.pcs b b.length)) := by
        intro v hv
        have ev : iadd Go.IntKind.u32 (imul Go.IntKind.u32 31 v) (iwr Go.IntKind.u32 b[i]) = hh b (i + 1) := by rw [hv, eb]; rfl
        rw [ev]
        refine Ult.jn ?_
        dsimp only
        have fin : ∀ q : Bool, c.cuts b i (i + 1 - (c.st b i).2) = q → Ult (lp (lp fun k : Nat => k)) (fun p : (Nat × Nat) × Nat => cnd q (bnd (app? 8 (toI (c.st b i).1) (((i + 1 - (c.st b i).2 : Nat) : Int) :: ([] : List Int))) (fun (a9 : (List Int)) => N p (a9, hh b (i + 1), ((i + 1 : Nat) : Int), ((i + 1 : Nat) : Int)))) (N p (toI (c.st b i).1, hh b (i + 1), ((c.st b i).2 : Int), ((i + 1 : Nat) : Int)))) (toI (c.pcs b b.length)) := by
          intro q hq
          have hn := next2 () hlu trivial
          rw [c.st_succ, hq] at hn
          cases q with
          | true =>
            refine Ult.yes rfl (Ult.bindc (app?_ok (by rw [toI_len]; show ((c.st b i).1.length + 1) * 8 ≤ _; omega)) ?_)
            rw [if_pos rfl] at hn
            dsimp only at hn
            rw [toI_app] at hn
            exact hn
          | false =>
            rw [if_neg (by simp)] at hn
            exact Ult.no rfl hn
        have hcu : c.cuts b i (i + 1 - (c.st b i).2) = ((decide (c.least ≤ ((i + 1 - (c.st b i).2 : Nat) : Int)) && decide (iand .u32 (hh b (i + 1)) (mskOf c.bits) = 0)) || decide (c.most ≤ ((i + 1 - (c.st b i).2 : Nat) : Int))) := rfl
        rw [ige_eq, ige_eq]
        by_cases q1 : c.least ≤ ((i + 1 - (c.st b i).2 : Nat) : Int)
        · refine Ult.yes (decide_eq_true q1) (Ult.bindc (a := IntKind.u32.wrap (1 * 2 ^ (min c.bits.toNat IntKind.u32.bits))) (by unfold ishl?; rw [if_neg (by omega)]) ?_)
          rw [ieq_eq]
          rw [decide_eq_true q1, Bool.true_and] at hcu
          by_cases q2 : iand .u32 (hh b (i + 1)) (mskOf c.bits) = 0
          · exact Ult.yes (decide_eq_true q2) (fin true (by rw [hcu, decide_eq_true q2, Bool.true_or]))
          · exact Ult.no (decide_eq_false q2) (fin _ (by rw [hcu, decide_eq_false q2, Bool.false_or]))
        · rw [decide_eq_false q1, Bool.false_and, Bool.false_or] at hcu
          exact Ult.no (decide_eq_false q1) (fin _ hcu)
      rw [ige_eq]
      by_cases h16 : 16 ≤ i
      · refine Ult.yes (decide_eq_true (by omega)) ?_
        have e3 : isub Go.IntKind.i64 (i : Int) 16 = ((i - 16 : Nat) : Int) := by rw [isub64 (by omega) (by omega)]; omega
        rw [e3]
        refine Ult.bindc (at?_nat (show i - 16 < b.length by omega)) (rest _ ?_)
        rw [if_pos h16]
        simp [show i - 16 < b.length by omega]
      · exact Ult.no (decide_eq_false (by omega)) (rest _ (by rw [if_neg h16]))
    · refine Ult.no (decide_eq_false hlu) ?_
      have hil : i = b.length := by omega
      subst hil
      unfold Cu.pcs
      rw [ilt_eq]
      by_cases q : (c.st b b.length).2 < b.length
      · refine Ult.yes (decide_eq_true (by unfold len; omega)) (Ult.bindc (app?_ok (by rw [toI_len]; show ((c.st b b.length).1.length + 1) * 8 ≤ _; omega)) (Ult.ret.eq ?_))
        rw [if_pos q, toI_app]
        congr 2
        unfold len
        rw [isub64 (by omega) (by omega)]; omega
      · exact Ult.no (decide_eq_false (by unfold len; omega)) (Ult.ret.eq (by rw [if_neg q]))
/-- Pieces -/
def pcsB (b : List Int) (c : Cu) : List Int × Int := if ¬ c.ok then ([], 1) else if 20000 < (c.pcs b b.length).length then ([], 2) else (toI (c.pcs b b.length), 0)
def pcsAns (b : List Int) (c : Cu) : List Int × Int := if 2000000 < b.length then ([], 2) else pcsB b c
theorem pieces_spec (b : List Int) (c : Cu) : Ultk (fun k => S4 k (b, c.least, c.bits, c.most, ())) (pcsAns b c) := by
  unfold S4 pcsAns
  dsimp only
  refine Ult.ifS (by unfold igt len; rw [decide_eq_decide]; omega) (fun _ => Ult.ret) fun h0 => Ult.jn ?_
  dsimp only
  have fin : ∀ q : Bool, q = decide (¬ c.ok) → Ultk (fun k => cnd q (some (([] : List Int), 1)) (bnd (S9 k (b, c.least, c.bits, c.most, ())) (fun (a3 : (List Int)) => cnd (igt (len a3) 20000) (some (([] : List Int), 2)) (some (a3, 0))))) (pcsB b c) := by
    intro q hq
    unfold pcsB
    refine Ult.ifS hq (fun _ => Ult.ret) fun h1 => ?_
    have h1 := Decidable.not_not.1 h1
    refine Ult.bind (cut_spec b c h1 (by omega)) (Ult.ifS (by unfold igt len; rw [toI_len, decide_eq_decide]; omega) (fun _ => Ult.ret) fun _ => Ult.ret)
  have no : ∀ {p : Prop}, ¬ c.ok → true = decide (¬ c.ok) := fun hn => (decide_eq_true hn).symm
  by_cases q1 : c.least < 1
  · exact Ult.yes (decide_eq_true q1) (fin true (decide_eq_true (p := ¬ c.ok) (fun z => by unfold Cu.ok at z; omega)).symm)
  refine Ult.no (decide_eq_false q1) ?_
  by_cases q2 : c.least > c.most
  · exact Ult.yes (decide_eq_true q2) (fin true (decide_eq_true (p := ¬ c.ok) (fun z => by unfold Cu.ok at z; omega)).symm)
  refine Ult.no (decide_eq_false q2) ?_
  by_cases q3 : c.bits < 0
  · exact Ult.yes (decide_eq_true q3) (fin true (decide_eq_true (p := ¬ c.ok) (fun z => by unfold Cu.ok at z; omega)).symm)
  refine Ult.no (decide_eq_false q3) ?_
  by_cases q4 : c.bits > 20
  · exact Ult.yes (decide_eq_true q4) (fin true (decide_eq_true (p := ¬ c.ok) (fun z => by unfold Cu.ok at z; omega)).symm)
  refine Ult.no (decide_eq_false q4) (fin _ ?_)
  unfold igt
  rw [decide_eq_decide]
  unfold Cu.ok
  omega
end Go.Proofs.Ytcppmncmlhibhaa.Ev

namespace Go.Proofs.Ytcppmncmlhibhaa.Ev
open Go Go.RowKit
set_option linter.unusedVariables false
set_option linter.unusedSimpArgs false
variable {ι R A X : Type} {l : ι → Nat}
theorem seq_self (a : ByteArray) : seq a a = true := by rw [seq_eq]; simp
theorem loopN_mono {X R : Type} {st : (X → Option R) → X → Option R} (h : ∀ f g : X → Option R, (∀ y r, f y = some r → g y = some r) → ∀ x r, st f x = some r → st g x = some r) : ∀ (n m : Nat) (x : X) (r : R), n ≤ m → loopN n st x = some r → loopN m st x = some r
  | 0, m, x, r, _, e => by cases e
  | n + 1, 0, x, r, hle, e => by omega
  | n + 1, m + 1, x, r, hle, e => h (loopN n st) (loopN m st) (fun y r' q => loopN_mono h n m y r' (by omega) q) x r e
abbrev stD : ((Int × (Int × (List Int))) → (Option ByteArray)) → (Int × (Int × (List Int))) → Option ByteArray := fun a5 a6 => cnd (ilt a6.2.1 (len (List.replicate 16 (0 : Int)))) (bnd (bt? (⟨#[48, 49, 50, 51, 52, 53, 54, 55, 56, 57, 97, 98, 99, 100, 101, 102]⟩ : ByteArray) (iand Go.IntKind.u64 a6.1 15)) (fun (a7 : Int) => bnd (inb (len a6.2.2) (isub Go.IntKind.i64 15 a6.2.1)) (fun (a8 : Unit) => bnd (ishr? Go.IntKind.u64 a6.1 4) (fun (a9 : Int) => a5 (a9, iadd Go.IntKind.i64 a6.2.1 1, setAt a6.2.2 (isub Go.IntKind.i64 15 a6.2.1) a7))))) (some (strOf a6.2.2))
theorem stD_mono (f g : (Int × (Int × (List Int))) → Option ByteArray) (h : ∀ y r, f y = some r → g y = some r) (x : Int × (Int × (List Int))) (r : ByteArray) (e : stD f x = some r) : stD g x = some r := by
  unfold stD at *
  cases hc : ilt x.2.1 (len (List.replicate 16 (0 : Int))) with
  | false => rw [hc] at e; exact e
  | true =>
    rw [hc] at e
    have e : bnd _ _ = some r := e
    show bnd _ _ = some r
    unfold bnd at *
    obtain ⟨a, h1, e⟩ := Option.bind_eq_some_iff.1 e
    obtain ⟨b, h2, e⟩ := Option.bind_eq_some_iff.1 e
    obtain ⟨c, h3, e⟩ := Option.bind_eq_some_iff.1 e
    rw [h1]
    show Option.bind _ _ = _
    rw [h2]
    show Option.bind _ _ = _
    rw [h3]
    exact h _ _ e
theorem digD : loopN 20 stD (14695981039346656037, 0, List.replicate 16 (0 : Int)) = some ⟨#[99, 98, 102, 50, 57, 99, 101, 52, 56, 52, 50, 50, 50, 51, 50, 53]⟩ := by decide +kernel
theorem awake_spec : Ultk (fun k => S5 k ()) true := by
  unfold S5
  have h26 : Ultk (fun k => S10 k (([] : List Int), ())) ⟨#[99, 98, 102, 50, 57, 99, 101, 52, 56, 52, 50, 50, 50, 51, 50, 53]⟩ := by
    unfold S10
    refine Ult.loopI (fun _ => Nat.le_refl _) (fun x => x = (14695981039346656037, 0)) (fun x => 0) rfl ?_
    rintro _ rfl next
    refine Ult.no (by decide) (Ult.bindc (a := List.replicate 16 (0 : Int)) (by decide +kernel) ?_)
    refine ⟨20, fun p hp => ?_⟩
    have : 20 ≤ min p.1 p.2 := hp
    exact loopN_mono stD_mono 20 p.1 _ _ (by omega) digD
  refine Ult.bind (Ult.call (f := fun k => S10 k (([] : List Int), ())) (fun _ => Nat.le_refl _) h26) ?_
  rw [seq_self]
  exact Ult.ret
/-! ### Concat, Together -/
theorem grow_spec (n : Nat) (hn : n ≤ 2000000) : Ultk (fun k => S12 k ((), (n : Int), ())) [] := by
  unfold S12
  refine Ult.jn ?_
  dsimp only
  refine Ult.no (by rw [ilt_eq]; exact decide_eq_false (by omega)) ?_
  have e : isub Go.IntKind.i64 (n : Int) (isub Go.IntKind.i64 0 (len ([] : List Int))) = (n : Int) := by
    rw [show isub Go.IntKind.i64 0 (len ([] : List Int)) = 0 from isub64 (by decide) (by decide), isub64 (by omega) (by omega)]; omega
  rw [e, igt_eq]
  by_cases h0 : 0 < n
  · refine Ult.yes (decide_eq_true (by omega)) (Ult.bindc (a := []) rfl (Ult.bindc (a := ()) ?_ (Ult.bindc (a := List.replicate n 0) ?_ (Ult.bindc (a := []) ?_ Ult.ret))))
    · unfold inb; rw [if_pos ⟨by omega, by omega⟩]
    · unfold mk?; rw [if_pos ⟨rfl, by omega, by simp; omega⟩, Int.toNat_natCast]
    · unfold cut? len; rw [if_pos ⟨by simp, by simp, by simp⟩]; simp
  · exact Ult.no (decide_eq_false (by omega)) Ult.ret
def sumL (L : List (List Int)) : Nat := (L.map List.length).sum
theorem sumL_take {L : List (List Int)} {j : Nat} (h : j < L.length) : sumL (L.take (j + 1)) = sumL (L.take j) + L[j].length := by
  unfold sumL
  rw [List.take_succ_eq_append_getElem h, List.map_append, List.sum_append]
  simp
theorem sumL_le (L : List (List Int)) (j : Nat) : sumL (L.take j) ≤ sumL L := by
  have : sumL L = sumL (L.take j) + sumL (L.drop j) := by
    unfold sumL
    rw [← List.sum_append, ← List.map_append, List.take_append_drop]
  omega
theorem concat_spec (L : List (List Int)) (hl : L.length ≤ 20000) (hs : sumL L ≤ 2000000) : Ultk (fun k => S11 k (L, ())) L.flatten := by
  unfold S11
  refine Ult.forA (A := Unit) (fun _ => Nat.le_refl _) L.length (fun _ j => ((sumL (L.take j) : Int), (j : Int))) (fun _ _ => True) (fun _ _ => L.flatten) () trivial fun _ j hj _ next => ?_
  dsimp only
  rw [iltL]
  by_cases hlt : j < L.length
  · refine Ult.yes (decide_eq_true hlt) (Ult.bindc (at?_nat hlt) ?_)
    have h1 := sumL_take hlt
    have h2 := sumL_le L (j + 1)
    have e : iadd Go.IntKind.i64 (sumL (L.take j) : Int) (len L[j]) = (sumL (L.take (j + 1)) : Int) := by unfold len; rw [iadd64 (by omega) (by omega)]; omega
    rw [e, isucc hlt (by omega)]
    exact Ult.no (by rw [ilt_eq]; exact decide_eq_false (by omega)) (next () hlt trivial)
  · refine Ult.no (decide_eq_false hlt) ?_
    rw [List.take_of_length_le (by omega)]
    refine Ult.bind (Ult.call (l := lp fun k : Nat => k) (k := fun q => q.1) (lp_le _ _ fun _ => Nat.le_refl _) (grow_spec (sumL L) hs)) ?_
    refine Ult.forA (A := Unit) (lp_le _ _ fun _ => Nat.le_refl _) L.length (fun _ j => ((L.take j).flatten, (j : Int))) (fun _ _ => True) (fun _ _ => L.flatten) () trivial fun _ i hi _ next2 => ?_
    dsimp only
    rw [iltL]
    by_cases hlu : i < L.length
    · refine Ult.yes (decide_eq_true hlu) (Ult.bindc (at?_nat hlu) ?_)
      have h1 := sumL_take hlu
      have h2 := sumL_le L (i + 1)
      have hfl : ((L.take i).flatten).length = sumL (L.take i) := by rw [List.length_flatten]; rfl
      refine Ult.bindc (app?_ok (by rw [hfl]; show (_ + _) * 1 ≤ _; omega)) ?_
      rw [isucc hlu (by omega)]
      have := next2 () hlu trivial
      rw [List.take_succ_eq_append_getElem hlu, List.flatten_append] at this
      simpa using this
    · refine Ult.no (decide_eq_false hlu) (Ult.ret.eq ?_)
      rw [List.take_of_length_le (by omega)]
theorem together_spec (L : List (List Int)) (hl : L.length ≤ 20000) (hs : sumL L ≤ 2000000) : Ultk (fun k => S6 k (L, ())) (L.flatten, 0) := by
  unfold S6
  dsimp only
  refine Ult.no (by unfold igt len; exact decide_eq_false (by omega)) ?_
  refine Ult.forA (A := Unit) (fun _ => Nat.le_refl _) L.length (fun _ j => ((sumL (L.take j) : Int), (j : Int))) (fun _ _ => True) (fun _ _ => (L.flatten, 0)) () trivial fun _ j hj _ next => ?_
  dsimp only
  rw [iltL]
  by_cases hlt : j < L.length
  · refine Ult.yes (decide_eq_true hlt) (Ult.bindc (at?_nat hlt) ?_)
    have h1 := sumL_take hlt
    have h2 := sumL_le L (j + 1)
    have e : iadd Go.IntKind.i64 (sumL (L.take j) : Int) (len L[j]) = (sumL (L.take (j + 1)) : Int) := by unfold len; rw [iadd64 (by omega) (by omega)]; omega
    rw [e, isucc hlt (by omega)]
    exact next () hlt trivial
  · refine Ult.no (decide_eq_false hlt) ?_
    rw [List.take_of_length_le (by omega)]
    refine Ult.no (by rw [igt_eq]; exact decide_eq_false (by omega)) ?_
    exact Ult.bind (Ult.call (l := lp fun k : Nat => k) (k := fun q => q.1) (lp_le _ _ fun _ => Nat.le_refl _) (concat_spec L hl hs)) Ult.ret
theorem bytesEq_self (a : List Int) : Ultk (fun k => S7 k (a, a, ())) true := ⟨0, fun _ _ => congrArg some (seq_self _)⟩
theorem intsEq_self (a : List Int) (hl : a.length ≤ 100000) : Ultk (fun k => S8 k (a, a, ())) true := by
  unfold S8
  refine Ult.no (ine_self _) ?_
  refine Ult.forI (fun _ => Nat.le_refl _) a.length (fun _ => true) fun j hj next => ?_
  rw [iltL]
  by_cases hlt : j < a.length
  · refine Ult.yes (decide_eq_true hlt) (Ult.bindc (at?_nat hlt) (Ult.bindc (at?_nat hlt) ?_))
    rw [isucc hlt (by omega)]
    exact Ult.no (ine_self _) (next hlt)
  · exact Ult.no (decide_eq_false hlt) Ult.ret
/-! ### the pieces one by one -/
def piece (b : List Int) (xs : List Nat) (j : Nat) : List Int := (b.drop (xs.take j).sum).take (xs.getD j 0)
def piecesL (b : List Int) (xs : List Nat) (i : Nat) : List (List Int) := (List.range i).map (piece b xs)
theorem piecesL_succ (b : List Int) (xs : List Nat) (i : Nat) : piecesL b xs (i + 1) = piecesL b xs i ++ [piece b xs i] := by
  unfold piecesL
  rw [List.range_succ, List.map_append]; rfl
theorem sum_take {xs : List Nat} {i : Nat} (h : i < xs.length) : (xs.take (i + 1)).sum = (xs.take i).sum + xs[i] := by
  rw [List.take_succ_eq_append_getElem h, List.sum_append]; simp
theorem sum_take_le (xs : List Nat) (i : Nat) : (xs.take i).sum ≤ xs.sum := by
  have : xs.sum = (xs.take i).sum + (xs.drop i).sum := by rw [← List.sum_append, List.take_append_drop]
  omega
theorem piecesL_flat (b : List Int) (xs : List Nat) : ∀ i, i ≤ xs.length → (piecesL b xs i).flatten = b.take (xs.take i).sum
  | 0, _ => by simp [piecesL]
  | i + 1, h => by
    have hi : i < xs.length := by omega
    rw [piecesL_succ, List.flatten_append, piecesL_flat b xs i (by omega), sum_take hi, List.take_add]
    congr 1
    unfold piece
    simp [hi]
theorem sumL_flat (L : List (List Int)) : sumL L = L.flatten.length := by rw [List.length_flatten]; rfl
end Go.Proofs.Ytcppmncmlhibhaa.Ev

namespace Go.Proofs.Ytcppmncmlhibhaa.Ev
open Go Go.RowKit
set_option linter.unusedVariables false
set_option linter.unusedSimpArgs false
theorem some_of {f : Nat → Option Bool} (h : Ultk f true) : ∃ k, f k = some true := by
  obtain ⟨K, h⟩ := h
  exact ⟨K, h K (Nat.le_refl _)⟩
theorem igt_len (n : Int) (b : List Int) : igt n (len b) = decide ((b.length : Int) < n) := rfl
theorem BlobPiecesComeBackPure : BlobPiecesComeBackStated := by
  intro b least bits most cut hb h1 h2 h3 h4
  refine some_of ?_
  unfold S3
  dsimp only
  obtain ⟨c, hc⟩ : ∃ c : Cu, c = ⟨least, bits, most⟩ := ⟨_, rfl⟩
  have e1 : least = c.least := by rw [hc]
  have e2 : bits = c.bits := by rw [hc]
  have e3 : most = c.most := by rw [hc]
  rw [e1, e2, e3]
  clear hc
  refine Ult.bind (pieces_spec b c) ?_
  by_cases g1 : 2000000 < b.length
  · rw [show pcsAns b c = ([], 2) by unfold pcsAns; rw [if_pos g1]]
    exact Ult.yes rfl (Ult.yes rfl (Ult.bind awake_spec Ult.ret))
  by_cases g2 : c.ok
  rotate_left
  · rw [show pcsAns b c = ([], 1) by unfold pcsAns pcsB; rw [if_neg g1, if_pos g2]]
    exact Ult.yes rfl (Ult.yes rfl (Ult.bind awake_spec Ult.ret))
  by_cases g3 : 20000 < (c.pcs b b.length).length
  · rw [show pcsAns b c = ([], 2) by unfold pcsAns pcsB; rw [if_neg g1, if_neg (fun q => q g2), if_pos g3]]
    exact Ult.yes rfl (Ult.yes rfl (Ult.bind awake_spec Ult.ret))
  rw [show pcsAns b c = (toI (c.pcs b b.length), 0) by unfold pcsAns pcsB; rw [if_neg g1, if_neg (fun q => q g2), if_neg g3]]
  refine Ult.no rfl ?_
  dsimp only
  obtain ⟨p1, p2, p3⟩ := c.pcs_facts g2 b b.length
  have hc' := g2
  unfold Cu.ok at hc'
  obtain ⟨xs, hxs⟩ : ∃ xs, xs = c.pcs b b.length := ⟨_, rfl⟩
  rw [← hxs] at p1 p2 p3 g3 ⊢
  have hat : ∀ {j : Nat} (h : j < xs.length), at? (toI xs) (j : Int) = some (xs[j] : Int) := fun {j} h => by
    rw [at?_nat (by rw [toI_len]; exact h)]; simp [toI]
  refine Ult.forN (A := Unit) (fun _ => Nat.le_refl _) xs.length (fun _ j => (piecesL b xs j, ((xs.take j).sum : Int), (j : Int))) (fun _ _ => True) (fun _ _ => true) () trivial fun N _ j hj _ next => ?_
  dsimp only
  rw [iltL, toI_len]
  by_cases hlt : j < xs.length
  · refine Ult.yes (decide_eq_true hlt) (Ult.jn ?_)
    dsimp only
    have q1 := p2 _ (List.getElem_mem hlt)
    have s1 := sum_take hlt
    have s2 := sum_take_le xs (j + 1)
    have fin : Ult (lp fun k : Nat => k) (fun p : Nat × Nat => cnd (igt (iadd Go.IntKind.i64 ((xs.take j).sum : Int) (xs[j] : Int)) (len b)) (some false) (bnd (at? (toI xs) (j : Int)) (fun (a6 : Int) => bnd (cut? b ((xs.take j).sum : Int) (iadd Go.IntKind.i64 ((xs.take j).sum : Int) a6)) (fun (a7 : List Int) => bnd (app? 24 (piecesL b xs j) (a7 :: ([] : List (List Int)))) (fun (a8 : List (List Int)) => bnd (at? (toI xs) (j : Int)) (fun (a9 : Int) => N p (a8, iadd Go.IntKind.i64 ((xs.take j).sum : Int) a9, iadd Go.IntKind.i64 (j : Int) 1))))))) true := by
      have ea : iadd Go.IntKind.i64 ((xs.take j).sum : Int) (xs[j] : Int) = ((xs.take (j + 1)).sum : Int) := by rw [iadd64 (by omega) (by omega), s1]; omega
      refine Ult.no (by rw [ea, igt_len]; exact decide_eq_false (by omega)) (Ult.bindc (hat hlt) (Ult.bindc (a := piece b xs j) ?_ (Ult.bindc (app?_ok ?_) (Ult.bindc (hat hlt) ?_))))
      · rw [ea]
        unfold cut?
        rw [if_pos ⟨by omega, by omega, by omega⟩, Int.toNat_natCast, Int.toNat_natCast, List.drop_take]
        unfold piece
        simp [hlt, s1]
      · unfold piecesL
        rw [List.length_map, List.length_range]
        show (j + 1) * 24 ≤ _; omega
      · have := next () hlt trivial
        rw [piecesL_succ] at this
        rw [ea, isucc hlt (by omega)]
        exact this
    refine Ult.bindc (hat hlt) (Ult.no (by rw [ilt_eq]; exact decide_eq_false (by omega)) (Ult.bindc (hat hlt) (Ult.no (by rw [igt_eq]; exact decide_eq_false (by omega)) ?_)))
    have el : isub Go.IntKind.i64 (len (toI xs)) 1 = (xs.length : Int) - 1 := by unfold len; rw [toI_len, isub64 (by omega) (by omega)]
    rw [el, ilt_eq]
    by_cases hl2 : (j : Int) < (xs.length : Int) - 1
    · have q3 := p3 j hlt (by omega)
      exact Ult.yes (decide_eq_true hl2) (Ult.bindc (hat hlt) (Ult.no (by rw [ilt_eq]; exact decide_eq_false (by omega)) (Ult.bindc (hat hlt) fin)))
    · exact Ult.no (decide_eq_false hl2) (Ult.bindc (hat hlt) fin)
  · refine Ult.no (decide_eq_false hlt) ?_
    have hjl : j = xs.length := by omega
    subst hjl
    have hfl := piecesL_flat b xs xs.length (Nat.le_refl _)
    rw [List.take_length, p1, List.take_length] at hfl
    have hpl : (piecesL b xs xs.length).length = xs.length := by unfold piecesL; simp
    have lp1 : ∀ i : Nat × Nat, lp (fun k : Nat => k) i ≤ i.1 := lp_le _ _ fun _ => Nat.le_refl _
    refine Ult.bind (Ult.call (l := lp fun k : Nat => k) (k := fun q => q.1) lp1 (together_spec (piecesL b xs xs.length) (by omega) (by rw [sumL_flat, hfl]; omega))) ?_
    rw [hfl, List.take_length, p1]
    refine Ult.jn ?_
    dsimp only
    have hbe := Ult.call (l := lp fun k : Nat => k) (k := fun q => q.1) (f := fun k => S7 k (b, b, ())) lp1 (bytesEq_self b)
    have haw := Ult.call (l := lp fun k : Nat => k) (k := fun q => q.1) (f := fun k => S5 k ()) lp1 awake_spec
    refine Ult.no rfl (Ult.no (ine_self _) (Ult.bind hbe (Ult.no rfl ?_)))
    have triv : Ult (lp fun k : Nat => k) (fun p : Nat × Nat => cnd (ieq 0 0) (cnd (ieq ((b.length : Nat) : Int) (len b)) (bnd (S7 p.1 (b, b, ())) (fun (a7 : Bool) => cnd a7 (bnd (S5 p.1 ()) (fun (a8 : Bool) => some a8)) (some false))) (some false)) (some false)) true :=
      Ult.yes rfl (Ult.yes (ieq_self _) (Ult.bind hbe (Ult.yes rfl (Ult.bind haw Ult.ret))))
    rw [ilt_eq, igt_len]
    by_cases n1 : cut < 0
    · exact Ult.yes (decide_eq_true n1) (Ult.yes rfl triv)
    refine Ult.no (decide_eq_false n1) ?_
    by_cases n2 : (b.length : Int) < cut
    · rw [decide_eq_true n2]
      exact Ult.yes rfl triv
    rw [decide_eq_false n2]
    refine Ult.no rfl ?_
    obtain ⟨m, rfl⟩ : ∃ m : Nat, cut = (m : Int) := ⟨Int.toNat cut, (Int.toNat_of_nonneg (Int.not_lt.1 n1)).symm⟩
    have hm : m ≤ b.length := Int.ofNat_le.1 (Int.not_lt.1 n2)
    refine Ult.bindc (a := ()) (if_pos ⟨Int.natCast_nonneg _, by show (m : Int) < (b.length : Int) + 1; omega⟩) (Ult.bindc (a := ()) (if_pos ⟨Int.natCast_nonneg _, by show (m : Int) < (m : Int) + 1; omega⟩) (Ult.bindc (cut?_take hm) ?_))
    refine Ult.bind (Ult.call (l := lp fun k : Nat => k) (k := fun q => q.1) lp1 (pieces_spec (b.take m) c)) ?_
    obtain ⟨t1, t2⟩ := c.pcs_take g2 b m b.length hm
    have hml : (b.take m).length = m := by rw [List.length_take]; omega
    rw [← hxs] at t1 t2
    rw [show pcsAns (b.take m) c = (toI (c.pcs (b.take m) m), 0) by unfold pcsAns pcsB; rw [hml, if_neg (by omega), if_neg (fun q => q g2), if_neg (by omega)]]
    generalize c.pcs (b.take m) m = ys at *
    refine Ult.yes rfl (Ult.yes (by unfold ile len; rw [toI_len, toI_len]; exact decide_eq_true (by omega)) ?_)
    have em : imax 0 (isub Go.IntKind.i64 (len (toI ys)) 1) = ((ys.length - 1 : Nat) : Int) := by
      unfold len imax
      rw [toI_len, isub64 (by omega) (by omega)]
      split <;> omega
    rw [em]
    refine Ult.bindc (cut?_take (by rw [toI_len]; omega)) (Ult.bindc (cut?_take (by rw [toI_len]; omega)) ?_)
    have e4 : (toI xs).take (ys.length - 1) = (toI ys).take (ys.length - 1) := by
      unfold toI
      rw [← List.map_take, ← List.map_take, t2]
    rw [e4]
    refine Ult.bind (Ult.call (l := lp fun k : Nat => k) (k := fun q => q.1) lp1 (intsEq_self _ (by rw [List.length_take, toI_len]; omega))) (Ult.yes rfl ?_)
    exact Ult.bind haw Ult.ret
end Go.Proofs.Ytcppmncmlhibhaa.Ev
