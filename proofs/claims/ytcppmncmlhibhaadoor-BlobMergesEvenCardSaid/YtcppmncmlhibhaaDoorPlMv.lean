/- The plain laws (this session's own). No condition but those in the statements. -/
import Derived.Test.YtcppmncmlhibhaaDoorFBlm
import Derived.Test.YtcppmncmlhibhaaDoorEv5
import Derived.Test.YtcppmncmlhibhaaDoorEvD
import Derived.Test.YtcppmncmlhibhaaDoorEvK
import Derived.Sort.Walk0
import Derived.Lib.SplitLaws
import Derived.Lib.IndexMore
import Derived.Lib.Join
namespace Go.Proofs.YtcppmncmlhibhaaDoor.Ev
open Go Go.RowKit
/-- THE ONE PURE STATEMENT. -/
def BlobMergesEvenStated : Prop := ∀ (x0 : (.slice (.agg (.pair (.str) (.pair (.bool) (.slice (.int .u8))))) : Kd).T) (x1 : (.slice (.agg (.pair (.str) (.pair (.bool) (.slice (.int .u8))))) : Kd).T) (x2 : (.slice (.agg (.pair (.str) (.pair (.bool) (.slice (.int .u8))))) : Kd).T), (WfS 48 (fun x => (fun s => s.size ≤ 140737488351232) x.1 ∧ (fun x => (fun _ => True) x.1 ∧ (WfS 1 (fun n => (Lit.int .u8 n).wf = true)) x.2) x.2)) x0 → (WfS 48 (fun x => (fun s => s.size ≤ 140737488351232) x.1 ∧ (fun x => (fun _ => True) x.1 ∧ (WfS 1 (fun n => (Lit.int .u8 n).wf = true)) x.2) x.2)) x1 → (WfS 48 (fun x => (fun s => s.size ≤ 140737488351232) x.1 ∧ (fun x => (fun _ => True) x.1 ∧ (WfS 1 (fun n => (Lit.int .u8 n).wf = true)) x.2) x.2)) x2 → ∃ k, S9 k (x0, x1, x2, ()) = some true
end Go.Proofs.YtcppmncmlhibhaaDoor.Ev

namespace Go.Proofs.YtcppmncmlhibhaaDoor.Ev
open Go.RowKit
set_option linter.unusedVariables false

/-- from some number of rounds on; l: the least of all numbers of rounds that matter -/
def Ult {ι R : Type} (l : ι → Nat) (f : ι → Option R) (r : R) : Prop := ∃ K, ∀ i, K ≤ l i → f i = some r
variable {ι R α : Type} {l : ι → Nat}
theorem Ult.ret {r : R} : Ult l (fun _ => some r) r := ⟨0, fun _ _ => rfl⟩
theorem Ult.congr {f g : ι → Option R} {r : R} (h : Ult l f r) (e : ∀ i, g i = f i) : Ult l g r := by
  obtain ⟨K, h⟩ := h
  exact ⟨K, fun i hi => (e i).trans (h i hi)⟩
theorem Ult.bind {f : ι → Option α} {g : ι → α → Option R} {a : α} {r : R} (h : Ult l f a) (k : Ult l (fun i => g i a) r) : Ult l (fun i => bnd (f i) (g i)) r := by
  obtain ⟨K, h⟩ := h
  obtain ⟨L, k⟩ := k
  refine ⟨max K L, fun i hi => ?_⟩
  show Option.bind (f i) (g i) = some r
  rw [h i (by omega)]
  exact k i (by omega)
theorem Ult.bindc {m : Option α} {g : ι → α → Option R} {a : α} {r : R} (h : m = some a) (k : Ult l (fun i => g i a) r) : Ult l (fun i => bnd m (g i)) r := Ult.bind ⟨0, fun _ _ => h⟩ k
theorem Ult.yes {c : Bool} {f g : ι → Option R} {r : R} (hc : c = true) (h : Ult l f r) : Ult l (fun i => cnd c (f i) (g i)) r := by subst hc; exact h
theorem Ult.no {c : Bool} {f g : ι → Option R} {r : R} (hc : c = false) (h : Ult l g r) : Ult l (fun i => cnd c (f i) (g i)) r := by subst hc; exact h
theorem Ult.ite {c : Bool} {f g : ι → Option R} {r : R} (h : c = true → Ult l f r) (k : c = false → Ult l g r) : Ult l (fun i => cnd c (f i) (g i)) r := by
  cases c
  · exact Ult.no rfl (k rfl)
  · exact Ult.yes rfl (h rfl)
/-- a function's own number of rounds -/
abbrev Ultk (f : Nat → Option R) (r : R) : Prop := Ult (fun k : Nat => k) f r
theorem Ult.call {f : Nat → Option R} {r : R} {k : ι → Nat} (hk : ∀ i, l i ≤ k i) (h : Ultk f r) : Ult l (fun i => f (k i)) r := by
  obtain ⟨K, h⟩ := h
  exact ⟨K, fun i hi => h (k i) (Nat.le_trans hi (hk i))⟩
theorem Ultk.call {f : Nat → Option R} {r : R} (h : Ultk f r) : Ultk (fun k => f k) r := h
/-- the rounds of a loop, told by a number of their own -/
def lp (l : ι → Nat) (p : ι × Nat) : Nat := min (l p.1) p.2
theorem lp_le (l : ι → Nat) (k : ι → Nat) (hk : ∀ i, l i ≤ k i) : ∀ p : ι × Nat, lp l p ≤ k p.1 := fun p => Nat.le_trans (Nat.min_le_left _ _) (hk _)
variable {X : Type}
theorem Ult.loop {st : ι → (X → Option R) → X → Option R} {x : X} {r : R} {k : ι → Nat} (hk : ∀ i, l i ≤ k i) (h : Ult (lp l) (fun p => loopN p.2 (st p.1) x) r) : Ult l (fun i => loopN (k i) (st i) x) r := by
  obtain ⟨K, h⟩ := h
  refine ⟨K, fun i hi => h (i, k i) ?_⟩
  have := hk i
  show K ≤ min (l i) (k i)
  omega
theorem Ult.round {st : ι → (X → Option R) → X → Option R} {x : X} {r : R} (h : Ult (lp l) (fun p => st p.1 (loopN p.2 (st p.1)) x) r) : Ult (lp l) (fun p => loopN p.2 (st p.1) x) r := by
  obtain ⟨K, h⟩ := h
  refine ⟨K + 1, fun p hp => ?_⟩
  obtain ⟨i, n⟩ := p
  have h1 : K + 1 ≤ min (l i) n := hp
  cases n with
  | zero => omega
  | succ n =>
    have h2 := h (i, n) (show K ≤ min (l i) n by omega)
    exact h2
/-- rounds by a measure -/
theorem Ult.rounds {st : ι → (X → Option R) → X → Option R} {r : R} (I : X → Prop) (μ : X → Nat) (h : ∀ x, I x → (∀ y, I y → μ y < μ x → Ult (lp l) (fun p => loopN p.2 (st p.1) y) r) → Ult (lp l) (fun p => st p.1 (loopN p.2 (st p.1)) x) r) :
    ∀ x, I x → Ult (lp l) (fun p => loopN p.2 (st p.1) x) r := by
  intro x
  generalize hn : μ x = n
  induction n using Nat.strongRecOn generalizing x with
  | _ n ih =>
    intro hI
    refine Ult.round (h x hI fun y hy hlt => ih (μ y) (by omega) y rfl hy)

/-- a loop by an invariant and a measure -/
theorem Ult.loopI {st : ι → (X → Option R) → X → Option R} {x : X} {r : R} {k : ι → Nat} (hk : ∀ i, l i ≤ k i) (I : X → Prop) (μ : X → Nat) (h0 : I x)
    (h : ∀ x, I x → (∀ y, I y → μ y < μ x → Ult (lp l) (fun p => loopN p.2 (st p.1) y) r) → Ult (lp l) (fun p => st p.1 (loopN p.2 (st p.1)) x) r) : Ult l (fun i => loopN (k i) (st i) x) r :=
  Ult.loop hk (Ult.rounds I μ h x h0)

/-! ### total correctness: it ends, and with what is wanted -/
def Fin {ι R : Type} (l : ι → Nat) (f : ι → Option R) (Q : R → Prop) : Prop := ∃ r, Q r ∧ Ult l f r
abbrev Fink {R : Type} (f : Nat → Option R) (Q : R → Prop) : Prop := Fin (fun k : Nat => k) f Q
variable {Q : R → Prop}
theorem Fin.ret {r : R} (h : Q r) : Fin l (fun _ => some r) Q := ⟨r, h, Ult.ret⟩
theorem Fin.bind {f : ι → Option α} {g : ι → α → Option R} {Qa : α → Prop} (h : Fin l f Qa) (k : ∀ a, Qa a → Fin l (fun i => g i a) Q) : Fin l (fun i => bnd (f i) (g i)) Q := by
  obtain ⟨a, ha, h⟩ := h
  obtain ⟨r, hr, k⟩ := k a ha
  exact ⟨r, hr, Ult.bind h k⟩
theorem Fin.bindu {f : ι → Option α} {g : ι → α → Option R} {a : α} (h : Ult l f a) (k : Fin l (fun i => g i a) Q) : Fin l (fun i => bnd (f i) (g i)) Q := by
  obtain ⟨r, hr, k⟩ := k
  exact ⟨r, hr, Ult.bind h k⟩
theorem Fin.bindc {m : Option α} {g : ι → α → Option R} {a : α} (h : m = some a) (k : Fin l (fun i => g i a) Q) : Fin l (fun i => bnd m (g i)) Q := Fin.bindu ⟨0, fun _ _ => h⟩ k
theorem Fin.ite {c : Bool} {f g : ι → Option R} (h : c = true → Fin l f Q) (k : c = false → Fin l g Q) : Fin l (fun i => cnd c (f i) (g i)) Q := by
  cases c
  · exact k rfl
  · exact h rfl
theorem Fin.mono {Q' : R → Prop} {f : ι → Option R} (h : Fin l f Q) (k : ∀ r, Q r → Q' r) : Fin l f Q' := by
  obtain ⟨r, hr, h⟩ := h
  exact ⟨r, k r hr, h⟩
theorem Fin.of {f : ι → Option R} {r : R} (h : Ult l f r) (hq : Q r) : Fin l f Q := ⟨r, hq, h⟩
theorem Fin.ult {f : ι → Option R} {r : R} (h : Fin l f (fun x => x = r)) : Ult l f r := by
  obtain ⟨_, rfl, h⟩ := h
  exact h
theorem Fin.call {f : Nat → Option R} {k : ι → Nat} (hk : ∀ i, l i ≤ k i) (h : Fink f Q) : Fin l (fun i => f (k i)) Q := by
  obtain ⟨r, hr, h⟩ := h
  exact ⟨r, hr, Ult.call hk h⟩
/-- a loop by an invariant and a measure -/
theorem Fin.loopI {st : ι → (X → Option R) → X → Option R} {x : X} {k : ι → Nat} (hk : ∀ i, l i ≤ k i) (I : X → Prop) (μ : X → Nat) (h0 : I x)
    (h : ∀ x, I x → (∀ y, I y → μ y < μ x → Fin (lp l) (fun p => loopN p.2 (st p.1) y) Q) → Fin (lp l) (fun p => st p.1 (loopN p.2 (st p.1)) x) Q) : Fin l (fun i => loopN (k i) (st i) x) Q := by
  have key : ∀ (n : Nat) (x : X), μ x = n → I x → Fin (lp l) (fun p => loopN p.2 (st p.1) x) Q := by
    intro n
    induction n using Nat.strongRecOn with
    | _ n ih =>
      intro x hn hI
      obtain ⟨r, hr, hu⟩ := h x hI fun y hy hlt => ih (μ y) (by omega) y rfl hy
      exact ⟨r, hr, Ult.round hu⟩
  obtain ⟨r, hr, hu⟩ := key _ x rfl h0
  exact ⟨r, hr, Ult.loop hk hu⟩
theorem Ult.lift {f : ι → Option R} {r : R} (h : Ult l f r) : Ult (lp l) (fun q => f q.1) r := by
  obtain ⟨K, h⟩ := h
  exact ⟨K, fun q hq => h q.1 (Nat.le_trans hq (Nat.min_le_left _ _))⟩
theorem Fin.lift {f : ι → Option R} (h : Fin l f Q) : Fin (lp l) (fun q => f q.1) Q := by
  obtain ⟨r, hr, h⟩ := h
  exact ⟨r, hr, h.lift⟩
theorem Ultk.unique {f : Nat → Option R} {a b : R} (h : Ultk f a) (k : Ultk f b) : a = b := by
  obtain ⟨K, h⟩ := h
  obtain ⟨L, k⟩ := k
  have h1 := h (max K L) (Nat.le_max_left _ _)
  rw [k (max K L) (Nat.le_max_right _ _)] at h1
  exact (Option.some.inj h1).symm

/-! ### the operations -/
theorem wrap64 {n : Int} (h0 : -9223372036854775808 ≤ n) (h1 : n ≤ 9223372036854775807) : IntKind.i64.wrap n = n := by
  rw [IntKind.wrap_i64]; omega
theorem iadd64 {a b : Int} (h0 : -9223372036854775808 ≤ a + b) (h1 : a + b ≤ 9223372036854775807) : iadd .i64 a b = a + b := wrap64 h0 h1
theorem isub64 {a b : Int} (h0 : -9223372036854775808 ≤ a - b) (h1 : a - b ≤ 9223372036854775807) : isub .i64 a b = a - b := wrap64 h0 h1
theorem at?_nat {l : List α} {i : Nat} (h : i < l.length) : at? l (i : Int) = some l[i] := by
  unfold at?
  rw [if_pos (Int.natCast_nonneg _), Int.toNat_natCast, List.getElem?_eq_getElem h]
theorem bt?_nat {s : ByteArray} {i : Nat} (h : i < s.size) : bt? s (i : Int) = some (bt s (i : Int)) := by
  unfold bt?
  rw [if_pos ⟨Int.natCast_nonneg _, by omega⟩]
theorem len_def {l : List α} : len l = (l.length : Int) := rfl

end Go.Proofs.YtcppmncmlhibhaaDoor.Ev

namespace Go.Proofs.YtcppmncmlhibhaaDoor.Ev
open Go Go.RowKit
set_option linter.unusedVariables false
set_option linter.unusedSimpArgs false
variable {ι R X A α β : Type} {l : ι → Nat}

/-- a loop by an index and what is gathered; 'res': what comes of it from there on -/
theorem Ult.forA {st : ι → (X → Option R) → X → Option R} {k : ι → Nat} (hk : ∀ i, l i ≤ k i) (n : Nat) (mk : A → Nat → X) (I : A → Nat → Prop) (res : A → Nat → R) (a0 : A) (h0 : I a0 0)
    (h : ∀ a j, j ≤ n → I a j → (∀ a', j < n → I a' (j + 1) → Ult (lp l) (fun p => loopN p.2 (st p.1) (mk a' (j + 1))) (res a' (j + 1))) → Ult (lp l) (fun p => st p.1 (loopN p.2 (st p.1)) (mk a j)) (res a j)) :
    Ult l (fun i => loopN (k i) (st i) (mk a0 0)) (res a0 0) := by
  have key : ∀ (d j : Nat) (a : A), n - j = d → j ≤ n → I a j → Ult (lp l) (fun p => loopN p.2 (st p.1) (mk a j)) (res a j) := by
    intro d
    induction d with
    | zero => intro j a hd hj hI; exact Ult.round (h a j hj hI fun a' hlt _ => by omega)
    | succ d ih => intro j a hd hj hI; exact Ult.round (h a j hj hI fun a' hlt hI' => ih (j + 1) a' (by omega) (by omega) hI')
  exact Ult.loop hk (key n 0 a0 (by omega) (Nat.zero_le _) h0)
theorem Ult.forI {st : ι → (Int → Option R) → Int → Option R} {k : ι → Nat} (hk : ∀ i, l i ≤ k i) (n : Nat) (res : Nat → R)
    (h : ∀ j, j ≤ n → (j < n → Ult (lp l) (fun p => loopN p.2 (st p.1) ((j + 1 : Nat) : Int)) (res (j + 1))) → Ult (lp l) (fun p => st p.1 (loopN p.2 (st p.1)) (j : Int)) (res j)) :
    Ult l (fun i => loopN (k i) (st i) 0) (res 0) :=
  Ult.forA (A := Unit) hk n (fun _ j => (j : Int)) (fun _ _ => True) (fun _ j => res j) () trivial fun _ j hj _ hn => h j hj fun hlt => hn () hlt trivial
theorem Ult.jn {f : ι → (X → Option R) → Option R} {g : ι → X → Option R} {r : R} (h : Ult l (fun i => f i (g i)) r) : Ult l (fun i => jn (f i) (g i)) r := h
theorem Ult.eq {f : ι → Option R} {r r' : R} (h : Ult l f r) (e : r = r') : Ult l f r' := e ▸ h
theorem Ult.iteS {c : Bool} {f g : ι → Option R} {r r' : R} (h : c = true → Ult l f r) (k : c = false → Ult l g r') : Ult l (fun i => cnd c (f i) (g i)) (if c then r else r') := by
  cases c
  · exact Ult.no rfl (k rfl)
  · exact Ult.yes rfl (h rfl)
theorem Ult.ifS {c : Bool} {p : Prop} [Decidable p] (e : c = decide p) {f g : ι → Option R} {r r' : R} (h : p → Ult l f r) (k : ¬ p → Ult l g r') : Ult l (fun i => cnd c (f i) (g i)) (if p then r else r') := by
  subst e
  by_cases hp : p
  · rw [if_pos hp]; exact Ult.yes (decide_eq_true hp) (h hp)
  · rw [if_neg hp]; exact Ult.no (decide_eq_false hp) (k hp)

/-! ### operations -/
theorem seq_eq (a b : ByteArray) : seq a b = decide (a = b) := by
  unfold seq
  by_cases h : a = b
  · subst h; simp
  · rw [decide_eq_false h, beq_eq_false_iff_ne]
    intro e
    refine h ?_
    rw [ByteArray.toList_eq, ByteArray.toList_eq] at e
    obtain ⟨⟨x⟩⟩ := a
    obtain ⟨⟨y⟩⟩ := b
    simpa using e
theorem sne_eq (a b : ByteArray) : sne a b = decide (a ≠ b) := by
  have := seq_eq a b
  unfold seq at this
  unfold sne
  rw [this]
  by_cases h : a = b <;> simp [h]
theorem ieq_eq (a b : Int) : ieq a b = decide (a = b) := by
  unfold ieq
  by_cases h : a = b <;> simp [h]
theorem ine_eq (a b : Int) : ine a b = decide (a ≠ b) := by
  unfold ine
  by_cases h : a = b <;> simp [h]
theorem igt_eq (a b : Int) : igt a b = decide (b < a) := rfl
theorem ige_eq (a b : Int) : ige a b = decide (b ≤ a) := rfl
theorem ilt_eq (a b : Int) : ilt a b = decide (a < b) := rfl
theorem ile_eq (a b : Int) : ile a b = decide (a ≤ b) := rfl
theorem bnot_eq (a : Bool) : bnot a = !a := rfl
theorem iltL (j : Nat) (l : List α) : ilt (j : Int) (len l) = decide (j < l.length) := by
  unfold ilt len
  by_cases h : j < l.length
  · rw [decide_eq_true h, decide_eq_true (by omega)]
  · rw [decide_eq_false h, decide_eq_false (by omega)]
theorem igt0 (j : Nat) : igt (j : Int) 0 = decide (0 < j) := by
  unfold igt
  by_cases h : 0 < j
  · rw [decide_eq_true h, decide_eq_true (by omega)]
  · rw [decide_eq_false h, decide_eq_false (by omega)]
theorem isucc {j n : Nat} (h : j < n) (hn : n ≤ 9223372036854775807) : iadd .i64 (j : Int) 1 = ((j + 1 : Nat) : Int) := by rw [iadd64 (by omega) (by omega)]; rfl
theorem ipred {j n : Nat} (h0 : 0 < j) (h : j ≤ n) (hn : n ≤ 9223372036854775807) : isub .i64 (j : Int) 1 = ((j - 1 : Nat) : Int) := by rw [isub64 (by omega) (by omega)]; omega
theorem app?_ok {b : Nat} {l r : List α} (h : (l.length + r.length) * (max b 1) ≤ 140737488355328) : app? b l r = some (l ++ r) := by unfold app?; rw [if_pos h]
theorem cat?_ok {a b : ByteArray} (h : a.size + b.size ≤ 9223372036854775807) : cat? a b = some (a ++ b) := by unfold cat?; rw [if_pos h]
theorem cut?_take {l : List α} {j : Nat} (h : j ≤ l.length) : cut? l 0 (j : Int) = some (l.take j) := by
  unfold cut?
  rw [if_pos ⟨Int.le_refl _, by omega, by omega⟩]
  simp
theorem kbeq_pair (a b : ByteArray × ByteArray) : kbeq (.agg (.pair .str .str)) a b = decide (a = b) := by
  show (seq a.1 b.1 && seq a.2 b.2) = _
  rw [seq_eq, seq_eq]
  by_cases h1 : a.1 = b.1 <;> by_cases h2 : a.2 = b.2 <;> simp [h1, h2, Prod.ext_iff]
theorem drop_cons {l : List α} {j : Nat} (h : j < l.length) : l.drop j = l[j] :: l.drop (j + 1) := List.drop_eq_getElem_cons h

/-! ### strings in order -/
def lt (a b : ByteArray) : Prop := a.data.toList < b.data.toList
theorem slt_eq (a b : ByteArray) : slt a b = decide (a.data.toList < b.data.toList) := by
  unfold slt
  rw [ByteArray.toList_eq, ByteArray.toList_eq]
  exact bytesLess_eq _ _
theorem bytes_ext {a b : ByteArray} (h : a.data.toList = b.data.toList) : a = b := by
  obtain ⟨⟨x⟩⟩ := a
  obtain ⟨⟨y⟩⟩ := b
  simpa using h
theorem sle_eq (a b : ByteArray) : sle a b = decide (¬ b.data.toList < a.data.toList) := by
  have h : sle a b = (Op.bytesLess a.toList b.toList || a.toList == b.toList) := rfl
  rw [h, ByteArray.toList_eq, ByteArray.toList_eq, bytesLess_eq]
  by_cases h1 : a.data.toList < b.data.toList
  · simp [h1, List.lt_asymm h1]
  · by_cases h2 : a.data.toList = b.data.toList
    · rw [h2]; simp [List.lt_irrefl]
    · have h3 : b.data.toList < a.data.toList := by
        rcases List.le_total a.data.toList b.data.toList with q | q
        · rcases List.le_iff_lt_or_eq.1 q with q | q
          · exact absurd q h1
          · exact absurd q h2
        · rcases List.le_iff_lt_or_eq.1 q with q | q
          · exact q
          · exact absurd q.symm h2
      have h4 : ¬ a.data = b.data := fun e => h2 (by rw [e])
      simp [h1, h4, h3]
end Go.Proofs.YtcppmncmlhibhaaDoor.Ev

namespace Go.Proofs.YtcppmncmlhibhaaDoor.Ev
open Go Go.RowKit
set_option linter.unusedVariables false
set_option linter.unusedSimpArgs false
def mkB (l : List UInt8) : ByteArray := ⟨l.toArray⟩
theorem mkB_data (l : List UInt8) : (mkB l).data.toList = l := by simp [mkB]
theorem mkB_of (s : ByteArray) : mkB s.data.toList = s := bytes_ext (mkB_data _)
theorem mkB_size (l : List UInt8) : (mkB l).size = l.length := rfl
theorem size_list (s : ByteArray) : s.size = s.data.toList.length := by simp
/-- cut at each c -/
def splitL (c : UInt8) : List UInt8 → List (List UInt8)
  | [] => [[]]
  | b :: r => if b = c then [] :: splitL c r else match splitL c r with
    | [] => [[b]]
    | p :: ps => (b :: p) :: ps
theorem splitL_ne (c : UInt8) : ∀ l, splitL c l ≠ []
  | [] => by simp [splitL]
  | b :: r => by
    rw [splitL]
    split
    · simp
    · split <;> simp
theorem splitL_none {c : UInt8} : ∀ {l : List UInt8}, c ∉ l → splitL c l = [l]
  | [], _ => rfl
  | b :: r, h => by
    rw [splitL, if_neg (fun e => h (by simp [e])), splitL_none (fun m => h (by simp [m]))]
theorem splitL_cons {c : UInt8} : ∀ {p : List UInt8} (r : List UInt8), c ∉ p → splitL c (p ++ c :: r) = p :: splitL c r
  | [], r, _ => by simp [splitL]
  | b :: p, r, h => by
    rw [List.cons_append, splitL, if_neg (fun e => h (by simp [e])), splitL_cons r (fun m => h (by simp [m]))]
theorem first_of {c : UInt8} : ∀ {l : List UInt8}, c ∈ l → ∃ p r, l = p ++ c :: r ∧ c ∉ p
  | b :: l, h => by
    by_cases e : b = c
    · exact ⟨[], l, by simp [e], by simp⟩
    · have : c ∈ l := by rcases List.mem_cons.1 h with q | q; exact absurd q.symm e; exact q
      obtain ⟨p, r, rfl, h2⟩ := first_of this
      refine ⟨b :: p, r, rfl, fun m => ?_⟩
      rcases List.mem_cons.1 m with q | q
      · exact e q.symm
      · exact h2 q
theorem splitL_parts {c : UInt8} : ∀ (n : Nat) {l : List UInt8}, l.length ≤ n → ∀ p ∈ splitL c l, c ∉ p ∧ p.length ≤ l.length
  | n, l, hn, p, hp => by
    by_cases h : c ∈ l
    · obtain ⟨a, r, rfl, ha⟩ := first_of h
      rw [splitL_cons r ha] at hp
      rcases List.mem_cons.1 hp with rfl | hp
      · exact ⟨ha, by simp⟩
      · cases n with
        | zero => simp at hn
        | succ n =>
          obtain ⟨h1, h2⟩ := splitL_parts n (l := r) (by simp only [List.length_append, List.length_cons] at hn; omega) p hp
          exact ⟨h1, by simp only [List.length_append, List.length_cons]; omega⟩
    · rw [splitL_none h] at hp
      obtain rfl : p = l := by simpa using hp
      exact ⟨h, Nat.le_refl _⟩
theorem splitL_len {c : UInt8} : ∀ (l : List UInt8), (splitL c l).length ≤ l.length + 1
  | [] => by simp [splitL]
  | b :: r => by
    have ih := splitL_len (c := c) r
    rw [splitL]
    split
    · simp only [List.length_cons]; omega
    · split
      · simp
      · rename_i p ps e
        rw [e] at ih
        simp only [List.length_cons] at ih ⊢
        omega
theorem index_none {c : UInt8} : ∀ {l : List UInt8}, c ∉ l → Lib.index l [c] = -1
  | [], _ => rfl
  | b :: r, h => by
    have hb : b ≠ c := fun e => h (by simp [e])
    have := index_none (fun m => h (by simp [m]) : c ∉ r)
    rw [Lib.index, this]
    have hp : ([c] : List UInt8).isPrefixOf (b :: r) = false := by simp [List.isPrefixOf, Ne.symm hb]
    rw [hp]; simp
theorem index_first {c : UInt8} : ∀ {p : List UInt8} (r : List UInt8), c ∉ p → Lib.index (p ++ c :: r) [c] = (p.length : Int)
  | [], r, _ => by
    rw [List.nil_append, Lib.index]
    have hp : ([c] : List UInt8).isPrefixOf (c :: r) = true := by simp [List.isPrefixOf]
    rw [hp]; simp
  | b :: p, r, h => by
    have hb : b ≠ c := fun e => h (by simp [e])
    have ih := index_first (p := p) r (fun m => h (List.mem_cons_of_mem _ m))
    have ih : Lib.index (p ++ c :: r) [c] = (p.length : Int) := ih
    rw [List.cons_append, Lib.index, ih]
    have hp : ([c] : List UInt8).isPrefixOf (b :: (p ++ c :: r)) = false := by simp [List.isPrefixOf, Ne.symm hb]
    rw [hp]
    have : ¬ ((p.length : Int) == -1) = true := by simp <;> omega
    rw [if_neg (by simp), if_neg this]
    simp
theorem count_none {c : UInt8} {l : List UInt8} (h : c ∉ l) : Lib.count l [c] = 0 := by
  rw [Lib.count_one]; exact List.count_eq_zero.2 h
theorem count_first {c : UInt8} {p : List UInt8} (r : List UInt8) (h : c ∉ p) : Lib.count (p ++ c :: r) [c] = Lib.count r [c] + 1 := by
  rw [Lib.count_one, Lib.count_one, List.count_append, List.count_cons_self, List.count_eq_zero.2 h]; omega
theorem splitK_one {c : UInt8} : ∀ (n : Nat) {l : List UInt8}, l.length ≤ n → Lib.splitK [c] 0 (Lib.count l [c]) l = splitL c l
  | n, l, hn => by
    by_cases h : c ∈ l
    · obtain ⟨a, r, rfl, ha⟩ := first_of h
      rw [splitL_cons r ha, count_first r ha, Lib.splitK, index_first r ha]
      have : ¬ ((a.length : Int) == -1) = true := by simp <;> omega
      rw [if_neg this]
      cases n with
      | zero => simp at hn
      | succ n =>
        have ih := splitK_one (c := c) n (l := r) (by simp only [List.length_append, List.length_cons] at hn; omega)
        simp only [Int.toNat_natCast, Nat.add_zero, List.length_cons, List.length_nil, Nat.zero_add]
        rw [List.take_left' rfl, show (a ++ c :: r).drop (a.length + 1) = r by simp [← List.drop_drop], ih]
    · rw [splitL_none h, count_none h]; rfl
/-- strings.Split at one byte -/
theorem split_one (c : UInt8) (s : ByteArray) : Lib.splitB ⟨#[c]⟩ 0 (Lib.countB s ⟨#[c]⟩) s = (splitL c s.data.toList).map mkB := by
  have h := Lib.splitB_data ⟨#[c]⟩ 0 (Lib.countB s ⟨#[c]⟩) s
  have h2 : Lib.splitK [c] 0 (Lib.countB s ⟨#[c]⟩) s.data.toList = splitL c s.data.toList := splitK_one _ (Nat.le_refl _)
  rw [show (⟨#[c]⟩ : ByteArray).data.toList = [c] from rfl, h2] at h
  rw [← h, List.map_map]
  conv => lhs; rw [← List.map_id (Lib.splitB _ _ _ _)]
  exact List.map_congr_left fun x _ => (mkB_of x).symm
theorem cut_none {c : UInt8} {l : List UInt8} (h : c ∉ l) : Lib.cut l [c] = (l, [], false) := by
  unfold Lib.cut
  rw [index_none h, if_neg (by decide)]
theorem cut_first {c : UInt8} {p : List UInt8} (r : List UInt8) (h : c ∉ p) : Lib.cut (p ++ c :: r) [c] = (p, r, true) := by
  unfold Lib.cut
  rw [index_first r h, if_pos (Int.natCast_nonneg _)]
  simp only [Int.toNat_natCast, List.length_cons, List.length_nil, Nat.zero_add]
  rw [List.take_left' rfl, show (p ++ c :: r).drop (p.length + 1) = r by simp [← List.drop_drop]]
theorem joinTail_cons (sep : List UInt8) (y : List UInt8) (r : List (List UInt8)) : Lib.joinTail sep (y :: r) = sep ++ y ++ Lib.joinTail sep r := by simp [Lib.joinTail]
/-- what was joined is split again -/
theorem splitL_join {c : UInt8} : ∀ (r : List (List UInt8)) (x : List UInt8), c ∉ x → (∀ y ∈ r, c ∉ y) → splitL c (Lib.join (x :: r) [c]) = x :: r
  | [], x, hx, _ => by rw [Lib.join_one, splitL_none hx]
  | y :: r, x, hx, hr => by
    have ih := splitL_join r y (hr y (by simp)) fun z hz => hr z (by simp [hz])
    rw [Lib.join_cons] at ih ⊢
    rw [joinTail_cons, List.append_assoc, List.singleton_append, splitL_cons _ hx, ih]
end Go.Proofs.YtcppmncmlhibhaaDoor.Ev

namespace Go.Proofs.YtcppmncmlhibhaaDoor.Ev
open Go Go.RowKit
set_option linter.unusedVariables false
set_option linter.unusedSimpArgs false
variable {ι R α β X : Type} {l : ι → Nat}
abbrev File := ByteArray × (Bool × List Int)
theorem bt_get {s : ByteArray} {j : Nat} (h : j < s.size) : bt s (j : Int) = ((s.data.toList[j]'(by simpa using h)).toNat : Int) := by
  unfold bt
  rw [dif_pos (by simpa using h)]
  simp [ByteArray.getElem_eq_getElem_data]
theorem bt?_get {s : ByteArray} {j : Nat} (h : j < s.size) : bt? s (j : Int) = some (bt s (j : Int)) := by unfold bt?; rw [if_pos ⟨Int.natCast_nonneg _, by omega⟩]
theorem iltS (j : Nat) (s : ByteArray) : ilt (j : Int) (ssz s) = decide (j < s.size) := by
  unfold ilt ssz
  by_cases h : j < s.size
  · rw [decide_eq_true h, decide_eq_true (by omega)]
  · rw [decide_eq_false h, decide_eq_false (by omega)]
theorem ssz_small {s : ByteArray} {n : Int} (h : igt (ssz s) n = false) : (s.size : Int) ≤ n := by
  have : ¬ ssz s > n := of_decide_eq_false h
  unfold ssz at this
  omega

/-! ### words -/
/-- a byte of a part of a path -/
def pb (c : Int) : Bool := decide (97 ≤ c ∧ c ≤ 122) || (decide (65 ≤ c ∧ c ≤ 90) || (decide (48 ≤ c ∧ c ≤ 57) || (decide (c = 46) || (decide (c = 95) || (decide (c = 45) || decide (c = 43))))))
def allP (l : List UInt8) : Bool := l.all fun b => pb (b.toNat : Int)
def dot1 : ByteArray := ⟨#[46]⟩
def dot2 : ByteArray := ⟨#[46, 46]⟩
def isPartD (s : ByteArray) : Bool := allP s.data.toList && decide (s ≠ ⟨#[]⟩ ∧ s ≠ dot1 ∧ s ≠ dot2)
def parts (s : ByteArray) : List ByteArray := (splitL 47 s.data.toList).map mkB
def isPathD (s : ByteArray) : Bool := decide (1 ≤ s.size ∧ s.size ≤ 200) && (parts s).all isPartD
theorem isPathD_size {s : ByteArray} (h : isPathD s = true) : 1 ≤ s.size ∧ s.size ≤ 200 := by
  simp only [isPathD, Bool.and_eq_true, decide_eq_true_eq] at h
  exact h.1
theorem parts_len (s : ByteArray) : (parts s).length ≤ s.size + 1 := by
  have := splitL_len (c := 47) s.data.toList
  rw [← size_list] at this
  simpa [parts] using this
theorem parts_size {s p : ByteArray} (h : p ∈ parts s) : p.size ≤ s.size := by
  obtain ⟨x, hx, rfl⟩ := List.mem_map.1 h
  have := (splitL_parts (c := 47) _ (Nat.le_refl _) x hx).2
  rw [← size_list] at this
  rw [mkB_size]; exact this
theorem parts_noslash {s p : ByteArray} (h : p ∈ parts s) : (47 : UInt8) ∉ p.data.toList := by
  obtain ⟨x, hx, rfl⟩ := List.mem_map.1 h
  rw [mkB_data]
  exact (splitL_parts (c := 47) _ (Nat.le_refl _) x hx).1
theorem idx_pb (b : UInt8) : ige (Lib.indexByte [46, 95, 45, 43] (((b.toNat : Int)).toNat.toUInt8)) 0 = (decide ((b.toNat : Int) = 46) || (decide ((b.toNat : Int) = 95) || (decide ((b.toNat : Int) = 45) || decide ((b.toNat : Int) = 43)))) := by
  have key : ∀ n : _root_.Fin 256, ige (Lib.indexByte [46, 95, 45, 43] (((UInt8.ofNat n.1).toNat : Int)).toNat.toUInt8) 0 = (decide (((UInt8.ofNat n.1).toNat : Int) = 46) || (decide (((UInt8.ofNat n.1).toNat : Int) = 95) || (decide (((UInt8.ofNat n.1).toNat : Int) = 45) || decide (((UInt8.ofNat n.1).toNat : Int) = 43)))) := by decide +kernel
  have := key ⟨b.toNat, b.toNat_lt⟩
  simpa using this

/-! ### maps -/
theorem ba_eq (a b : ByteArray) : (a == b) = true ↔ a = b := by
  obtain ⟨x⟩ := a
  obtain ⟨y⟩ := b
  constructor
  · intro h
    have e : x = y := by simpa using (show (x == y) = true from h)
    rw [e]
  · intro h
    cases h
    show (x == x) = true
    simp
theorem keq_eq (a b : ByteArray) : keq a b = decide (a = b) := by
  unfold keq
  rw [Bool.eq_iff_iff, ba_eq, decide_eq_true_iff]
def mputR (m : List (ByteArray × β)) (k : ByteArray) (v : β) : List (ByteArray × β) := match m with
  | [] => [(k, v)]
  | p :: m => if k = p.1 then (p.1, v) :: m else p :: mputR m k v
theorem mput_R : ∀ (m : List (ByteArray × β)) (k : ByteArray) (v : β), mput keq m k v = mputR m k v
  | [], k, v => rfl
  | p :: m, k, v => by
    have ih := mput_R m k v
    unfold mput at ih ⊢
    rw [List.findIdx?_cons, mputR]
    by_cases h : k = p.1
    · rw [if_pos (by rw [keq_eq]; exact decide_eq_true h), if_pos h]; rfl
    · rw [if_neg (by rw [keq_eq, decide_eq_false h]; simp), if_neg h, ← ih]
      cases m.findIdx? fun p => keq k p.1 <;> rfl
theorem mget_nil (s : ByteArray) : mget? keq ([] : List (ByteArray × β)) s = none := rfl
theorem mget_cons (p : ByteArray × β) (m : List (ByteArray × β)) (s : ByteArray) : mget? keq (p :: m) s = if s = p.1 then some p.2 else mget? keq m s := by
  unfold mget?
  rw [List.find?_cons]
  by_cases h : s = p.1
  · rw [if_pos h, show keq s p.1 = true by rw [keq_eq]; exact decide_eq_true h]; rfl
  · rw [if_neg h, show keq s p.1 = false by rw [keq_eq]; exact decide_eq_false h]
theorem mget_mput : ∀ (m : List (ByteArray × β)) (k : ByteArray) (v : β) (s : ByteArray), mget? keq (mput keq m k v) s = if s = k then some v else mget? keq m s := by
  intro m k v s
  rw [mput_R]
  induction m with
  | nil => rw [mputR, mget_cons]
  | cons p m ih =>
    rw [mputR]
    by_cases h : k = p.1
    · rw [if_pos h, mget_cons, mget_cons, h]
      by_cases e : s = p.1
      · rw [if_pos e, if_pos e]
      · rw [if_neg e, if_neg e, if_neg e]
    · rw [if_neg h, mget_cons, mget_cons, ih]
      by_cases e : s = p.1
      · rw [if_pos e, if_pos e, if_neg (fun q => h (q.symm.trans e))]
      · rw [if_neg e, if_neg e]
theorem mput_len (m : List (ByteArray × β)) (k : ByteArray) (v : β) : (mput keq m k v).length ≤ m.length + 1 := by
  rw [mput_R]
  induction m with
  | nil => simp [mputR]
  | cons p m ih =>
    rw [mputR]
    split
    · simp
    · simp only [List.length_cons]; omega

/-! ### files in order -/
def Asc (l : List File) : Prop := l.Pairwise fun p q => lt p.1 q.1
instance (a b : ByteArray) : Decidable (lt a b) := inferInstanceAs (Decidable (a.data.toList < b.data.toList))
theorem lt_irrefl (a : ByteArray) : ¬ lt a a := List.lt_irrefl _
theorem lt_trans {a b c : ByteArray} (h : lt a b) (k : lt b c) : lt a c := List.lt_trans h k
theorem lt_asymm {a b : ByteArray} (h : lt a b) : ¬ lt b a := List.lt_asymm h
theorem lt_tri {a b : ByteArray} (h : ¬ lt a b) (k : ¬ lt b a) : a = b := by
  unfold lt at h k
  rcases List.le_total a.data.toList b.data.toList with q | q
  · rcases List.le_iff_lt_or_eq.1 q with q | q
    · exact absurd q h
    · exact bytes_ext q
  · rcases List.le_iff_lt_or_eq.1 q with q | q
    · exact absurd q k
    · exact bytes_ext q.symm
theorem lt_of_le_lt {a b c : ByteArray} (h : ¬ lt b a) (k : lt b c) : lt a c := by
  rcases Classical.em (lt a b) with q | q
  · exact lt_trans q k
  · rw [lt_tri q h]; exact k
theorem Asc.get {L : List File} (h : Asc L) {i j : Nat} (hij : i < j) (hj : j < L.length) : lt (L[i]'(by omega)).1 L[j].1 := List.pairwise_iff_getElem.1 h i j (by omega) hj hij
/-- a file has the path -/
def inF (l : List File) (p : ByteArray) : Bool := l.any fun x => decide (x.1 = p)
theorem inF_iff {l : List File} {p : ByteArray} : inF l p = true ↔ ∃ x ∈ l, x.1 = p := by unfold inF; simp
/-- a file has a path within which this one lies -/
def clash (inn : ByteArray → Bool) (s : ByteArray) (j : Nat) : Bool := ((List.range s.size).drop j).any fun i => decide (bt s (i : Int) = 47) && inn (s.extract 0 i)
def inside (l : List File) (s : ByteArray) : Bool := clash (inF l) s 0
theorem clash_end {inn : ByteArray → Bool} {s : ByteArray} {j : Nat} (h : s.size ≤ j) : clash inn s j = false := by
  unfold clash; rw [List.drop_eq_nil_of_le (by simpa using h)]; rfl
theorem clash_step {inn : ByteArray → Bool} {s : ByteArray} {j : Nat} (h : j < s.size) : clash inn s j = ((decide (bt s (j : Int) = 47) && inn (s.extract 0 j)) || clash inn s (j + 1)) := by
  unfold clash
  rw [List.drop_eq_getElem_cons (by simpa using h), List.any_cons, List.getElem_range]
theorem clash_congr {f g : ByteArray → Bool} (h : ∀ s, f s = g s) (s : ByteArray) (j : Nat) : clash f s j = clash g s j := by rw [show f = g from funext h]
theorem sub?_take {s : ByteArray} {j : Nat} (h : j ≤ s.size) : sub? s 0 (j : Int) = some (s.extract 0 j) := by
  unfold sub?
  rw [if_pos ⟨by omega, by omega, by omega⟩, Int.toNat_natCast]; rfl

/-! ### CheckFiles -/
def firstNZ (l : List Int) : Int := (l.find? fun x => decide (x ≠ 0)).getD 0
theorem firstNZ_nil : firstNZ [] = 0 := rfl
theorem firstNZ_cons (x : Int) (r : List Int) : firstNZ (x :: r) = if x ≠ 0 then x else firstNZ r := by
  unfold firstNZ
  rw [List.find?_cons]
  by_cases h : x = 0
  · subst h; rfl
  · rw [if_pos h, decide_eq_true h]; rfl
theorem firstNZ_zero : ∀ {l : List Int}, firstNZ l = 0 ↔ ∀ x ∈ l, x = 0
  | [] => by simp [firstNZ_nil]
  | x :: r => by
    rw [firstNZ_cons]
    by_cases h : x = 0
    · rw [if_neg (by simp [h]), firstNZ_zero (l := r)]; simp [h]
    · rw [if_pos h]; simp [h]
def fileErr (l : List File) (j : Nat) : Int :=
  if isPathD (l.getD j default).1 = false then 3 else if 100000 < (l.getD j default).2.2.length then 2 else if 0 < j ∧ ¬ lt (l.getD (j - 1) default).1 (l.getD j default).1 then 8 else 0
end Go.Proofs.YtcppmncmlhibhaaDoor.Ev

namespace Go.Proofs.YtcppmncmlhibhaaDoor.Ev
open Go Go.RowKit
set_option linter.unusedVariables false
set_option linter.unusedSimpArgs false
variable {ι R α β X : Type} {l : ι → Nat}
theorem rng {c a b : Int} {F : ι → Option Bool} {r : Bool} (h : Ult l F r) : Ult l (fun i => cnd (ige c a) (cnd (ile c b) (some true) (F i)) (F i)) (decide (a ≤ c ∧ c ≤ b) || r) := by
  by_cases h1 : a ≤ c
  · refine Ult.yes (decide_eq_true h1) ?_
    by_cases h2 : c ≤ b
    · exact Ult.yes (decide_eq_true h2) (Ult.ret.eq (by simp [h1, h2]))
    · exact Ult.no (decide_eq_false h2) (h.eq (by simp [h1, h2]))
  · exact Ult.no (decide_eq_false h1) (h.eq (by simp [h1]))
theorem isc {c a : Int} {F : ι → Option Bool} {r : Bool} (h : Ult l F r) : Ult l (fun i => cnd (ieq c a) (some true) (F i)) (decide (c = a) || r) := by
  by_cases h1 : c = a
  · exact Ult.yes (by rw [ieq_eq]; exact decide_eq_true h1) (Ult.ret.eq (by simp [h1]))
  · exact Ult.no (by rw [ieq_eq]; exact decide_eq_false h1) (h.eq (by simp [h1]))
theorem inPart_spec (b : UInt8) : Ultk (fun k => S78 k ((b.toNat : Int), ())) (pb (b.toNat : Int)) := by
  unfold S78 pb
  rw [← idx_pb b]
  exact rng (rng (rng (Ult.bind (a := Lib.indexByte [46, 95, 45, 43] ((b.toNat : Int)).toNat.toUInt8) ⟨0, fun _ _ => rfl⟩ Ult.ret)))
theorem partByte_spec (b : UInt8) : Ultk (fun k => S116 k ((b.toNat : Int), ())) (pb (b.toNat : Int)) := by
  unfold S116 pb
  exact rng (rng (rng (isc (isc (isc (Ult.ret.eq (ieq_eq _ _)))))))
theorem part_loop (f : Nat → Int × Unit → Option Bool) (hf : ∀ b : UInt8, Ultk (fun k => f k ((b.toNat : Int), ())) (pb (b.toNat : Int))) (s : ByteArray) (hs : s.size ≤ 9223372036854775807) :
    Ultk (fun k => loopN k (fun (a2 : (Int → (Option Bool))) (a3 : Int) => cnd (ilt a3 (ssz s)) (bnd (bt? s a3) (fun (a4 : Int) => bnd (f k (a4, ())) (fun (a5 : Bool) => cnd (bnot a5) (some false) (a2 (iadd Go.IntKind.i64 a3 1))))) (cnd (sne s (⟨#[]⟩ : ByteArray)) (cnd (sne s (⟨#[46]⟩ : ByteArray)) (some (sne s (⟨#[46, 46]⟩ : ByteArray))) (some false)) (some false))) 0) (isPartD s) := by
  refine (Ult.forI (fun _ => Nat.le_refl _) s.size (fun j => allP (s.data.toList.drop j) && decide (s ≠ ⟨#[]⟩ ∧ s ≠ dot1 ∧ s ≠ dot2)) fun j hj next => ?_).eq (by rw [List.drop_zero]; rfl)
  rw [iltS]
  by_cases hlt : j < s.size
  · have hl : j < s.data.toList.length := by simpa using hlt
    refine Ult.yes (decide_eq_true hlt) (Ult.bindc (bt?_get hlt) ?_)
    rw [bt_get hlt]
    refine Ult.bind (Ult.call (l := lp fun k : Nat => k) (f := fun k => f k (((s.data.toList[j]).toNat : Int), ())) (lp_le _ _ fun _ => Nat.le_refl _) (hf s.data.toList[j])) ?_
    rw [isucc hlt hs, drop_cons hl]
    unfold allP at next ⊢
    rw [List.all_cons]
    cases hb : pb ((s.data.toList[j]).toNat : Int) with
    | true => exact Ult.no rfl ((next hlt).eq (by simp))
    | false => exact Ult.yes rfl (Ult.ret.eq (by simp))
  · refine Ult.no (decide_eq_false hlt) ?_
    rw [List.drop_eq_nil_of_le (by simp; omega), sne_eq, sne_eq, sne_eq]
    by_cases h1 : s = ⟨#[]⟩
    · exact Ult.no (by simp [h1]) (Ult.ret.eq (by simp [h1]))
    refine Ult.yes (by simp [h1]) ?_
    by_cases h2 : s = dot1
    · exact Ult.no (decide_eq_false (fun q => q h2)) (Ult.ret.eq (by simp [h2]))
    refine Ult.yes (decide_eq_true h2) (Ult.ret.eq ?_)
    simp only [allP, List.all_nil, Bool.true_and, decide_eq_decide]
    exact ⟨fun h => ⟨h1, h2, h⟩, fun h => h.2.2⟩
theorem isPart_spec (s : ByteArray) (hs : s.size ≤ 9223372036854775807) : Ultk (fun k => S86 k (s, ())) (isPartD s) := by
  unfold S86
  exact part_loop S78 inPart_spec s hs
theorem isPartR_spec (s : ByteArray) (hs : s.size ≤ 9223372036854775807) : Ultk (fun k => S89 k (s, ())) (isPartD s) := by
  unfold S89
  exact part_loop S116 partByte_spec s hs
theorem all_loop (f : Nat → ByteArray × Unit → Option Bool) (q : ByteArray → Bool) (A : List ByteArray) (hA : A.length ≤ 9223372036854775807) (hf : ∀ s ∈ A, Ultk (fun k => f k (s, ())) (q s)) :
    Ultk (fun k => loopN k (fun (a4 : (Int → (Option Bool))) (a5 : Int) => cnd (ilt a5 (len A)) (bnd (at? A a5) (fun (a6 : ByteArray) => bnd (f k (a6, ())) (fun (a7 : Bool) => cnd (bnot a7) (some false) (a4 (iadd Go.IntKind.i64 a5 1))))) (some true)) 0) (A.all q) := by
  refine (Ult.forI (fun _ => Nat.le_refl _) A.length (fun j => (A.drop j).all q) fun j hj next => ?_).eq (by rw [List.drop_zero])
  rw [iltL]
  by_cases hlt : j < A.length
  · refine Ult.yes (decide_eq_true hlt) (Ult.bindc (at?_nat hlt) ?_)
    refine Ult.bind (Ult.call (l := lp fun k : Nat => k) (f := fun k => f k (A[j], ())) (lp_le _ _ fun _ => Nat.le_refl _) (hf A[j] (List.getElem_mem hlt))) ?_
    rw [isucc hlt hA, drop_cons hlt, List.all_cons]
    cases hb : q A[j] with
    | true => exact Ult.no rfl ((next hlt).eq (by simp))
    | false => exact Ult.yes rfl (Ult.ret.eq (by simp))
  · refine Ult.no (decide_eq_false hlt) (Ult.ret.eq ?_)
    rw [List.drop_eq_nil_of_le (by omega)]; rfl
def sl : ByteArray := ⟨#[47]⟩
theorem split_spec (s : ByteArray) (h : s.size < 4294967281) : Ultk (fun k => S76 k (s, (⟨#[47]⟩ : ByteArray), ())) (parts s) :=
  ⟨0, fun k _ => by
    unfold S76
    rw [if_pos ⟨h, show 1 ≤ (⟨#[47]⟩ : ByteArray).size by decide⟩]
    exact congrArg some (split_one 47 s)⟩
theorem isPath_spec (s : ByteArray) : Ultk (fun k => S49 k (s, ())) (isPathD s) := by
  unfold S49 isPathD
  refine Ult.jn ?_
  dsimp only
  by_cases h1 : s.size < 1
  · exact Ult.yes (by simp only [ilt_eq, ssz, decide_eq_true_eq]; omega) (Ult.ret.eq (by rw [decide_eq_false (by omega)]; rfl))
  refine Ult.no (by simp only [ilt_eq, ssz, decide_eq_false_iff_not]; omega) ?_
  by_cases h2 : 200 < s.size
  · exact Ult.yes (by simp only [igt_eq, ssz, decide_eq_true_eq]; omega) (Ult.ret.eq (by rw [decide_eq_false (by omega)]; rfl))
  refine Ult.no (by simp only [igt_eq, ssz, decide_eq_false_iff_not]; omega) (Ult.bind (split_spec s (by omega)) ?_)
  refine (all_loop S86 isPartD (parts s) (by have := parts_len s; omega) fun p hp => isPart_spec p (by have := parts_size hp; omega)).eq ?_
  rw [decide_eq_true (by omega), Bool.true_and]
theorem within_spec (a b c : Int) : Ultk (fun k => S83 k (a, b, c, ())) (decide (b ≤ a ∧ a ≤ c)) := by
  unfold S83
  dsimp only
  by_cases h1 : b ≤ a
  · exact Ult.yes (decide_eq_true h1) (Ult.ret.eq (by rw [ile_eq]; simp [h1]))
  · exact Ult.no (decide_eq_false h1) (Ult.ret.eq (by simp [h1]))
theorem isPathR_spec (s : ByteArray) : Ultk (fun k => S52 k (s, ())) (isPathD s) := by
  unfold S52 isPathD
  refine Ult.bind (within_spec _ _ _) ?_
  have e : decide ((1 : Int) ≤ ssz s ∧ ssz s ≤ 200) = decide (1 ≤ s.size ∧ s.size ≤ 200) := by
    rw [decide_eq_decide]; unfold ssz; omega
  rw [e]
  by_cases h : 1 ≤ s.size ∧ s.size ≤ 200
  · rw [decide_eq_true h]
    refine Ult.no rfl (Ult.bind (split_spec s (by omega)) ?_)
    refine (all_loop S89 isPartD (parts s) (by have := parts_len s; omega) fun p hp => isPartR_spec p (by have := parts_size hp; omega)).eq ?_
    rw [Bool.true_and]
  · rw [decide_eq_false h]
    exact Ult.yes rfl Ult.ret
theorem clashes_spec (m : List (ByteArray × Bool)) (s : ByteArray) (hs : s.size ≤ 9223372036854775807) : Ultk (fun k => S63 k (m, s, ())) (clash (fun p => orD (mget? keq m p) false) s 0) := by
  unfold S63
  refine Ult.forI (fun _ => Nat.le_refl _) s.size (fun j => clash (fun p => orD (mget? keq m p) false) s j) fun j hj next => ?_
  dsimp only
  rw [iltS]
  by_cases hlt : j < s.size
  · refine Ult.yes (decide_eq_true hlt) (Ult.bindc (bt?_get hlt) ?_)
    rw [isucc hlt hs, clash_step hlt, ieq_eq]
    by_cases h47 : bt s (j : Int) = 47
    · refine Ult.yes (decide_eq_true h47) (Ult.bindc (sub?_take (by omega)) ?_)
      cases hm : orD (mget? keq m (s.extract 0 j)) false with
      | true => exact Ult.yes rfl (Ult.ret.eq (by simp [h47]))
      | false => exact Ult.no rfl ((next hlt).eq (by simp))
    · exact Ult.no (decide_eq_false h47) ((next hlt).eq (by simp [h47]))
  · exact Ult.no (decide_eq_false hlt) (Ult.ret.eq (clash_end (by omega)).symm)
theorem half {a b : Nat} (h : a + b ≤ 9223372036854775807) : iquo? .i64 (iadd .i64 (a : Int) (b : Int)) 2 = some (((a + b) / 2 : Nat) : Int) := by
  rw [iadd64 (by omega) (by omega)]
  unfold iquo?
  rw [if_neg (by decide)]
  congr 1
  rw [show (a : Int) + b = ((a + b : Nat) : Int) by omega, Int.tdiv_eq_ediv_of_nonneg (by omega)]
  exact wrap64 (by omega) (by omega)
theorem there_spec (L : List File) (p : ByteArray) (hs : Asc L) (hl : L.length ≤ 4611686018427387903) : Ultk (fun k => S98 k (L, p, ())) (inF L p) := by
  unfold S98
  dsimp only
  refine Ult.loopI (fun _ => Nat.le_refl _) (fun x : Int × Int => ∃ a b : Nat, x = ((a : Int), (b : Int)) ∧ a ≤ b ∧ b ≤ L.length ∧ (∀ i (h : i < L.length), i < a → lt L[i].1 p) ∧ ∀ i (h : i < L.length), b ≤ i → ¬ lt L[i].1 p) (fun x => (x.2 - x.1).toNat) ⟨0, L.length, rfl, Nat.zero_le _, Nat.le_refl _, fun i h q => by omega, fun i h q => by omega⟩ ?_
  rintro _ ⟨a, b, rfl, hab, hb, h1, h2⟩ next
  dsimp only
  by_cases hlt : a < b
  · refine Ult.yes (by rw [ilt_eq]; exact decide_eq_true (by omega)) (Ult.bindc (half (by omega)) ?_)
    have hm : (a + b) / 2 < L.length := by omega
    refine Ult.bindc (at?_nat hm) ?_
    rw [slt_eq]
    by_cases hq : lt L[(a + b) / 2].1 p
    · refine Ult.yes (decide_eq_true hq) ?_
      rw [isucc (show (a + b) / 2 < L.length from hm) (by omega)]
      refine next _ ⟨(a + b) / 2 + 1, b, rfl, by omega, hb, fun i h q => ?_, h2⟩ (by omega)
      rcases Nat.lt_or_ge i ((a + b) / 2) with z | z
      · exact lt_trans (hs.get z hm) hq
      · have : i = (a + b) / 2 := by omega
        subst this; exact hq
    · refine Ult.no (decide_eq_false hq) ?_
      refine next _ ⟨a, (a + b) / 2, rfl, by omega, by omega, h1, fun i h q z => ?_⟩ (by omega)
      rcases Nat.lt_or_ge ((a + b) / 2) i with y | y
      · exact hq (lt_trans (hs.get y h) z)
      · have : i = (a + b) / 2 := by omega
        subst this; exact hq z
  · have e : a = b := by omega
    subst e
    refine Ult.no (by rw [ilt_eq]; exact decide_eq_false (by omega)) ?_
    rw [iltL]
    have uniq : ∀ i (h : i < L.length), L[i].1 = p → i = a := fun i h e => by
      rcases Nat.lt_trichotomy i a with z | z | z
      · exact absurd (h1 i h z) (by rw [e]; exact lt_irrefl _)
      · exact z
      · have ha : a < L.length := by omega
        exact absurd (hs.get z h) (by rw [e]; exact h2 a ha (Nat.le_refl _))
    by_cases ha : a < L.length
    · refine Ult.yes (decide_eq_true ha) (Ult.bindc (at?_nat ha) (Ult.ret.eq ?_))
      rw [seq_eq, Bool.eq_iff_iff, decide_eq_true_iff, inF_iff]
      constructor
      · intro e; exact ⟨_, List.getElem_mem ha, e⟩
      · rintro ⟨x, hx, e⟩
        obtain ⟨i, hi, rfl⟩ := List.getElem_of_mem hx
        have := uniq i hi e
        subst this; exact e
    · refine Ult.no (decide_eq_false ha) (Ult.ret.eq ?_)
      rw [eq_comm, Bool.eq_false_iff]
      intro h
      obtain ⟨x, hx, e⟩ := inF_iff.1 h
      obtain ⟨i, hi, rfl⟩ := List.getElem_of_mem hx
      have := uniq i hi e
      omega
theorem inside_spec (L : List File) (s : ByteArray) (hA : Asc L) (hl : L.length ≤ 4611686018427387903) (hs : s.size ≤ 9223372036854775807) : Ultk (fun k => S68 k (L, s, ())) (inside L s) := by
  unfold S68 inside
  refine Ult.forI (fun _ => Nat.le_refl _) s.size (fun j => clash (inF L) s j) fun j hj next => ?_
  dsimp only
  rw [iltS]
  by_cases hlt : j < s.size
  · refine Ult.yes (decide_eq_true hlt) (Ult.bindc (bt?_get hlt) ?_)
    rw [isucc hlt hs, clash_step hlt, ieq_eq]
    by_cases h47 : bt s (j : Int) = 47
    · refine Ult.yes (decide_eq_true h47) (Ult.bindc (sub?_take (by omega)) ?_)
      refine Ult.bind (Ult.call (l := lp fun k : Nat => k) (f := fun k => S98 k (L, s.extract 0 j, ())) (lp_le _ _ fun _ => Nat.le_refl _) (there_spec L _ hA hl)) ?_
      cases hm : inF L (s.extract 0 j) with
      | true => exact Ult.yes rfl (Ult.ret.eq (by simp [h47]))
      | false => exact Ult.no rfl ((next hlt).eq (by simp))
    · exact Ult.no (decide_eq_false h47) ((next hlt).eq (by simp [h47]))
  · exact Ult.no (decide_eq_false hlt) (Ult.ret.eq (clash_end (by omega)).symm)
end Go.Proofs.YtcppmncmlhibhaaDoor.Ev

namespace Go.Proofs.YtcppmncmlhibhaaDoor.Ev
open Go Go.RowKit
set_option linter.unusedVariables false
set_option linter.unusedSimpArgs false
variable {ι R α β X : Type} {l : ι → Nat}
theorem fileErr_at {L : List File} {j : Nat} (h : j < L.length) : fileErr L j = if isPathD L[j].1 = false then 3 else if 100000 < L[j].2.2.length then 2 else if 0 < j ∧ ¬ lt (L[j - 1]'(by omega)).1 L[j].1 then 8 else 0 := by
  unfold fileErr
  rw [List.getD_eq_getElem?_getD, List.getD_eq_getElem?_getD, List.getElem?_eq_getElem h, List.getElem?_eq_getElem (show j - 1 < L.length by omega)]
  rfl
def errs (L : List File) (j : Nat) : Int := firstNZ (((List.range L.length).drop j).map (fileErr L))
theorem errs_end {L : List File} {j : Nat} (h : L.length ≤ j) : errs L j = 0 := by
  unfold errs; rw [List.drop_eq_nil_of_le (by simpa using h)]; rfl
theorem errs_step {L : List File} {j : Nat} (h : j < L.length) : errs L j = if fileErr L j ≠ 0 then fileErr L j else errs L (j + 1) := by
  unfold errs
  rw [List.drop_eq_getElem_cons (by simpa using h), List.map_cons, firstNZ_cons, List.getElem_range]
def total (L : List File) : Nat := (L.map fun x => x.2.2.length).sum
def tailD (L : List File) : Int := if (L.any fun x => inside L x.1) = true then 12 else if 2000000 < total L then 2 else 0
def afterD (L : List File) (j : Nat) : Int := if errs L j ≠ 0 then errs L j else tailD L
/-- CheckFiles -/
def chkFiles (L : List File) : Int := if 1000 < L.length then 2 else afterD L 0
theorem afterD_stop {L : List File} {j : Nat} {e : Int} (h : j < L.length) (he : fileErr L j = e) (hne : e ≠ 0) : afterD L j = e := by
  subst he
  unfold afterD
  rw [errs_step h, if_pos hne, if_pos hne]
theorem afterD_next {L : List File} {j : Nat} (h : j < L.length) (he : fileErr L j = 0) : afterD L j = afterD L (j + 1) := by
  have e : errs L j = errs L (j + 1) := by rw [errs_step h, if_neg (by simp [he])]
  unfold afterD
  rw [e]
theorem afterD_end {L : List File} {j : Nat} (h : L.length ≤ j) : afterD L j = tailD L := by
  unfold afterD
  rw [errs_end h, if_neg (by simp)]
theorem total_take {L : List File} {j : Nat} (h : j < L.length) : total (L.take (j + 1)) = total (L.take j) + L[j].2.2.length := by
  unfold total
  rw [List.take_succ_eq_append_getElem h, List.map_append, List.sum_append]
  simp
theorem total_le {L : List File} : ∀ {j : Nat}, j ≤ L.length → (∀ i, i < j → fileErr L i = 0) → total (L.take j) ≤ j * 100000
  | 0, _, _ => by simp [total]
  | j + 1, hj, h => by
    have ih := total_le (j := j) (by omega) fun i hi => h i (by omega)
    have e := h j (by omega)
    rw [fileErr_at (by omega)] at e
    split at e
    · cases e
    · split at e
      · cases e
      · rw [total_take (by omega)]
        omega
theorem fileErr_zero {L : List File} {j : Nat} (h : j < L.length) (he : fileErr L j = 0) : isPathD L[j].1 = true ∧ L[j].2.2.length ≤ 100000 ∧ (0 < j → lt (L[j - 1]'(by omega)).1 L[j].1) := by
  rw [fileErr_at h] at he
  split at he
  · cases he
  · rename_i h1
    split at he
    · cases he
    · rename_i h2
      split at he
      · cases he
      · rename_i h3
        refine ⟨by simpa using h1, by omega, fun h0 => Decidable.not_not.1 fun q => h3 ⟨h0, q⟩⟩
theorem asc_of {L : List File} (h : ∀ j, j < L.length → fileErr L j = 0) : Asc L := by
  refine List.pairwise_iff_getElem.2 fun i j hi hj hij => ?_
  induction j with
  | zero => omega
  | succ j ih =>
    have h1 := (fileErr_zero hj (h _ hj)).2.2 (by omega)
    rcases Nat.lt_or_ge i j with z | z
    · exact lt_trans (ih (by omega) z) h1
    · have : i = j := by omega
      subst this; exact h1
theorem errs_zero {L : List File} : errs L 0 = 0 ↔ ∀ j, j < L.length → fileErr L j = 0 := by
  unfold errs
  rw [firstNZ_zero]
  simp
theorem chkFiles_ok {L : List File} (h : chkFiles L = 0) : L.length ≤ 1000 ∧ (∀ x ∈ L, isPathD x.1 = true) ∧ (∀ x ∈ L, x.2.2.length ≤ 100000) ∧ Asc L ∧ (∀ x ∈ L, inside L x.1 = false) ∧ total L ≤ 2000000 := by
  unfold chkFiles afterD tailD at h
  split at h
  · cases h
  rename_i h1
  split at h
  · rename_i h2; exact absurd h h2
  rename_i h2
  have h2 := errs_zero.1 (Decidable.not_not.1 h2)
  split at h
  · cases h
  rename_i h3
  split at h
  · cases h
  rename_i h4
  refine ⟨by omega, fun x hx => ?_, fun x hx => ?_, asc_of h2, fun x hx => ?_, by omega⟩
  · obtain ⟨i, hi, rfl⟩ := List.getElem_of_mem hx
    exact (fileErr_zero hi (h2 i hi)).1
  · obtain ⟨i, hi, rfl⟩ := List.getElem_of_mem hx
    exact (fileErr_zero hi (h2 i hi)).2.1
  · rw [List.any_eq_true] at h3
    rw [Bool.eq_false_iff]
    exact fun q => h3 ⟨x, hx, q⟩
theorem chkFiles_of {L : List File} (h1 : L.length ≤ 1000) (h2 : ∀ x ∈ L, isPathD x.1 = true) (h3 : ∀ x ∈ L, x.2.2.length ≤ 100000) (h4 : Asc L) (h5 : ∀ x ∈ L, inside L x.1 = false) (h6 : total L ≤ 2000000) : chkFiles L = 0 := by
  unfold chkFiles afterD tailD
  have e : errs L 0 = 0 := errs_zero.2 fun j hj => by
    rw [fileErr_at hj, if_neg (by rw [h2 _ (List.getElem_mem hj)]; simp), if_neg (by have := h3 _ (List.getElem_mem hj); omega), if_neg]
    rintro ⟨h0, q⟩
    exact q (h4.get (by omega) hj)
  rw [if_neg (by omega), if_neg (by simp [e]), if_neg, if_neg (by omega)]
  rw [List.any_eq_true]
  rintro ⟨x, hx, q⟩
  rw [h5 x hx] at q; cases q
theorem inF_take {L : List File} {j : Nat} (h : j < L.length) (p : ByteArray) : inF (L.take (j + 1)) p = (decide (p = L[j].1) || inF (L.take j) p) := by
  unfold inF
  rw [List.take_succ_eq_append_getElem h, List.any_append]
  simp only [List.any_cons, List.any_nil, Bool.or_false]
  rw [Bool.or_comm]
  congr 1
  exact decide_eq_decide.2 ⟨fun e => e.symm, fun e => e.symm⟩
theorem tail_loop (f : Nat → ByteArray → Option Bool) (L : List File) (hL : L.length ≤ 1000) (hf : ∀ x ∈ L, Ultk (fun k => f k x.1) (inside L x.1)) (n : Int) (hn : n = (total L : Nat)) :
    Ultk (fun k => loopN k (fun (a4 : (Int → (Option Int))) (a5 : Int) => cnd (ilt a5 (len L)) (bnd (at? L a5) (fun (a6 : File) => bnd (f k a6.1) (fun (a7 : Bool) => cnd a7 (some 12) (a4 (iadd Go.IntKind.i64 a5 1))))) (cnd (igt n 2000000) (some 2) (some 0))) 0) (tailD L) := by
  refine (Ult.forI (fun _ => Nat.le_refl _) L.length (fun j => if ((L.drop j).any fun x => inside L x.1) = true then 12 else if 2000000 < total L then 2 else 0) fun j hj next => ?_).eq (by rw [List.drop_zero]; rfl)
  rw [iltL]
  by_cases hlt : j < L.length
  · refine Ult.yes (decide_eq_true hlt) (Ult.bindc (at?_nat hlt) ?_)
    refine Ult.bind (Ult.call (l := lp fun k : Nat => k) (f := fun k => f k L[j].1) (lp_le _ _ fun _ => Nat.le_refl _) (hf L[j] (List.getElem_mem hlt))) ?_
    rw [isucc hlt (by omega), drop_cons hlt, List.any_cons]
    cases hb : inside L L[j].1 with
    | true => exact Ult.yes rfl (Ult.ret.eq (by simp))
    | false => exact Ult.no rfl ((next hlt).eq (by rw [Bool.false_or]))
  · refine Ult.no (decide_eq_false hlt) ?_
    rw [List.drop_eq_nil_of_le (by omega), List.any_nil, if_neg Bool.false_ne_true, igt_eq, hn]
    exact Ult.ifS (by rw [decide_eq_decide]; omega) (fun _ => Ult.ret) fun _ => Ult.ret
theorem checkFiles_spec (L : List File) : Ultk (fun k => S31 k (L, ())) (chkFiles L) := by
  unfold S31 chkFiles
  dsimp only
  have e0 : igt (len L) 1000 = decide (1000 < L.length) := by unfold igt len; rw [decide_eq_decide]; omega
  refine Ult.ifS e0 (fun _ => Ult.ret) fun h1 => ?_
  refine Ult.forA (A := Nat × List (ByteArray × Bool)) (fun _ => Nat.le_refl _) L.length (fun a j => ((a.1 : Int), (j : Int), a.2)) (fun a j => a.1 = total (L.take j) ∧ (∀ p, orD (mget? keq a.2 p) false = inF (L.take j) p) ∧ ∀ i, i < j → fileErr L i = 0) (fun _ j => afterD L j) (0, []) ⟨by simp [total], fun p => by simp [inF]; rfl, fun i hi => by omega⟩ fun a j hj ha next => ?_
  obtain ⟨h2, h3, h4⟩ := ha
  dsimp only
  rw [iltL]
  by_cases hlt : j < L.length
  · refine Ult.yes (decide_eq_true hlt) (Ult.bindc (at?_nat hlt) ?_)
    have hc := Ult.call (l := lp fun k : Nat => k) (k := fun q => q.1) (f := fun k => S49 k (L[j].1, ())) (lp_le _ _ fun _ => Nat.le_refl _) (isPath_spec L[j].1)
    refine Ult.bind hc ?_
    have hfe := fileErr_at hlt
    cases hp : isPathD L[j].1 with
    | false => exact Ult.yes rfl (Ult.ret.eq (afterD_stop hlt (by rw [hfe, if_pos hp]) (by decide)).symm)
    | true =>
    rw [if_neg (by rw [hp]; simp)] at hfe
    refine Ult.no rfl ?_
    by_cases hb : 100000 < L[j].2.2.length
    · exact Ult.yes (by rw [igt_eq]; exact decide_eq_true (by unfold len; omega)) (Ult.ret.eq (afterD_stop hlt (by rw [hfe, if_pos hb]) (by decide)).symm)
    rw [if_neg hb] at hfe
    refine Ult.no (by rw [igt_eq]; exact decide_eq_false (by unfold len; omega)) ?_
    have hle := total_le (j := j) (by omega) h4
    rw [isucc hlt (by omega), iadd64 (by unfold len; omega) (by unfold len; omega)]
    have hstep := fun hz : fileErr L j = 0 => (next (a.1 + L[j].2.2.length, mput keq a.2 L[j].1 true) hlt ⟨by rw [total_take hlt, h2], fun p => by
        rw [mget_mput, inF_take hlt, ← h3]
        by_cases e : p = L[j].1
        · rw [if_pos e]; simp [e, orD]
        · rw [if_neg e]; simp [e], fun i hi => by
        rcases Nat.lt_or_ge i j with z | z
        · exact h4 i z
        · have : i = j := by omega
          subst this; exact hz⟩).eq (afterD_next hlt hz).symm
    rw [show ((a.1 : Int) + len L[j].2.2) = ((a.1 + L[j].2.2.length : Nat) : Int) by unfold len; omega]
    by_cases h0 : 0 < j
    · refine Ult.yes (by rw [igt0]; exact decide_eq_true h0) ?_
      rw [ipred h0 (Nat.le_of_lt hlt) (by omega)]
      refine Ult.bindc (at?_nat (show j - 1 < L.length by omega)) ?_
      rw [sle_eq]
      by_cases ho : lt (L[j - 1]'(by omega)).1 L[j].1
      · rw [if_neg (fun q => q.2 ho)] at hfe
        exact Ult.no (decide_eq_false (fun q => q ho)) (hstep hfe)
      · rw [if_pos ⟨h0, ho⟩] at hfe
        exact Ult.yes (decide_eq_true ho) (Ult.ret.eq (afterD_stop hlt hfe (by decide)).symm)
    · rw [if_neg (fun q => h0 q.1)] at hfe
      exact Ult.no (by rw [igt0]; exact decide_eq_false h0) (hstep hfe)
  · refine Ult.no (decide_eq_false hlt) ?_
    rw [List.take_of_length_le (by omega)] at h2 h3
    rw [afterD_end (by omega)]
    have hsz : ∀ x ∈ L, x.1.size ≤ 200 := fun x hx => by
      obtain ⟨i, hi, rfl⟩ := List.getElem_of_mem hx
      exact (isPathD_size (fileErr_zero hi (h4 i (by omega))).1).2
    exact Ult.call (l := lp fun k : Nat => k) (k := fun q => q.1) (lp_le _ _ fun _ => Nat.le_refl _) (tail_loop (fun k p => S63 k (a.2, p, ())) L (by omega) (fun x hx => (clashes_spec a.2 x.1 (by have := hsz x hx; omega)).eq (clash_congr h3 _ _)) _ (by rw [h2]))
theorem checkFilesR_spec (L : List File) : Ultk (fun k => S32 k (L, ())) (chkFiles L) := by
  unfold S32 chkFiles
  dsimp only
  have e0 : igt (len L) 1000 = decide (1000 < L.length) := by unfold igt len; rw [decide_eq_decide]; omega
  refine Ult.ifS e0 (fun _ => Ult.ret) fun h1 => ?_
  refine Ult.forA (A := Nat) (fun _ => Nat.le_refl _) L.length (fun a j => ((a : Int), (j : Int))) (fun a j => a = total (L.take j) ∧ ∀ i, i < j → fileErr L i = 0) (fun _ j => afterD L j) 0 ⟨by simp [total], fun i hi => by omega⟩ fun a j hj ha next => ?_
  obtain ⟨h2, h4⟩ := ha
  dsimp only
  rw [iltL]
  by_cases hlt : j < L.length
  · refine Ult.yes (decide_eq_true hlt) (Ult.bindc (at?_nat hlt) ?_)
    have hc := Ult.call (l := lp fun k : Nat => k) (k := fun q => q.1) (f := fun k => S52 k (L[j].1, ())) (lp_le _ _ fun _ => Nat.le_refl _) (isPathR_spec L[j].1)
    refine Ult.bind hc ?_
    have hfe := fileErr_at hlt
    cases hp : isPathD L[j].1 with
    | false => exact Ult.yes rfl (Ult.ret.eq (afterD_stop hlt (by rw [hfe, if_pos hp]) (by decide)).symm)
    | true =>
    rw [if_neg (by rw [hp]; simp)] at hfe
    refine Ult.no rfl (Ult.bindc (at?_nat hlt) ?_)
    by_cases hb : 100000 < L[j].2.2.length
    · exact Ult.yes (by rw [igt_eq]; exact decide_eq_true (by unfold len; omega)) (Ult.ret.eq (afterD_stop hlt (by rw [hfe, if_pos hb]) (by decide)).symm)
    rw [if_neg hb] at hfe
    refine Ult.no (by rw [igt_eq]; exact decide_eq_false (by unfold len; omega)) ?_
    have hle := total_le (j := j) (by omega) h4
    rw [isucc hlt (by omega)]
    have hstep := fun hz : fileErr L j = 0 => (next (a + L[j].2.2.length) hlt ⟨by rw [total_take hlt, h2], fun i hi => by
        rcases Nat.lt_or_ge i j with z | z
        · exact h4 i z
        · have : i = j := by omega
          subst this; exact hz⟩).eq (afterD_next hlt hz).symm
    have hadd : iadd Go.IntKind.i64 (a : Int) (len L[j].2.2) = ((a + L[j].2.2.length : Nat) : Int) := by rw [iadd64 (by unfold len; omega) (by unfold len; omega)]; unfold len; omega
    by_cases h0 : 0 < j
    · refine Ult.yes (by rw [igt0]; exact decide_eq_true h0) (Ult.bindc (at?_nat hlt) ?_)
      rw [ipred h0 (Nat.le_of_lt hlt) (by omega)]
      refine Ult.bindc (at?_nat (show j - 1 < L.length by omega)) ?_
      rw [sle_eq]
      by_cases ho : lt (L[j - 1]'(by omega)).1 L[j].1
      · rw [if_neg (fun q => q.2 ho)] at hfe
        exact Ult.no (decide_eq_false (fun q => q ho)) (Ult.bindc (at?_nat hlt) (by rw [hadd]; exact hstep hfe))
      · rw [if_pos ⟨h0, ho⟩] at hfe
        exact Ult.yes (decide_eq_true ho) (Ult.ret.eq (afterD_stop hlt hfe (by decide)).symm)
    · rw [if_neg (fun q => h0 q.1)] at hfe
      exact Ult.no (by rw [igt0]; exact decide_eq_false h0) (Ult.bindc (at?_nat hlt) (by rw [hadd]; exact hstep hfe))
  · refine Ult.no (decide_eq_false hlt) ?_
    rw [List.take_of_length_le (by omega)] at h2
    rw [afterD_end (by omega)]
    have hz : ∀ i, i < L.length → fileErr L i = 0 := fun i hi => h4 i (by omega)
    have hsz : ∀ x ∈ L, x.1.size ≤ 200 := fun x hx => by
      obtain ⟨i, hi, rfl⟩ := List.getElem_of_mem hx
      exact (isPathD_size (fileErr_zero hi (hz i hi)).1).2
    exact Ult.call (l := lp fun k : Nat => k) (k := fun q => q.1) (lp_le _ _ fun _ => Nat.le_refl _) (tail_loop (fun k p => S68 k (L, p, ())) L (by omega) (fun x hx => inside_spec L x.1 (asc_of hz) (by omega) (by have := hsz x hx; omega)) _ (by rw [h2]))
end Go.Proofs.YtcppmncmlhibhaaDoor.Ev

namespace Go.Proofs.YtcppmncmlhibhaaDoor.Ev
open Go Go.RowKit
set_option linter.unusedVariables false
set_option linter.unusedSimpArgs false
variable {ι R α β X : Type} {l : ι → Nat}
theorem seq_self (a : ByteArray) : seq a a = true := by rw [seq_eq]; simp
theorem loopN_mono {X R : Type} {st : (X → Option R) → X → Option R} (h : ∀ f g : X → Option R, (∀ y r, f y = some r → g y = some r) → ∀ x r, st f x = some r → st g x = some r) : ∀ (n m : Nat) (x : X) (r : R), n ≤ m → loopN n st x = some r → loopN m st x = some r
  | 0, m, x, r, _, e => by cases e
  | n + 1, 0, x, r, hle, e => by omega
  | n + 1, m + 1, x, r, hle, e => h (loopN n st) (loopN m st) (fun y r' q => loopN_mono h n m y r' (by omega) q) x r e
abbrev stD : ((Int × (Int × (List Int))) → (Option ByteArray)) → (Int × (Int × (List Int))) → Option ByteArray := fun a5 a6 => cnd (ilt a6.2.1 (len (List.replicate 16 (0 : Int)))) (bnd (bt? (⟨#[48, 49, 50, 51, 52, 53, 54, 55, 56, 57, 97, 98, 99, 100, 101, 102]⟩ : ByteArray) (iand Go.IntKind.u64 a6.1 15)) (fun (a7 : Int) => bnd (inb (len a6.2.2) (isub Go.IntKind.i64 15 a6.2.1)) (fun (a8 : Unit) => bnd (ishr? Go.IntKind.u64 a6.1 4) (fun (a9 : Int) => a5 (a9, iadd Go.IntKind.i64 a6.2.1 1, setAt a6.2.2 (isub Go.IntKind.i64 15 a6.2.1) a7))))) (some (strOf a6.2.2))
theorem stD_mono (f g : (Int × (Int × (List Int))) → Option ByteArray) (h : ∀ y r, f y = some r → g y = some r) (x : Int × (Int × (List Int))) (r : ByteArray) (e : stD f x = some r) : stD g x = some r := by
  unfold stD at *
  cases hc : ilt x.2.1 (len (List.replicate 16 (0 : Int))) with
  | false => rw [hc] at e; exact e
  | true =>
    rw [hc] at e
    have e : bnd _ _ = some r := e
    show bnd _ _ = some r
    unfold bnd at *
    obtain ⟨a, h1, e⟩ := Option.bind_eq_some_iff.1 e
    obtain ⟨b, h2, e⟩ := Option.bind_eq_some_iff.1 e
    obtain ⟨c, h3, e⟩ := Option.bind_eq_some_iff.1 e
    rw [h1]
    show Option.bind _ _ = _
    rw [h2]
    show Option.bind _ _ = _
    rw [h3]
    exact h _ _ e
theorem digD : loopN 20 stD (14695981039346656037, 0, List.replicate 16 (0 : Int)) = some ⟨#[99, 98, 102, 50, 57, 99, 101, 52, 56, 52, 50, 50, 50, 51, 50, 53]⟩ := by decide +kernel
theorem awake_spec : Ultk (fun k => S18 k ()) true := by
  unfold S18
  have h26 : Ultk (fun k => S43 k (([] : List Int), ())) ⟨#[99, 98, 102, 50, 57, 99, 101, 52, 56, 52, 50, 50, 50, 51, 50, 53]⟩ := by
    unfold S43
    refine Ult.loopI (fun _ => Nat.le_refl _) (fun x => x = (14695981039346656037, 0)) (fun x => 0) rfl ?_
    rintro _ rfl next
    refine Ult.no (by decide) (Ult.bindc (a := List.replicate 16 (0 : Int)) (by decide +kernel) ?_)
    refine ⟨20, fun p hp => ?_⟩
    have : 20 ≤ min p.1 p.2 := hp
    exact loopN_mono stD_mono 20 p.1 _ _ (by omega) digD
  refine Ult.bind (Ult.call (f := fun k => S43 k (([] : List Int), ())) (fun _ => Nat.le_refl _) h26) ?_
  rw [seq_self]
  exact Ult.ret


theorem ieq_self (a : Int) : ieq a a = true := by rw [ieq_eq]; simp
theorem ine_self (a : Int) : ine a a = false := by rw [ine_eq]; simp
/-- sizes of files that fit a memory -/
structure FSz (L : List File) : Prop where
  len : L.length * 48 ≤ 140737488355328
  bytes : ∀ x ∈ L, x.2.2.length ≤ 140737488355328
  path : ∀ x ∈ L, x.1.size ≤ 140737488355328
theorem copyBytes_spec (l : List Int) (h : l.length ≤ 140737488355328) : Ultk (fun k => S34 k (l, ())) l := by
  unfold S34
  exact Ult.bindc (app?_ok (by simpa using h)) Ult.ret
theorem copyFiles_spec (L : List File) (hL : FSz L) : Ultk (fun k => S12 k (L, ())) L := by
  unfold S12
  have hl := hL.len
  refine (Ult.forA (A := List File) (fun _ => Nat.le_refl _) L.length (fun a j => (a, (j : Int))) (fun a j => a = L.take j) (fun _ _ => L) [] (by simp) fun a j hj ha next => ?_)
  dsimp only
  rw [iltL]
  by_cases hlt : j < L.length
  · refine Ult.yes (decide_eq_true hlt) (Ult.bindc (at?_nat hlt) (Ult.bindc (at?_nat hlt) (Ult.bindc (at?_nat hlt) ?_)))
    have hc := Ult.call (l := lp fun k : Nat => k) (k := fun q => q.1) (f := fun k => S34 k (L[j].2.2, ())) (lp_le _ _ fun _ => Nat.le_refl _) (copyBytes_spec _ (hL.bytes _ (List.getElem_mem hlt)))
    refine Ult.bind hc (Ult.bindc (app?_ok (by rw [ha, List.length_take]; simp; omega)) ?_)
    rw [isucc hlt (by omega)]
    exact next _ hlt (by rw [ha, List.take_succ_eq_append_getElem hlt])
  · refine Ult.no (decide_eq_false hlt) (Ult.ret.eq ?_)
    rw [ha, List.take_of_length_le (by omega)]
def sameF (x y : File) : Bool := decide (x.1 = y.1) && (x.2.1 == y.2.1 && decide (strOf x.2.2 = strOf y.2.2))
theorem sameFile_spec (x y : File) : Ultk (fun k => S42 k (x, y, ())) (sameF x y) := by
  unfold S42 sameF
  dsimp only
  rw [seq_eq]
  by_cases h1 : x.1 = y.1
  · refine Ult.yes (decide_eq_true h1) ?_
    cases h2 : x.2.1 == y.2.1 with
    | true =>
      refine Ult.yes h2 (Ult.bind (a := seq (strOf x.2.2) (strOf y.2.2)) ⟨0, fun _ _ => rfl⟩ (Ult.ret.eq ?_))
      rw [seq_eq, decide_eq_true h1]; simp
    | false => exact Ult.no h2 (Ult.ret.eq (by simp))
  · exact Ult.no (decide_eq_false h1) (Ult.ret.eq (by simp [h1]))
theorem sameF_self (x : File) : sameF x x = true := by unfold sameF; simp
def sameFs (A B : List File) : Bool := decide (A.length = B.length) && (List.range A.length).all fun i => sameF (A.getD i default) (B.getD i default)
theorem sameFiles_spec (A B : List File) (hA : A.length ≤ 9223372036854775807) : Ultk (fun k => S17 k (A, B, ())) (sameFs A B) := by
  unfold S17 sameFs
  dsimp only
  by_cases hl : A.length = B.length
  rotate_left
  · exact Ult.yes (by rw [ine_eq]; exact decide_eq_true (by unfold len; omega)) (Ult.ret.eq (by rw [decide_eq_false hl]; rfl))
  refine Ult.no (by rw [ine_eq]; exact decide_eq_false (by unfold len; omega)) ?_
  rw [decide_eq_true hl, Bool.true_and]
  refine (Ult.forI (fun _ => Nat.le_refl _) A.length (fun j => ((List.range A.length).drop j).all fun i => sameF (A.getD i default) (B.getD i default)) fun j hj next => ?_).eq (by rw [List.drop_zero])
  rw [iltL]
  by_cases hlt : j < A.length
  · have hlb : j < B.length := by omega
    refine Ult.yes (decide_eq_true hlt) (Ult.bindc (at?_nat hlt) (Ult.bindc (at?_nat hlb) ?_))
    have hc := Ult.call (l := lp fun k : Nat => k) (k := fun q => q.1) (f := fun k => S42 k (A[j], B[j], ())) (lp_le _ _ fun _ => Nat.le_refl _) (sameFile_spec _ _)
    refine Ult.bind hc ?_
    rw [isucc hlt hA, List.drop_eq_getElem_cons (by simpa using hlt), List.all_cons, List.getElem_range]
    have e : sameF (A.getD j default) (B.getD j default) = sameF A[j] B[j] := by
      rw [List.getD_eq_getElem?_getD, List.getD_eq_getElem?_getD, List.getElem?_eq_getElem hlt, List.getElem?_eq_getElem hlb]; rfl
    rw [e]
    cases hb : sameF A[j] B[j] with
    | true => exact Ult.no rfl ((next hlt).eq (by rw [Bool.true_and]))
    | false => exact Ult.yes rfl (Ult.ret.eq (by rw [Bool.false_and]))
  · refine Ult.no (decide_eq_false hlt) (Ult.ret.eq ?_)
    rw [List.drop_eq_nil_of_le (by simp; omega)]; rfl
theorem sameFs_self (A : List File) : sameFs A A = true := by
  unfold sameFs
  simp [sameF_self]
/-- what lies within -/
def liesD (p q : ByteArray) : Bool := decide ((q ++ sl).size ≤ p.size ∧ p.extract 0 (q ++ sl).size = q ++ sl)
theorem hasPrefix_spec (p q : ByteArray) : Ultk (fun k => S59 k (p, q, ())) (decide (q.size ≤ p.size ∧ p.extract 0 q.size = q)) := by
  unfold S59
  refine Ult.bind (a := decide (q.size ≤ p.size ∧ p.extract 0 q.size = q)) ?_ Ult.ret
  unfold S93
  dsimp only
  by_cases h : q.size ≤ p.size
  · refine Ult.yes (by rw [ige_eq]; exact decide_eq_true (by unfold ssz; omega)) (Ult.bindc (sub?_take h) (Ult.ret.eq ?_))
    rw [seq_eq, decide_eq_decide]
    exact ⟨fun e => ⟨h, e⟩, fun e => e.2⟩
  · exact Ult.no (by rw [ige_eq]; exact decide_eq_false (by unfold ssz; omega)) (Ult.ret.eq (by simp [h]))
theorem within2_spec (p q : ByteArray) (hq : q.size ≤ 9223372036854775806) : Ultk (fun k => S51 k (p, q, ())) (liesD p q) := by
  unfold S51
  exact Ult.bindc (cat?_ok (by show q.size + 1 ≤ _; omega)) (Ult.bind (hasPrefix_spec p (q ++ sl)) Ult.ret)
theorem lies_spec (p q : ByteArray) (hq : q.size ≤ 9223372036854775806) : Ultk (fun k => S26 k (p, q, ())) (liesD p q) := by
  unfold S26
  exact Ult.bindc (cat?_ok (by show q.size + 1 ≤ _; omega)) (Ult.bind (hasPrefix_spec p (q ++ sl)) Ult.ret)
theorem liesD_size {p q : ByteArray} (h : liesD p q = true) : q.size + 1 ≤ p.size := by
  unfold liesD at h
  have := (of_decide_eq_true h).1
  rw [ByteArray.size_append] at this
  exact this
end Go.Proofs.YtcppmncmlhibhaaDoor.Ev

namespace Go.Proofs.YtcppmncmlhibhaaDoor.Ev
open Go Go.RowKit
set_option linter.unusedVariables false
set_option linter.unusedSimpArgs false
variable {ι R α β X : Type} {l : ι → Nat}
theorem inb_at {n : Int} {i : Nat} (h : (i : Int) < n) : inb n (i : Int) = some () := by unfold inb; rw [if_pos ⟨Int.natCast_nonneg _, h⟩]
theorem gt_at {d : α} {L : List α} {j : Nat} (h : j < L.length) : gt d L (j : Int) = L[j] := by
  unfold gt
  rw [Int.toNat_natCast, List.getD_eq_getElem?_getD, List.getElem?_eq_getElem h]; rfl
theorem setAt_same {L : List α} {j : Nat} (h : j < L.length) : setAt L (j : Int) L[j] = L := by
  unfold setAt
  rw [Int.toNat_natCast]
  exact List.set_getElem_self h
theorem own_spec (L : List File) (hL : FSz L) : Ultk (fun k => S50 k (L, ())) L := by
  unfold S50
  have hl := hL.len
  refine Ult.bind (a := L) ⟨0, fun k _ => if_pos hL.len⟩ ?_
  refine Ult.forA (A := Unit) (fun _ => Nat.le_refl _) L.length (fun _ j => ((j : Int), L)) (fun _ _ => True) (fun _ _ => L) () trivial fun _ j hj _ next => ?_
  dsimp only
  rw [iltL]
  by_cases hlt : j < L.length
  · refine Ult.yes (decide_eq_true hlt) (Ult.bindc (inb_at (by unfold len; omega)) ?_)
    rw [gt_at hlt]
    refine Ult.bind (a := L[j].2.2) ⟨0, fun k _ => if_pos (by have := hL.bytes _ (List.getElem_mem hlt); show L[j].2.2.length * 1 ≤ _; omega)⟩ (Ult.bindc (inb_at (by unfold len; omega)) ?_)
    rw [show ((L[j].1, L[j].2.1, L[j].2.2) : File) = L[j] from rfl, setAt_same hlt, isucc hlt (by omega)]
    exact next () hlt trivial
  · exact Ult.no (decide_eq_false hlt) Ult.ret
theorem copied_spec (x : File) (p : ByteArray) (h : x.2.2.length ≤ 140737488355328) : Ultk (fun k => S57 k (x, p, ())) (p, x.2) := by
  unfold S57
  exact Ult.bindc (app?_ok (by simpa using h)) Ult.ret
/-- the files within a path, by their paths in it -/
def atF (q : ByteArray) (x : File) : File := (x.1.extract (q.size + 1) x.1.size, x.2)
def atL (q : ByteArray) (L : List File) : List File := (L.filter fun x => liesD x.1 q).map (atF q)
theorem atL_len {q : ByteArray} {L : List File} : (atL q L).length ≤ L.length := by
  unfold atL; rw [List.length_map]; exact List.length_filter_le _ _
theorem atL_succ {q : ByteArray} {L : List File} {j : Nat} (h : j < L.length) : atL q (L.take (j + 1)) = atL q (L.take j) ++ (if liesD L[j].1 q = true then [atF q L[j]] else []) := by
  unfold atL
  rw [List.take_succ_eq_append_getElem h, List.filter_append, List.map_append]
  congr 1
  cases hb : liesD L[j].1 q <;> simp [hb]
theorem sub?_rest {s : ByteArray} {n : Nat} (h : n ≤ s.size) : sub? s (n : Int) (ssz s) = some (s.extract n s.size) := by
  unfold sub? ssz
  rw [if_pos ⟨by omega, by omega, by omega⟩, Int.toNat_natCast, Int.toNat_natCast]
theorem cut_at {q : ByteArray} {x : File} (hq : q.size ≤ 200) (h : liesD x.1 q = true) : sub? x.1 (iadd Go.IntKind.i64 (ssz q) 1) (ssz x.1) = some (atF q x).1 := by
  have e : iadd Go.IntKind.i64 (ssz q) 1 = ((q.size + 1 : Nat) : Int) := by unfold ssz; exact isucc (show q.size < 300 by omega) (by omega)
  rw [e, sub?_rest (liesD_size h)]; rfl
theorem at_step {q : ByteArray} {L a : List File} {j : Nat} (ha : a = atL q (L.take j)) (hj : j ≤ L.length) : a.length ≤ L.length := by
  rw [ha]
  have := atL_len (q := q) (L := L.take j)
  rw [List.length_take] at this; omega
/-- At -/
def atAns (L : List File) (q : ByteArray) : List File × Int := if chkFiles L ≠ 0 then ([], chkFiles L) else if isPathD q = false then ([], 3) else (atL q L, 0)
theorem at_spec (L : List File) (q : ByteArray) (hL : FSz L) : Ultk (fun k => S22 k (L, q, ())) (atAns L q) := by
  unfold S22 atAns
  refine Ult.bind (checkFiles_spec L) (Ult.ifS (ine_eq _ _) (fun _ => Ult.ret) fun h0 => ?_)
  have h0 := Decidable.not_not.1 h0
  obtain ⟨hlen, -⟩ := chkFiles_ok h0
  refine Ult.bind (isPath_spec q) ?_
  cases hp : isPathD q with
  | false => exact Ult.yes rfl (Ult.ret.eq (by rw [if_pos rfl]))
  | true =>
  refine Ult.no rfl (Ult.bind (own_spec L hL) ?_)
  rw [if_neg (by simp)]
  have hq := (isPathD_size hp).2
  refine Ult.forA (A := List File) (fun _ => Nat.le_refl _) L.length (fun a j => (a, (j : Int))) (fun a j => a = atL q (L.take j)) (fun _ _ => (atL q L, 0)) [] (by simp [atL]) fun a j hj ha next => ?_
  dsimp only
  rw [iltL]
  by_cases hlt : j < L.length
  · refine Ult.yes (decide_eq_true hlt) (Ult.bindc (at?_nat hlt) ?_)
    have hc := Ult.call (l := lp fun k : Nat => k) (k := fun p => p.1) (f := fun k => S51 k (L[j].1, q, ())) (lp_le _ _ fun _ => Nat.le_refl _) (within2_spec L[j].1 q (by omega))
    refine Ult.bind hc ?_
    rw [isucc hlt (by omega)]
    have hal := at_step ha hj
    cases hb : liesD L[j].1 q with
    | true =>
      refine Ult.yes rfl (Ult.bindc (cut_at hq hb) (Ult.bindc (app?_ok (by show (a.length + 1) * 48 ≤ _; omega)) ?_))
      exact next _ hlt (by rw [atL_succ hlt, if_pos hb, ha]; rfl)
    | false => exact Ult.no rfl (next _ hlt (by rw [atL_succ hlt, hb, ha]; simp))
  · refine Ult.no (decide_eq_false hlt) (Ult.ret.eq ?_)
    rw [ha, List.take_of_length_le (by omega)]
theorem atOf_spec (L : List File) (q : ByteArray) (hL : FSz L) (hlen : L.length ≤ 1000) (hq : q.size ≤ 200) : Ultk (fun k => S53 k (L, q, ())) (atL q L) := by
  unfold S53
  refine Ult.forA (A := List File) (fun _ => Nat.le_refl _) L.length (fun a j => (a, (j : Int))) (fun a j => a = atL q (L.take j)) (fun _ _ => atL q L) [] (by simp [atL]) fun a j hj ha next => ?_
  dsimp only
  rw [iltL]
  by_cases hlt : j < L.length
  · refine Ult.yes (decide_eq_true hlt) (Ult.bindc (at?_nat hlt) ?_)
    have hc := Ult.call (l := lp fun k : Nat => k) (k := fun p => p.1) (f := fun k => S26 k (L[j].1, q, ())) (lp_le _ _ fun _ => Nat.le_refl _) (lies_spec L[j].1 q (by omega))
    refine Ult.bind hc ?_
    rw [isucc hlt (by omega)]
    have hal := at_step ha hj
    cases hb : liesD L[j].1 q with
    | true =>
      refine Ult.yes rfl (Ult.bindc (at?_nat hlt) (Ult.bindc (at?_nat hlt) (Ult.bindc (cut_at hq hb) ?_)))
      have hd := Ult.call (l := lp fun k : Nat => k) (k := fun p => p.1) (f := fun k => S57 k (L[j], (atF q L[j]).1, ())) (lp_le _ _ fun _ => Nat.le_refl _) (copied_spec L[j] (atF q L[j]).1 (hL.bytes _ (List.getElem_mem hlt)))
      refine Ult.bind hd (Ult.bindc (app?_ok (by show (a.length + 1) * 48 ≤ _; omega)) ?_)
      exact next _ hlt (by rw [atL_succ hlt, if_pos hb, ha]; rfl)
    | false => exact Ult.no rfl (next _ hlt (by rw [atL_succ hlt, hb, ha]; simp))
  · refine Ult.no (decide_eq_false hlt) (Ult.ret.eq ?_)
    rw [ha, List.take_of_length_le (by omega)]
theorem atR_spec (L : List File) (q : ByteArray) (hL : FSz L) : Ultk (fun k => S23 k (L, q, ())) (atAns L q) := by
  unfold S23 atAns
  refine Ult.bind (checkFilesR_spec L) (Ult.ifS (ine_eq _ _) (fun _ => Ult.ret) fun h0 => ?_)
  have h0 := Decidable.not_not.1 h0
  obtain ⟨hlen, -⟩ := chkFiles_ok h0
  refine Ult.bind (isPathR_spec q) ?_
  cases hp : isPathD q with
  | false => exact Ult.yes rfl (Ult.ret.eq (by rw [if_pos rfl]))
  | true =>
  refine Ult.no rfl (Ult.bind (atOf_spec L q hL hlen (isPathD_size hp).2) (Ult.ret.eq ?_))
  rw [if_neg (by simp)]
end Go.Proofs.YtcppmncmlhibhaaDoor.Ev

namespace Go.Proofs.YtcppmncmlhibhaaDoor.Ev
open Go Go.RowKit
set_option linter.unusedVariables false
set_option linter.unusedSimpArgs false
variable {ι R α X : Type} {l : ι → Nat}
/-- the place of the first that is wanted, or -1 -/
def idxF (p : α → Bool) : Nat → List α → Int
  | _, [] => -1
  | j, a :: r => if p a = true then (j : Int) else idxF p (j + 1) r
theorem idxF_cases (p : α → Bool) : ∀ (j : Nat) (L : List α), (idxF p j L = -1 ∧ L.find? p = none) ∨ ∃ (i : Nat) (h : i < L.length), idxF p j L = ((j + i : Nat) : Int) ∧ L.find? p = some L[i] ∧ p L[i] = true
  | j, [] => .inl ⟨rfl, rfl⟩
  | j, a :: r => by
    cases h : p a with
    | true => exact .inr ⟨0, by simp, by simp [idxF, h], by simp [h], by simpa using h⟩
    | false =>
      rcases idxF_cases p (j + 1) r with ⟨h1, h2⟩ | ⟨i, hi, h1, h2, h3⟩
      · exact .inl ⟨by simp [idxF, h, h1], by simp [h, h2]⟩
      · exact .inr ⟨i + 1, by simpa using hi, by simp only [idxF, h, Bool.false_eq_true, if_false, h1]; congr 1; omega, by simp [h, h2], by simpa using h3⟩
theorem idx_loop {kk : ι → Nat} (hk : ∀ i, l i ≤ kk i) (L : List α) (f : ι → α → Option Bool) (p : α → Bool) (hf : ∀ a ∈ L, Ult l (fun i => f i a) (p a)) (hL : L.length ≤ 9223372036854775807) :
    Ult l (fun i => loopN (kk i) (fun (next : Int → Option Int) (j : Int) => cnd (ilt j (len L)) (bnd (at? L j) fun a => bnd (f i a) fun b => cnd b (some j) (next (iadd .i64 j 1))) (some (-1))) 0) (idxF p 0 L) := by
  refine (Ult.forI hk L.length (fun j => idxF p j (L.drop j)) fun j hj next => ?_).eq (by rw [List.drop_zero])
  rw [iltL]
  by_cases hlt' : ¬ j < L.length
  · refine Ult.no (decide_eq_false hlt') (Ult.ret.eq ?_)
    rw [List.drop_eq_nil_of_le (by omega)]; rfl
  have hlt : j < L.length := Decidable.not_not.1 hlt'
  refine Ult.yes (decide_eq_true hlt) (Ult.bindc (at?_nat hlt) (Ult.bind (hf _ (List.getElem_mem hlt)).lift ?_))
  rw [drop_cons hlt, idxF, isucc hlt hL]
  exact Ult.ifS (by simp) (fun h => Ult.ret) (fun h => next hlt)
theorem idxF_min {p : α → Bool} : ∀ (L : List α) (j i : Nat), idxF p j L = ((j + i : Nat) : Int) → ∀ x ∈ L.take i, p x = false
  | [], j, i, _, x, hx => by simp at hx
  | a :: r, j, 0, _, x, hx => by simp at hx
  | a :: r, j, i + 1, h, x, hx => by
    rw [idxF] at h
    cases hp : p a with
    | true =>
      rw [hp] at h
      have h : ((j : Nat) : Int) = ((j + (i + 1) : Nat) : Int) := h
      omega
    | false =>
      rw [hp] at h
      have h : idxF p (j + 1) r = ((j + (i + 1) : Nat) : Int) := h
      rw [List.take_succ_cons] at hx
      rcases List.mem_cons.1 hx with rfl | hx
      · exact hp
      · exact idxF_min r (j + 1) i (by rw [h]; congr 1; omega) x hx
theorem indexFunc_spec {kk : ι → Nat} (hk : ∀ i, l i ≤ kk i) (L : List File) (f : ι → File → Option Bool) (p : File → Bool) (hf : ∀ a ∈ L, Ult l (fun i => f i a) (p a)) (hL : L.length ≤ 9223372036854775807) : Ult l (fun i => S90 (kk i) (L, f i, ())) (idxF p 0 L) := by
  unfold S90
  exact idx_loop hk L f p hf hL
theorem inb_nat {n : Nat} {j : Nat} (h : j < n) : inb (n : Int) (j : Int) = some () := by unfold inb; rw [if_pos ⟨by omega, by omega⟩]
theorem gt_nat {d : α} {L : List α} {j : Nat} (h : j < L.length) : gt d L (j : Int) = L[j] := by unfold gt; simp [h]
/-- slices.DeleteFunc -/
theorem deleteFunc_spec {kk : ι → Nat} (hk : ∀ i, l i ≤ kk i) (L : List File) (f : ι → File → Option Bool) (p : File → Bool) (hf : ∀ a ∈ L, Ult l (fun i => f i a) (p a)) (hL : L.length ≤ 9223372036854775807) : Ult l (fun i => S54 (kk i) (L, f i, ())) (L.filter fun a => !p a) := by
  unfold S54
  refine Ult.bind (indexFunc_spec hk L f p hf hL) ?_
  rcases idxF_cases p 0 L with ⟨h1, h2⟩ | ⟨i, hi, h1, h2, h3⟩
  · rw [h1]
    refine Ult.yes rfl (Ult.ret.eq ?_)
    rw [List.find?_eq_none] at h2
    exact (List.filter_eq_self.2 fun a ha => by simpa using h2 a ha).symm
  · have hmin := idxF_min L 0 i h1
    rw [Nat.zero_add] at h1
    rw [h1]
    refine Ult.no (by rw [ieq_eq]; exact decide_eq_false (by omega)) ?_
    rw [isucc hi hL]
    have h0 : L.take i = (L.take (i + 1)).filter fun a => !p a := by
      rw [List.take_succ_eq_append_getElem hi, List.filter_append, List.filter_eq_self.2 fun a ha => by simp [hmin a ha]]
      simp [h3]
    refine Ult.forA (A := Nat × List File) hk (L.length - (i + 1)) (fun a t => ((a.1 : Int), ((i + 1 + t : Nat) : Int), a.2)) (fun a t => a.2.length = L.length ∧ a.1 < i + 1 + t ∧ (a.2.take a.1 = (L.take (i + 1 + t)).filter fun a => !p a) ∧ a.2.drop (i + 1 + t) = L.drop (i + 1 + t)) (fun _ _ => L.filter fun a => !p a) (i, L) ⟨rfl, by omega, h0, rfl⟩ fun a t ht ⟨ha1, ha2, ha3, ha4⟩ next => ?_
    obtain ⟨m, a⟩ := a
    dsimp only at ha1 ha2 ha3 ha4 ⊢
    obtain ⟨j, hj⟩ : ∃ j, j = i + 1 + t := ⟨_, rfl⟩
    rw [← hj] at ha2 ha3 ha4 ⊢
    rw [iltL]
    have hml : m ≤ a.length := by omega
    by_cases hlt' : ¬ j < a.length
    · refine Ult.no (decide_eq_false hlt') ?_
      have hc1 : cut? a (m : Int) (len a) = some ((a.take a.length).drop m) := by
        unfold cut? len
        rw [if_pos ⟨by omega, by omega, Int.le_refl _⟩]
        simp
      have hc2 : cut? (clr ((⟨#[]⟩ : ByteArray), false, ([] : List Int)) a (m : Int) (len a)) 0 (m : Int) = some (a.take m) := by
        rw [cut?_take (by rw [clr_len]; exact hml)]
        congr 1
        refine List.ext_getElem (by simp [clr_len]) fun q q1 q2 => ?_
        simp only [List.length_take] at q1 q2
        rw [List.getElem_take, List.getElem_take, clr_get _ _ _ _ _ (by omega), if_neg (by simp; omega)]
      refine Ult.bindc hc1 (Ult.bindc hc2 (Ult.ret.eq ?_))
      rw [ha3, List.take_of_length_le (by omega)]
    have hlt : j < a.length := Decidable.not_not.1 hlt'
    have hjL : j < L.length := by omega
    have ej : a[j] = L[j] := by
      have := congrArg (fun l => l[0]?) ha4
      simpa [hlt, hjL] using this
    refine Ult.yes (decide_eq_true hlt) (Ult.bindc (inb_nat hlt) ?_)
    rw [gt_nat hlt, ej, isucc hjL hL]
    have hd1 : a.drop (j + 1) = L.drop (j + 1) := by
      have := congrArg (List.drop 1) ha4
      simpa [List.drop_drop, Nat.add_comm] using this
    have ht1 : (L.take (j + 1)).filter (fun a => !p a) = (L.take j).filter (fun a => !p a) ++ (if p L[j] = true then [] else [L[j]]) := by
      rw [List.take_succ_eq_append_getElem hjL, List.filter_append]
      cases hpj : p L[j] <;> simp [hpj]
    refine Ult.bind (hf L[j] (List.getElem_mem hjL)).lift ?_
    have e2 : i + 1 + (t + 1) = j + 1 := by omega
    cases hp : p L[j]
    · refine Ult.yes rfl (Ult.bindc (inb_nat (show m < a.length by omega)) ?_)
      rw [isucc (show m < a.length by omega) (by omega)]
      have := next (m + 1, setAt a (m : Int) (L[j].1, L[j].2.1, L[j].2.2)) (by omega) ⟨by simp [setAt, ha1], by dsimp only; omega, ?_, ?_⟩
      · rw [e2] at this
        exact this
      · dsimp only
        rw [e2, ht1, hp, if_neg (by simp), ← ha3]
        unfold setAt
        rw [Int.toNat_natCast, List.take_succ_eq_append_getElem (by simpa using (show m < a.length by omega))]
        rw [List.take_set_of_le (Nat.le_refl _)]
        simp
      · dsimp only
        rw [e2]
        unfold setAt
        rw [Int.toNat_natCast, List.drop_set_of_lt (by omega)]
        exact hd1
    · refine Ult.no rfl ?_
      have := next (m, a) (by omega) ⟨ha1, by dsimp only; omega, by dsimp only; rw [e2, ht1, hp, if_pos rfl, List.append_nil]; exact ha3, by dsimp only; rw [e2]; exact hd1⟩
      rw [e2] at this
      exact this
end Go.Proofs.YtcppmncmlhibhaaDoor.Ev

namespace Go.Proofs.YtcppmncmlhibhaaDoor.Ev
open Go Go.RowKit Go.Sort
set_option linter.unusedVariables false
set_option linter.unusedSimpArgs false
variable {ι R α X : Type} {l : ι → Nat} {Q : R → Prop}
theorem Fin.jn {f : ι → (X → Option R) → Option R} {g : ι → X → Option R} (h : Fin l (fun i => f i (g i)) Q) : Fin l (fun i => jn (f i) (g i)) Q := h
/-! ### files that are told apart by their paths -/
def ApartF (L : List File) : Prop := L.Pairwise fun p q => p.1 ≠ q.1
theorem Asc.apartF {L : List File} (h : Asc L) : ApartF L := by
  have h : L.Pairwise fun p q => lt p.1 q.1 := h
  refine h.imp fun {a b} hab e => ?_
  rw [e] at hab
  exact lt_irrefl _ hab
theorem Asc.unique {A B : List File} (hA : Asc A) (hB : Asc B) (hp : A.Perm B) : A = B := by
  have hA : A.Pairwise fun p q => lt p.1 q.1 := hA
  have hB : B.Pairwise fun p q => lt p.1 q.1 := hB
  exact List.Perm.eq_of_pairwise (le := fun a b : File => lt a.1 b.1) (fun a b _ _ h1 h2 => absurd h2 (lt_asymm h1)) hA hB hp
theorem ApartF.perm {A B : List File} (h : ApartF A) (hp : A.Perm B) : ApartF B := (hp.pairwise_iff (fun {_ _} hne => Ne.symm hne)).1 h
def srt (A : List File) : List File := A.mergeSort fun a b => !ltOf cfPath b a
theorem srt_perm (A : List File) : (srt A).Perm A := List.mergeSort_perm _ _
theorem srt_asc {A : List File} (h : ApartF A) : Asc (srt A) := by
  have tr : ∀ a b c : File, (!ltOf cfPath b a) = true → (!ltOf cfPath c b) = true → (!ltOf cfPath c a) = true := fun a b c h1 h2 => by
    simp only [Bool.not_eq_true'] at *
    exact swoPath.ntrans _ _ _ h2 h1
  have tot : ∀ a b : File, ((!ltOf cfPath b a) || (!ltOf cfPath a b)) = true := fun a b => by
    rw [ltOf_path, ltOf_path]
    by_cases h1 : b.1.data.toList < a.1.data.toList
    · simp [h1, List.lt_asymm h1]
    · simp [h1]
  have h1 : (srt A).Pairwise fun a b => (!ltOf cfPath b a) = true := List.pairwise_mergeSort tr tot A
  have h2 : ApartF (srt A) := h.perm (srt_perm A).symm
  refine (h1.and h2).imp fun {a b} ⟨q1, q2⟩ => ?_
  rw [ltOf_path] at q1
  have q1 : ¬ lt b.1 a.1 := by simpa [lt] using q1
  rcases Classical.em (lt a.1 b.1) with q | q
  · exact q
  · exact absurd (lt_tri q q1) q2
theorem sort_spec (A : List File) (h : ApartF A) (hl : A.length ≤ 4611686018427387903) : Ultk (fun k => S91 k A (92 :: ([] : List Nat))) (srt A) :=
  ⟨0, fun k _ => by
    show sortF cfPath A = _
    unfold sortF
    have h : A.Pairwise fun p q => p.1 ≠ q.1 := h
    exact if_pos ⟨h.imp fun {a b} hab => by
      rcases Classical.em (lt a.1 b.1) with q | q
      · exact .inl ((cmpB_lt _ _).2 q)
      · rcases Classical.em (lt b.1 a.1) with q' | q'
        · exact .inr ((cmpB_lt _ _).2 q')
        · exact absurd (lt_tri q q') hab, by omega⟩⟩
theorem sorted_spec (A : List File) (h : ApartF A) (hl : A.length ≤ 4611686018427387903) : Ultk (fun k => S56 k (A, ())) (if chkFiles (srt A) ≠ 0 then ([], chkFiles (srt A)) else (srt A, 0)) := by
  unfold S56
  refine Ult.bind (sort_spec A h hl) (Ult.bind (checkFiles_spec _) (Ult.ifS (ine_eq _ _) (fun _ => Ult.ret) fun _ => Ult.ret))
/-! ### what Put makes -/
def gone (q : ByteArray) (x : File) : Bool := decide (x.1 = q) || liesD x.1 q
def keepL (q : ByteArray) (L : List File) : List File := L.filter fun x => !gone q x
def pre (q : ByteArray) (x : File) : File := (q ++ sl ++ x.1, x.2)
def rawL (q : ByteArray) (L m : List File) : List File := keepL q L ++ m.map (pre q)
theorem sl_data : sl.data.toList = [47] := rfl
theorem pre_lies (q : ByteArray) (x : File) : liesD (pre q x).1 q = true := by
  unfold liesD pre
  refine decide_eq_true ⟨by simp only [ByteArray.size_append]; omega, ?_⟩
  rw [ByteArray.extract_append_eq_left rfl]
theorem pre_lt {q : ByteArray} {x y : File} (h : lt x.1 y.1) : lt (pre q x).1 (pre q y).1 := by
  unfold lt pre at *
  simp only [ByteArray.data_append, Array.toList_append]
  generalize q.data.toList ++ sl.data.toList = p
  induction p with
  | nil => simpa using h
  | cons a p ih => rw [List.cons_append, List.cons_append, List.cons_lt_cons_iff]; exact .inr ⟨rfl, ih⟩
theorem pre_asc {q : ByteArray} {m : List File} (h : Asc m) : Asc (m.map (pre q)) := List.pairwise_map.2 (h.imp fun {a b} hab => pre_lt hab)
theorem keep_asc {q : ByteArray} {L : List File} (h : Asc L) : Asc (keepL q L) := List.Pairwise.filter _ h
theorem raw_apart {q : ByteArray} {L m : List File} (hL : Asc L) (hm : Asc m) : ApartF (rawL q L m) := by
  refine List.pairwise_append.2 ⟨(keep_asc hL).apartF, (pre_asc hm).apartF, fun a ha b hb e => ?_⟩
  obtain ⟨y, hy, rfl⟩ := List.mem_map.1 hb
  have := (List.mem_filter.1 ha).2
  unfold gone at this
  rw [e, pre_lies] at this
  simp at this
theorem raw_len {q : ByteArray} {L m : List File} : (rawL q L m).length ≤ L.length + m.length := by
  unfold rawL keepL
  rw [List.length_append, List.length_map]
  have := List.length_filter_le (fun x => !gone q x) L
  omega
def finA (z : List File) : List File × Int := if chkFiles z ≠ 0 then ([], chkFiles z) else (z, 0)
/-- Put -/
def putAns (L : List File) (q : ByteArray) (m : List File) : List File × Int :=
  if chkFiles L ≠ 0 then ([], chkFiles L) else if chkFiles m ≠ 0 then ([], chkFiles m) else if isPathD q = false then ([], 3) else finA (srt (rawL q L m))
theorem put1_spec (x : File) (q : ByteArray) (hq : q.size ≤ 200) : Ultk (fun k => S55 k (x, q, ())) (gone q x) := by
  unfold S55 gone
  dsimp only
  rw [seq_eq]
  by_cases h : x.1 = q
  · exact Ult.yes (decide_eq_true h) (Ult.ret.eq (by rw [decide_eq_true h]; rfl))
  · exact Ult.no (decide_eq_false h) (Ult.bind (within2_spec x.1 q (by omega)) (Ult.ret.eq (by rw [decide_eq_false h]; rfl)))
theorem pre_cat {q : ByteArray} {x : File} (hq : q.size ≤ 200) (hx : x.1.size ≤ 200) : cat? q (⟨#[47]⟩ : ByteArray) = some (q ++ sl) ∧ cat? (q ++ sl) x.1 = some (pre q x).1 :=
  ⟨cat?_ok (by show q.size + 1 ≤ _; omega), cat?_ok (by rw [ByteArray.size_append]; show q.size + 1 + _ ≤ _; omega)⟩
theorem put_spec (L : List File) (q : ByteArray) (m : List File) (hL : FSz L) (hm : FSz m) : Ultk (fun k => S24 k (L, q, m, ())) (putAns L q m) := by
  unfold S24 putAns
  refine Ult.bind (checkFiles_spec L) (Ult.ifS (ine_eq _ _) (fun _ => Ult.ret) fun h0 => ?_)
  refine Ult.bind (checkFiles_spec m) (Ult.ifS (ine_eq _ _) (fun _ => Ult.ret) fun h1 => ?_)
  obtain ⟨l1, l2, l3, l4, l5, l6⟩ := chkFiles_ok (Decidable.not_not.1 h0)
  obtain ⟨m1, m2, m3, m4, m5, m6⟩ := chkFiles_ok (Decidable.not_not.1 h1)
  refine Ult.bind (isPath_spec q) ?_
  cases hp : isPathD q with
  | false => exact Ult.yes rfl (Ult.ret.eq (by rw [if_pos rfl]))
  | true =>
  refine Ult.no rfl (Ult.bind (own_spec L hL) ?_)
  rw [if_neg (by simp)]
  have hq := (isPathD_size hp).2
  have hd := deleteFunc_spec (l := fun k : Nat => k) (kk := fun k => k) (fun _ => Nat.le_refl _) L (fun k a => S55 k (a, q, ())) (gone q) (fun a _ => put1_spec a q hq) (by omega)
  refine Ult.bind hd (Ult.bind (own_spec m hm) ?_)
  refine Ult.forA (A := List File) (fun _ => Nat.le_refl _) m.length (fun a j => (a, (j : Int))) (fun a j => a = keepL q L ++ (m.take j).map (pre q)) (fun _ _ => finA (srt (rawL q L m))) (keepL q L) (by simp) fun a j hj ha next => ?_
  dsimp only
  rw [iltL]
  have hal : a.length ≤ 2000 := by
    rw [ha, List.length_append, List.length_map, List.length_take]
    have := List.length_filter_le (fun x => !gone q x) L
    unfold keepL
    omega
  by_cases hlt : j < m.length
  · refine Ult.yes (decide_eq_true hlt) (Ult.bindc (at?_nat hlt) ?_)
    obtain ⟨c1, c2⟩ := pre_cat (x := m[j]) hq (isPathD_size (m2 _ (List.getElem_mem hlt))).2
    refine Ult.bindc c1 (Ult.bindc c2 (Ult.bindc (app?_ok (by show (a.length + 1) * 48 ≤ _; omega)) ?_))
    rw [isucc hlt (by omega)]
    exact next _ hlt (by rw [ha, List.take_succ_eq_append_getElem hlt, List.map_append, List.append_assoc]; rfl)
  · refine Ult.no (decide_eq_false hlt) ?_
    rw [List.take_of_length_le (by omega)] at ha
    have ha : a = rawL q L m := ha
    subst ha
    have hs := Ult.call (l := lp fun k : Nat => k) (k := fun p => p.1) (f := fun k => S56 k (rawL q L m, ())) (lp_le _ _ fun _ => Nat.le_refl _) (sorted_spec _ (raw_apart l4 m4) (by omega))
    exact Ult.bind hs Ult.ret
/-- a file is put to others in order -/
theorem insert_spec (A : List File) (x : File) (hA : Asc A) (hx : ∀ y ∈ A, y.1 ≠ x.1) (hl : A.length ≤ 2000) : Fink (fun k => S58 k (A, x, ())) (fun r => Asc r ∧ r.Perm (x :: A)) := by
  unfold S58
  refine Fin.jn ?_
  dsimp only
  refine Fin.loopI (fun _ => Nat.le_refl _) (fun z : Int => ∃ k : Nat, z = (k : Int) ∧ k ≤ A.length ∧ ∀ i (h : i < A.length), k ≤ i → lt x.1 A[i].1) (fun z => z.toNat) ⟨A.length, rfl, Nat.le_refl _, fun i h q => by omega⟩ ?_
  rintro _ ⟨k, rfl, hk, hgt⟩ next
  have fin : (∀ i (h : i < A.length), i < k → lt A[i].1 x.1) → Fin (lp fun k : Nat => k) (fun p : Nat × Nat => bnd (cut? A 0 (k : Int)) (fun (a3 : List File) => bnd (app? 48 ([] : List File) a3) (fun (a4 : List File) => bnd (app? 48 a4 ((x.1, x.2.1, x.2.2) :: ([] : List File))) (fun (a5 : List File) => bnd (cut? A (k : Int) (len A)) (fun (a6 : List File) => bnd (app? 48 a5 a6) (fun (a7 : List File) => some a7)))))) (fun r => Asc r ∧ r.Perm (x :: A)) := fun hlt => by
    have hc : cut? A (k : Int) (len A) = some (A.drop k) := by
      unfold cut? len
      rw [if_pos ⟨by omega, by omega, Int.le_refl _⟩]
      simp
    refine Fin.bindc (cut?_take hk) (Fin.bindc (app?_ok (by rw [List.length_take]; show (0 + _) * 48 ≤ _; omega)) (Fin.bindc (app?_ok (by rw [List.nil_append, List.length_take]; show (_ + 1) * 48 ≤ _; omega)) (Fin.bindc hc (Fin.bindc (app?_ok (by simp only [List.nil_append, List.length_append, List.length_take, List.length_drop, List.length_singleton]; show _ * 48 ≤ _; omega)) (Fin.ret ?_)))))
    have e : ([] ++ A.take k ++ [(x.1, x.2.1, x.2.2)] ++ A.drop k : List File) = A.take k ++ x :: A.drop k := by simp
    rw [e]
    refine ⟨?_, ?_⟩
    · refine List.pairwise_append.2 ⟨hA.sublist (List.take_sublist _ _), List.pairwise_cons.2 ⟨fun y hy => ?_, hA.sublist (List.drop_sublist _ _)⟩, fun a ha b hb => ?_⟩
      · obtain ⟨i, hi, rfl⟩ := List.getElem_of_mem hy
        rw [List.getElem_drop]
        exact hgt _ _ (by omega)
      · obtain ⟨i, hi, rfl⟩ := List.getElem_of_mem ha
        rw [List.length_take] at hi
        rw [List.getElem_take]
        have h1 := hlt i (by omega) (by omega)
        rcases List.mem_cons.1 hb with rfl | hb
        · exact h1
        · obtain ⟨j, hj, rfl⟩ := List.getElem_of_mem hb
          rw [List.getElem_drop]
          exact lt_trans h1 (hgt _ _ (by omega))
    · refine List.perm_middle.trans ?_
      rw [List.take_append_drop]
  by_cases h0 : 0 < k
  · have hk1 : k - 1 < A.length := by omega
    refine Fin.ite (fun _ => ?_) (fun hc => by rw [igt0, decide_eq_true h0] at hc; cases hc)
    rw [ipred h0 hk (by omega)]
    refine Fin.bindc (at?_nat hk1) ?_
    have hsg : sgt A[k - 1].1 x.1 = decide (lt x.1 A[k - 1].1) := by
      show (!(sle A[k - 1].1 x.1)) = _
      rw [sle_eq]
      unfold lt
      by_cases q : x.1.data.toList < A[k - 1].1.data.toList <;> simp [q]
    rw [hsg]
    by_cases hq : lt x.1 A[k - 1].1
    · refine Fin.ite (fun _ => ?_) (fun hc => by rw [decide_eq_true hq] at hc; cases hc)
      refine next _ ⟨k - 1, rfl, by omega, fun i h q => ?_⟩ (by omega)
      rcases Nat.lt_or_ge i k with z | z
      · have : i = k - 1 := by omega
        subst this; exact hq
      · exact hgt i h z
    · refine Fin.ite (fun hc => by rw [decide_eq_false hq] at hc; cases hc) (fun _ => ?_)
      refine fin fun i h hi => ?_
      have h1 : lt A[k - 1].1 x.1 := by
        rcases Classical.em (lt A[k - 1].1 x.1) with z | z
        · exact z
        · exact absurd (lt_tri z hq) (hx _ (List.getElem_mem hk1))
      rcases Nat.lt_or_ge i (k - 1) with z | z
      · exact lt_trans (hA.get z hk1) h1
      · have : i = k - 1 := by omega
        subst this; exact h1
  · refine Fin.ite (fun hc => by rw [igt0, decide_eq_false h0] at hc; cases hc) (fun _ => ?_)
    exact fin fun i h hi => by omega
end Go.Proofs.YtcppmncmlhibhaaDoor.Ev

namespace Go.Proofs.YtcppmncmlhibhaaDoor.Ev
open Go Go.RowKit Go.Sort
set_option linter.unusedVariables false
set_option linter.unusedSimpArgs false
variable {ι R α X : Type} {l : ι → Nat} {Q : R → Prop}
theorem keepL_succ {q : ByteArray} {L : List File} {j : Nat} (h : j < L.length) : keepL q (L.take (j + 1)) = keepL q (L.take j) ++ (if gone q L[j] = true then [] else [L[j]]) := by
  unfold keepL
  rw [List.take_succ_eq_append_getElem h, List.filter_append]
  congr 1
  cases hb : gone q L[j] <;> simp [hb]
theorem keepL_len {q : ByteArray} {L : List File} : (keepL q L).length ≤ L.length := List.length_filter_le _ _
theorem putR_spec (L : List File) (q : ByteArray) (m : List File) (hL : FSz L) (hm : FSz m) : Ultk (fun k => S25 k (L, q, m, ())) (putAns L q m) := by
  unfold S25 putAns
  refine Ult.bind (checkFilesR_spec L) (Ult.ifS (ine_eq _ _) (fun _ => Ult.ret) fun h0 => ?_)
  refine Ult.bind (checkFilesR_spec m) (Ult.ifS (ine_eq _ _) (fun _ => Ult.ret) fun h1 => ?_)
  obtain ⟨l1, l2, l3, l4, l5, l6⟩ := chkFiles_ok (Decidable.not_not.1 h0)
  obtain ⟨m1, m2, m3, m4, m5, m6⟩ := chkFiles_ok (Decidable.not_not.1 h1)
  refine Ult.bind (isPathR_spec q) ?_
  cases hp : isPathD q with
  | false => exact Ult.yes rfl (Ult.ret.eq (by rw [if_pos rfl]))
  | true =>
  refine Ult.no rfl ?_
  rw [if_neg (by simp)]
  have hq := (isPathD_size hp).2
  refine Ult.forA (A := List File) (fun _ => Nat.le_refl _) L.length (fun a j => (a, (j : Int))) (fun a j => a = keepL q (L.take j)) (fun _ _ => finA (srt (rawL q L m))) [] (by simp [keepL]) fun a j hj ha next => ?_
  dsimp only
  rw [iltL]
  have hal : a.length ≤ 1000 := by
    rw [ha]
    have := keepL_len (q := q) (L := L.take j)
    rw [List.length_take] at this
    omega
  by_cases hlt : j < L.length
  · refine Ult.yes (decide_eq_true hlt) (Ult.jn ?_)
    dsimp only
    rw [isucc hlt (by omega)]
    refine Ult.bindc (at?_nat hlt) ?_
    rw [sne_eq]
    have hks := keepL_succ (q := q) hlt
    by_cases hpq : L[j].1 = q
    · refine Ult.no (decide_eq_false (fun z => z hpq)) (Ult.no rfl (next _ hlt ?_))
      rw [hks, if_pos (by unfold gone; rw [decide_eq_true hpq]; rfl), List.append_nil, ha]
    refine Ult.yes (decide_eq_true hpq) (Ult.bindc (at?_nat hlt) ?_)
    have hc := Ult.call (l := lp fun k : Nat => k) (k := fun p => p.1) (f := fun k => S26 k (L[j].1, q, ())) (lp_le _ _ fun _ => Nat.le_refl _) (lies_spec L[j].1 q (by omega))
    refine Ult.bind hc ?_
    cases hb : liesD L[j].1 q with
    | true =>
      refine Ult.no rfl (next _ hlt ?_)
      rw [hks, if_pos (by unfold gone; rw [hb]; simp), List.append_nil, ha]
    | false =>
      refine Ult.yes rfl (Ult.bindc (at?_nat hlt) (Ult.bindc (at?_nat hlt) ?_))
      have hd := Ult.call (l := lp fun k : Nat => k) (k := fun p => p.1) (f := fun k => S57 k (L[j], L[j].1, ())) (lp_le _ _ fun _ => Nat.le_refl _) (copied_spec L[j] L[j].1 (hL.bytes _ (List.getElem_mem hlt)))
      refine Ult.bind hd (Ult.bindc (app?_ok (by show (a.length + 1) * 48 ≤ _; omega)) (next _ hlt ?_))
      rw [hks, if_neg (by unfold gone; rw [hb, decide_eq_false hpq]; simp), ha]
  · refine Ult.no (decide_eq_false hlt) ?_
    rw [List.take_of_length_le (by omega)] at ha
    refine Ult.forA (A := List File) (lp_le _ _ fun _ => Nat.le_refl _) m.length (fun a j => (a, (j : Int))) (fun a j => Asc a ∧ a.Perm (keepL q L ++ (m.take j).map (pre q))) (fun _ _ => finA (srt (rawL q L m))) a ⟨by rw [ha]; exact keep_asc l4, by rw [ha]; simp⟩ fun b t ht hb next2 => ?_
    obtain ⟨b1, b2⟩ := hb
    dsimp only
    rw [iltL]
    have hkl := keepL_len (q := q) (L := L)
    have hbl : b.length ≤ 2000 := by
      rw [b2.length_eq, List.length_append, List.length_map, List.length_take]
      omega
    by_cases hlu : t < m.length
    · refine Ult.yes (decide_eq_true hlu) (Ult.bindc (at?_nat hlu) ?_)
      obtain ⟨c1, c2⟩ := pre_cat (x := m[t]) hq (isPathD_size (m2 _ (List.getElem_mem hlu))).2
      refine Ult.bindc c1 (Ult.bindc (at?_nat hlu) (Ult.bindc c2 ?_))
      have hd := Ult.call (l := lp (lp fun k : Nat => k)) (k := fun p => p.1.1) (f := fun k => S57 k (m[t], (pre q m[t]).1, ())) (lp_le _ _ (lp_le _ _ fun _ => Nat.le_refl _)) (copied_spec m[t] (pre q m[t]).1 (hm.bytes _ (List.getElem_mem hlu)))
      refine Ult.bind hd ?_
      have hne : ∀ y ∈ b, y.1 ≠ (pre q m[t]).1 := fun y hy e => by
        have hy := b2.mem_iff.1 hy
        rcases List.mem_append.1 hy with z | z
        · have := (List.mem_filter.1 z).2
          unfold gone at this
          rw [e, pre_lies] at this
          simp at this
        · obtain ⟨x, hx, rfl⟩ := List.mem_map.1 z
          obtain ⟨i, hi, rfl⟩ := List.getElem_of_mem hx
          rw [List.length_take] at hi
          rw [List.getElem_take] at e
          have := pre_lt (q := q) (m4.get (show i < t by omega) hlu)
          rw [e] at this
          exact lt_irrefl _ this
      obtain ⟨r, ⟨r1, r2⟩, r3⟩ := insert_spec b (pre q m[t]) b1 hne hbl
      have he := Ult.call (l := lp (lp fun k : Nat => k)) (k := fun p => p.1.1) (f := fun k => S58 k (b, pre q m[t], ())) (lp_le _ _ (lp_le _ _ fun _ => Nat.le_refl _)) r3
      refine Ult.bind he ?_
      rw [isucc hlu (by omega)]
      refine next2 _ hlu ⟨r1, ?_⟩
      rw [List.take_succ_eq_append_getElem hlu, List.map_append, ← List.append_assoc]
      exact r2.trans (((List.perm_append_singleton _ _).symm.trans (b2.append_right _)))
    · refine Ult.no (decide_eq_false hlu) ?_
      rw [List.take_of_length_le (by omega)] at b2
      have b2 : b.Perm (rawL q L m) := b2
      have e : b = srt (rawL q L m) := b1.unique (srt_asc (raw_apart l4 m4)) (b2.trans (srt_perm _).symm)
      rw [← e]
      have hs := Ult.call (l := lp (lp fun k : Nat => k)) (k := fun p => p.1.1) (f := fun k => S32 k (b, ())) (lp_le _ _ (lp_le _ _ fun _ => Nat.le_refl _)) (checkFilesR_spec b)
      exact Ult.bind hs (Ult.ifS (ine_eq _ _) (fun _ => Ult.ret) fun _ => Ult.ret)
theorem FSz.of {L : List File} (h : WfS 48 (fun x => (fun s => s.size ≤ 140737488351232) x.1 ∧ (fun x => (fun _ => True) x.1 ∧ (WfS 1 (fun n => (Lit.int .u8 n).wf = true)) x.2) x.2) L) : FSz L :=
  ⟨by have := h.2.1; omega, fun x hx => by have := (h.2.2 x hx).2.2.2.1; omega, fun x hx => by have := (h.2.2 x hx).1; omega⟩
theorem FSz.len' {L : List File} (h : FSz L) : L.length ≤ 9223372036854775807 := by have := h.len; omega
theorem some_of {f : Nat → Option Bool} (h : Ultk f true) : ∃ k, f k = some true := by
  obtain ⟨K, h⟩ := h
  exact ⟨K, h K (Nat.le_refl _)⟩
end Go.Proofs.YtcppmncmlhibhaaDoor.Ev

namespace Go.Proofs.YtcppmncmlhibhaaDoor.Ev
open Go Go.RowKit Go.Sort
set_option linter.unusedVariables false
set_option linter.unusedSimpArgs false
variable {ι R α β X : Type} {l : ι → Nat} {Q : R → Prop}
def AscS (L : List ByteArray) : Prop := L.Pairwise lt
theorem AscS.nodup {L : List ByteArray} (h : AscS L) : L.Nodup := by
  have h : L.Pairwise lt := h
  refine h.imp fun {a b} hab e => ?_
  rw [e] at hab
  exact lt_irrefl _ hab
theorem AscS.unique {A B : List ByteArray} (hA : AscS A) (hB : AscS B) (h : ∀ y, y ∈ A ↔ y ∈ B) : A = B := by
  have hp : A.Perm B := (List.perm_ext_iff_of_nodup hA.nodup hB.nodup).2 h
  have hA : A.Pairwise lt := hA
  have hB : B.Pairwise lt := hB
  exact List.Perm.eq_of_pairwise (le := lt) (fun a b _ _ h1 h2 => absurd h2 (lt_asymm h1)) hA hB hp
theorem AscS.get {L : List ByteArray} (h : AscS L) {i j : Nat} (hij : i < j) (hj : j < L.length) : lt (L[i]'(by omega)) L[j] := List.pairwise_iff_getElem.1 h i j (by omega) hj hij
/-- a path is put to others in order, once -/
theorem put_once (A : List ByteArray) (x : ByteArray) (hA : AscS A) (hl : A.length ≤ 100000) : Fink (fun k => S67 k (A, x, ())) (fun r => AscS r ∧ (∀ y, y ∈ r ↔ y = x ∨ y ∈ A) ∧ r.length ≤ A.length + 1) := by
  unfold S67
  refine Fin.jn ?_
  dsimp only
  refine Fin.loopI (fun _ => Nat.le_refl _) (fun z : Int => ∃ k : Nat, z = (k : Int) ∧ k ≤ A.length ∧ ∀ i (h : i < A.length), k ≤ i → lt x A[i]) (fun z => z.toNat) ⟨A.length, rfl, Nat.le_refl _, fun i h q => by omega⟩ ?_
  rintro _ ⟨k, rfl, hk, hgt⟩ next
  have ins : (∀ i (h : i < A.length), i < k → lt A[i] x) → Fin (lp fun k : Nat => k) (fun p : Nat × Nat => bnd (cut? A 0 (k : Int)) (fun (a4 : List ByteArray) => bnd (app? 16 ([] : List ByteArray) a4) (fun (a5 : List ByteArray) => bnd (app? 16 a5 (x :: ([] : List ByteArray))) (fun (a6 : List ByteArray) => bnd (cut? A (k : Int) (len A)) (fun (a7 : List ByteArray) => bnd (app? 16 a6 a7) (fun (a8 : List ByteArray) => some a8)))))) (fun r => AscS r ∧ (∀ y, y ∈ r ↔ y = x ∨ y ∈ A) ∧ r.length ≤ A.length + 1) := fun hlt => by
    have hc : cut? A (k : Int) (len A) = some (A.drop k) := by
      unfold cut? len
      rw [if_pos ⟨by omega, by omega, Int.le_refl _⟩]
      simp
    refine Fin.bindc (cut?_take hk) (Fin.bindc (app?_ok (by rw [List.length_take]; show (0 + _) * 16 ≤ _; omega)) (Fin.bindc (app?_ok (by rw [List.nil_append, List.length_take]; show (_ + 1) * 16 ≤ _; omega)) (Fin.bindc hc (Fin.bindc (app?_ok (by simp only [List.nil_append, List.length_append, List.length_take, List.length_drop, List.length_singleton]; show _ * 16 ≤ _; omega)) (Fin.ret ?_)))))
    have e : ([] ++ A.take k ++ [x] ++ A.drop k : List ByteArray) = A.take k ++ x :: A.drop k := by simp
    rw [e]
    refine ⟨?_, fun y => ?_, ?_⟩
    · refine List.pairwise_append.2 ⟨List.Pairwise.sublist (List.take_sublist _ _) hA, List.pairwise_cons.2 ⟨fun y hy => ?_, List.Pairwise.sublist (List.drop_sublist _ _) hA⟩, fun a ha b hb => ?_⟩
      · obtain ⟨i, hi, rfl⟩ := List.getElem_of_mem hy
        rw [List.getElem_drop]
        exact hgt _ _ (by omega)
      · obtain ⟨i, hi, rfl⟩ := List.getElem_of_mem ha
        rw [List.length_take] at hi
        rw [List.getElem_take]
        have h1 := hlt i (by omega) (by omega)
        rcases List.mem_cons.1 hb with rfl | hb
        · exact h1
        · obtain ⟨j, hj, rfl⟩ := List.getElem_of_mem hb
          rw [List.getElem_drop]
          exact lt_trans h1 (hgt _ _ (by omega))
    · rw [(List.perm_middle (a := x) (l₁ := A.take k) (l₂ := A.drop k)).mem_iff, List.mem_cons, List.take_append_drop]
    · simp only [List.length_append, List.length_take, List.length_cons, List.length_drop]; omega
  by_cases h0 : 0 < k
  · have hk1 : k - 1 < A.length := by omega
    refine Fin.ite (fun _ => ?_) (fun hc => by rw [igt0, decide_eq_true h0] at hc; cases hc)
    rw [ipred h0 hk (by omega)]
    refine Fin.bindc (at?_nat hk1) ?_
    have hsg : sgt A[k - 1] x = decide (lt x A[k - 1]) := by
      show (!(sle A[k - 1] x)) = _
      rw [sle_eq]
      unfold lt
      by_cases q : x.data.toList < A[k - 1].data.toList <;> simp [q]
    rw [hsg]
    by_cases hq : lt x A[k - 1]
    · refine Fin.ite (fun _ => ?_) (fun hc => by rw [decide_eq_true hq] at hc; cases hc)
      refine next _ ⟨k - 1, rfl, by omega, fun i h q => ?_⟩ (by omega)
      rcases Nat.lt_or_ge i k with z | z
      · have : i = k - 1 := by omega
        subst this; exact hq
      · exact hgt i h z
    · refine Fin.ite (fun hc => by rw [decide_eq_false hq] at hc; cases hc) (fun _ => Fin.jn ?_)
      dsimp only
      refine Fin.ite (fun _ => ?_) (fun hc => by rw [igt0, decide_eq_true h0] at hc; cases hc)
      refine Fin.bindc (at?_nat hk1) ?_
      rw [seq_eq]
      by_cases he : A[k - 1] = x
      · refine Fin.ite (fun _ => Fin.ret ⟨hA, fun y => ⟨.inr, fun q => q.elim (fun e => by rw [e, ← he]; exact List.getElem_mem hk1) id⟩, by omega⟩) (fun hc => by rw [decide_eq_true he] at hc; cases hc)
      refine Fin.ite (fun hc => by rw [decide_eq_false he] at hc; cases hc) (fun _ => ?_)
      refine ins fun i h hi => ?_
      have h1 : lt A[k - 1] x := by
        rcases Classical.em (lt A[k - 1] x) with z | z
        · exact z
        · exact absurd (lt_tri z hq) he
      rcases Nat.lt_or_ge i (k - 1) with z | z
      · exact lt_trans (hA.get z hk1) h1
      · have : i = k - 1 := by omega
        subst this; exact h1
  · refine Fin.ite (fun hc => by rw [igt0, decide_eq_false h0] at hc; cases hc) (fun _ => Fin.jn ?_)
    dsimp only
    refine Fin.ite (fun hc => by rw [igt0, decide_eq_false h0] at hc; cases hc) (fun _ => ?_)
    exact ins fun i h hi => by omega
end Go.Proofs.YtcppmncmlhibhaaDoor.Ev

namespace Go.Proofs.YtcppmncmlhibhaaDoor.Ev
open Go Go.RowKit Go.Sort
set_option linter.unusedVariables false
set_option linter.unusedSimpArgs false
variable {ι R α β X A : Type} {l : ι → Nat} {Q : R → Prop}
theorem Fin.round {st : ι → (X → Option R) → X → Option R} {x : X} (h : Fin (lp l) (fun p => st p.1 (loopN p.2 (st p.1)) x) Q) : Fin (lp l) (fun p => loopN p.2 (st p.1) x) Q := by
  obtain ⟨r, hr, hu⟩ := h
  exact ⟨r, hr, Ult.round hu⟩
theorem Fin.forA {st : ι → (X → Option R) → X → Option R} {k : ι → Nat} (hk : ∀ i, l i ≤ k i) (n : Nat) (mk : A → Nat → X) (I : A → Nat → Prop) (a0 : A) (h0 : I a0 0)
    (h : ∀ a j, j ≤ n → I a j → (∀ a', j < n → I a' (j + 1) → Fin (lp l) (fun p => loopN p.2 (st p.1) (mk a' (j + 1))) Q) → Fin (lp l) (fun p => st p.1 (loopN p.2 (st p.1)) (mk a j)) Q) :
    Fin l (fun i => loopN (k i) (st i) (mk a0 0)) Q := by
  have key : ∀ (d j : Nat) (a : A), n - j = d → j ≤ n → I a j → Fin (lp l) (fun p => loopN p.2 (st p.1) (mk a j)) Q := by
    intro d
    induction d with
    | zero => intro j a hd hj hI; exact Fin.round (h a j hj hI fun a' hlt _ => by omega)
    | succ d ih => intro j a hd hj hI; exact Fin.round (h a j hj hI fun a' hlt hI' => ih (j + 1) a' (by omega) (by omega) hI')
  obtain ⟨r, hr, hu⟩ := key n 0 a0 (by omega) (Nat.zero_le _) h0
  exact ⟨r, hr, Ult.loop hk hu⟩
theorem inF_take' {L : List File} {j : Nat} (h : j < L.length) (p : ByteArray) : inF (L.take (j + 1)) p = true ↔ p = L[j].1 ∨ inF (L.take j) p = true := by
  rw [inF_take h]; simp
theorem inF_nil (p : ByteArray) : inF [] p = false := rfl
/-- the paths of three lists -/
structure Ups (a b c : List File) (r : List ByteArray) : Prop where
  asc : AscS r
  mem : ∀ y, y ∈ r ↔ inF a y = true ∨ inF b y = true ∨ inF c y = true
  len : r.length ≤ a.length + b.length + c.length
theorem Ups.unique {a b c : List File} {r s : List ByteArray} (h : Ups a b c r) (k : Ups a b c s) : r = s := h.asc.unique k.asc fun y => (h.mem y).trans (k.mem y).symm
theorem pathsR_spec (a b c : List File) (ha : a.length ≤ 1000) (hb : b.length ≤ 1000) (hc : c.length ≤ 1000) : Fink (fun k => S46 k (a, b, c, ())) (Ups a b c) := by
  unfold S46
  refine Fin.forA (A := List ByteArray) (fun _ => Nat.le_refl _) a.length (fun r j => (r, (j : Int))) (fun r j => Ups (a.take j) [] [] r ∧ r.length ≤ j) [] ⟨⟨List.Pairwise.nil, fun y => by simp [inF_nil], by simp⟩, Nat.le_refl _⟩ fun r j hj hr next => ?_
  obtain ⟨hr, hrl⟩ := hr
  dsimp only
  rw [iltL]
  by_cases hlt : j < a.length
  · refine Fin.ite (fun _ => ?_) (fun q => by rw [decide_eq_true hlt] at q; cases q)
    refine Fin.bindc (at?_nat hlt) ?_
    obtain ⟨s, ⟨s1, s2, s3⟩, s4⟩ := put_once r a[j].1 hr.asc (by omega)
    have hcall := Ult.call (l := lp fun k : Nat => k) (k := fun q => q.1) (f := fun k => S67 k (r, a[j].1, ())) (lp_le _ _ fun _ => Nat.le_refl _) s4
    refine Fin.bindu hcall ?_
    rw [isucc hlt (by omega)]
    refine next s hlt ⟨⟨s1, fun y => ?_, by rw [List.length_take]; simp; omega⟩, by omega⟩
    rw [s2, hr.mem, inF_take' hlt]
    simp [inF_nil]
  refine Fin.ite (fun q => by rw [decide_eq_false hlt] at q; cases q) (fun _ => ?_)
  rw [List.take_of_length_le (by omega)] at hr
  have hra : r.length ≤ a.length := by omega
  refine Fin.forA (A := List ByteArray) (lp_le _ _ fun _ => Nat.le_refl _) b.length (fun r j => (r, (j : Int))) (fun r j => Ups a (b.take j) [] r ∧ r.length ≤ a.length + j) r ⟨⟨hr.asc, fun y => by rw [hr.mem]; simp [inF_nil], by simp; omega⟩, by omega⟩ fun s i hi hs next2 => ?_
  obtain ⟨hs, hsl⟩ := hs
  dsimp only
  rw [iltL]
  by_cases hlu : i < b.length
  · refine Fin.ite (fun _ => ?_) (fun q => by rw [decide_eq_true hlu] at q; cases q)
    refine Fin.bindc (at?_nat hlu) ?_
    obtain ⟨t, ⟨s1, s2, s3⟩, s4⟩ := put_once s b[i].1 hs.asc (by omega)
    have hcall := Ult.call (l := lp (lp fun k : Nat => k)) (k := fun q => q.1.1) (f := fun k => S67 k (s, b[i].1, ())) (lp_le _ _ (lp_le _ _ fun _ => Nat.le_refl _)) s4
    refine Fin.bindu hcall ?_
    rw [isucc hlu (by omega)]
    refine next2 t hlu ⟨⟨s1, fun y => ?_, by rw [List.length_take]; simp; omega⟩, by omega⟩
    rw [s2, hs.mem, inF_take' hlu]
    simp [inF_nil]
    exact or_left_comm
  refine Fin.ite (fun q => by rw [decide_eq_false hlu] at q; cases q) (fun _ => ?_)
  rw [List.take_of_length_le (by omega)] at hs
  have hsa : s.length ≤ a.length + b.length := by omega
  refine Fin.forA (A := List ByteArray) (lp_le _ _ (lp_le _ _ fun _ => Nat.le_refl _)) c.length (fun r j => (r, (j : Int))) (fun r j => Ups a b (c.take j) r ∧ r.length ≤ a.length + b.length + j) s ⟨⟨hs.asc, fun y => by rw [hs.mem]; simp [inF_nil], by simp; omega⟩, by omega⟩ fun u i hi hu next3 => ?_
  obtain ⟨hu, hul⟩ := hu
  dsimp only
  rw [iltL]
  by_cases hlv : i < c.length
  · refine Fin.ite (fun _ => ?_) (fun q => by rw [decide_eq_true hlv] at q; cases q)
    refine Fin.bindc (at?_nat hlv) ?_
    obtain ⟨t, ⟨s1, s2, s3⟩, s4⟩ := put_once u c[i].1 hu.asc (by omega)
    have hcall := Ult.call (l := lp (lp (lp fun k : Nat => k))) (k := fun q => q.1.1.1) (f := fun k => S67 k (u, c[i].1, ())) (lp_le _ _ (lp_le _ _ (lp_le _ _ fun _ => Nat.le_refl _))) s4
    refine Fin.bindu hcall ?_
    rw [isucc hlv (by omega)]
    refine next3 t hlv ⟨⟨s1, fun y => ?_, by rw [List.length_take]; omega⟩, by omega⟩
    rw [s2, hu.mem, inF_take' hlv]
    constructor
    · rintro (q | q | q | q)
      · exact .inr (.inr (.inl q))
      · exact .inl q
      · exact .inr (.inl q)
      · exact .inr (.inr (.inr q))
    · rintro (q | q | q | q)
      · exact .inr (.inl q)
      · exact .inr (.inr (.inl q))
      · exact .inl q
      · exact .inr (.inr (.inr q))
  refine Fin.ite (fun q => by rw [decide_eq_false hlv] at q; cases q) (fun _ => ?_)
  rw [List.take_of_length_le (by omega)] at hu
  exact Fin.ret hu
end Go.Proofs.YtcppmncmlhibhaaDoor.Ev

namespace Go.Proofs.YtcppmncmlhibhaaDoor.Ev
open Go Go.RowKit Go.Sort
set_option linter.unusedVariables false
set_option linter.unusedSimpArgs false
variable {ι R α β X A : Type} {l : ι → Nat} {Q : R → Prop}
def keysM (m : List (ByteArray × β)) : List ByteArray := m.map (·.1)
theorem keys_mput (m : List (ByteArray × β)) (k : ByteArray) (v : β) : (k ∈ keysM m ∧ keysM (mput keq m k v) = keysM m) ∨ (¬ k ∈ keysM m ∧ keysM (mput keq m k v) = keysM m ++ [k]) := by
  rw [mput_R]
  induction m with
  | nil => exact .inr ⟨by simp [keysM], rfl⟩
  | cons p m ih =>
    rw [mputR]
    by_cases h : k = p.1
    · rw [if_pos h]; exact .inl ⟨by simp [keysM, h], rfl⟩
    · rw [if_neg h]
      have e : keysM (p :: mputR m k v) = p.1 :: keysM (mputR m k v) := rfl
      have e2 : keysM (p :: m) = p.1 :: keysM m := rfl
      rw [e, e2]
      rcases ih with ⟨i1, i2⟩ | ⟨i1, i2⟩
      · exact .inl ⟨List.mem_cons_of_mem _ i1, by rw [i2]⟩
      · exact .inr ⟨by simp [h, i1], by rw [i2]; rfl⟩
/-- the keys of a map -/
structure PM (m : List (ByteArray × β)) (q : ByteArray → Prop) (n : Nat) : Prop where
  nodup : (keysM m).Nodup
  mem : ∀ y, y ∈ keysM m ↔ q y
  len : m.length ≤ n
theorem PM.put {m : List (ByteArray × β)} {q : ByteArray → Prop} {n : Nat} (h : PM m q n) (k : ByteArray) (v : β) : PM (mput keq m k v) (fun y => y = k ∨ q y) (n + 1) := by
  refine ⟨?_, fun y => ?_, Nat.le_trans (mput_len m k v) (by have := h.len; omega)⟩
  · rcases keys_mput m k v with ⟨hk, e⟩ | ⟨hk, e⟩ <;> rw [e]
    · exact h.nodup
    · refine List.pairwise_append.2 ⟨h.nodup, by simp, fun a ha b hb e => hk ?_⟩
      rw [List.mem_singleton] at hb
      rw [← hb, ← e]; exact ha
  · rcases keys_mput m k v with ⟨hk, e⟩ | ⟨hk, e⟩ <;> rw [e]
    · rw [h.mem]
      exact ⟨.inr, fun z => z.elim (fun e => by rw [e]; exact (h.mem k).1 hk) id⟩
    · rw [List.mem_append, List.mem_singleton, h.mem]; exact or_comm
theorem PM.congr {m : List (ByteArray × β)} {q q' : ByteArray → Prop} {n n' : Nat} (h : PM m q n) (e : ∀ y, q y ↔ q' y) (hn : n ≤ n') : PM m q' n' := ⟨h.nodup, fun y => (h.mem y).trans (e y), Nat.le_trans h.len hn⟩
theorem keysOf_eq (m : List (ByteArray × β)) : keysOf m = (keysM m).map (fun s => s.data.toList) := by unfold keysOf keysM; rw [List.map_map]; rfl
theorem sortedKeys_spec {m : List (ByteArray × β)} {q : ByteArray → Prop} {n : Nat} (h : PM m q n) (hn : n ≤ 100000) (hs : ∀ y, q y → y.size ≤ 200) : ∃ r, sortedKeys (some m) = some r ∧ AscS r ∧ (∀ y, y ∈ r ↔ q y) ∧ r.length ≤ n := by
  have hl := h.len
  refine ⟨((keysOf m).mergeSort leB).map fun l => (⟨l.toArray⟩ : ByteArray), ?_, ?_, fun y => ?_, ?_⟩
  · refine if_pos ⟨by omega, fun p hp => ?_⟩
    have := hs p.1 ((h.mem p.1).1 (List.mem_map_of_mem hp))
    unfold maxLen; omega
  · have tr : ∀ a b c : List UInt8, leB a b = true → leB b c = true → leB a c = true := fun a b c h1 h2 => by simp only [leB, decide_eq_true_eq] at *; exact List.le_trans h1 h2
    have tot : ∀ a b : List UInt8, (leB a b || leB b a) = true := fun a b => by simp only [leB, Bool.or_eq_true, decide_eq_true_eq]; exact List.le_total a b
    have h1 := List.pairwise_mergeSort tr tot (keysOf m)
    have h2 : ((keysOf m).mergeSort leB).Nodup := (List.mergeSort_perm _ leB).nodup_iff.2 (by
      rw [keysOf_eq]
      exact List.pairwise_map.2 (h.nodup.imp fun {a b} hne e => hne (bytes_ext e)))
    have h2 : ((keysOf m).mergeSort leB).Pairwise fun a b => a ≠ b := h2
    refine List.pairwise_map.2 ((h1.and h2).imp fun {a b} ⟨q1, q2⟩ => ?_)
    unfold lt
    show a.toArray.toList < b.toArray.toList
    rw [List.toList_toArray, List.toList_toArray]
    simp only [leB, decide_eq_true_eq] at q1
    rcases List.le_iff_lt_or_eq.1 q1 with z | z
    · exact z
    · exact absurd z q2
  · rw [List.mem_map]
    constructor
    · rintro ⟨x, hx, rfl⟩
      have hx := (List.mergeSort_perm _ leB).mem_iff.1 hx
      rw [keysOf_eq] at hx
      obtain ⟨s, hs', rfl⟩ := List.mem_map.1 hx
      have e : (⟨s.data.toList.toArray⟩ : ByteArray) = s := mkB_of s
      rw [e]; exact (h.mem s).1 hs'
    · intro hq
      exact ⟨y.data.toList, (List.mergeSort_perm _ leB).mem_iff.2 (by rw [keysOf_eq]; exact List.mem_map_of_mem (f := fun s : ByteArray => s.data.toList) ((h.mem y).2 hq)), mkB_of y⟩
  · rw [List.length_map, (List.mergeSort_perm _ leB).length_eq]
    unfold keysOf
    rw [List.length_map]; exact hl
theorem paths_spec (Ls : List (List File)) (hl : Ls.length ≤ 3) (hL : ∀ L ∈ Ls, L.length ≤ 1000 ∧ ∀ x ∈ L, x.1.size ≤ 200) : Fink (fun k => S45 k (Ls, ())) (fun r => AscS r ∧ (∀ y, y ∈ r ↔ ∃ L ∈ Ls, inF L y = true) ∧ r.length ≤ 1000 * Ls.length) := by
  unfold S45
  refine Fin.forA (A := List (ByteArray × Bool)) (fun _ => Nat.le_refl _) Ls.length (fun m j => ((j : Int), m)) (fun m j => PM m (fun y => ∃ L ∈ Ls.take j, inF L y = true) (1000 * j)) [] ⟨by simp [keysM], fun y => by simp [keysM], by simp⟩ fun m j hj hm next => ?_
  dsimp only
  rw [iltL]
  by_cases hlt : j < Ls.length
  · refine Fin.ite (fun _ => ?_) (fun q => by rw [decide_eq_true hlt] at q; cases q)
    refine Fin.bindc (at?_nat hlt) ?_
    obtain ⟨hlen, hsz⟩ := hL _ (List.getElem_mem hlt)
    refine Fin.forA (A := List (ByteArray × Bool)) (lp_le _ _ fun _ => Nat.le_refl _) Ls[j].length (fun m i => ((i : Int), m)) (fun m i => PM m (fun y => (∃ L ∈ Ls.take j, inF L y = true) ∨ inF (Ls[j].take i) y = true) (1000 * j + i)) m (hm.congr (fun y => by simp [inF_nil]) (by omega)) fun m2 i hi hm2 next2 => ?_
    dsimp only
    rw [iltL]
    by_cases hlu : i < Ls[j].length
    · refine Fin.ite (fun _ => ?_) (fun q => by rw [decide_eq_true hlu] at q; cases q)
      refine Fin.bindc (at?_nat hlu) ?_
      rw [isucc hlu (by omega)]
      refine next2 _ hlu ((hm2.put _ true).congr (fun y => ?_) (by omega))
      rw [inF_take' hlu]
      exact or_left_comm
    · refine Fin.ite (fun q => by rw [decide_eq_false hlu] at q; cases q) (fun _ => ?_)
      rw [show Ls[j].take i = Ls[j] from List.take_of_length_le (by omega)] at hm2
      rw [isucc hlt (by omega)]
      refine (next _ hlt (hm2.congr (fun y => ?_) (by omega))).lift
      rw [List.take_succ_eq_append_getElem hlt]
      constructor
      · rintro (⟨L, q1, q2⟩ | q)
        · exact ⟨L, List.mem_append_left _ q1, q2⟩
        · exact ⟨_, List.mem_append_right _ (List.mem_singleton.2 rfl), q⟩
      · rintro ⟨L, q1, q2⟩
        rcases List.mem_append.1 q1 with q | q
        · exact .inl ⟨L, q, q2⟩
        · rw [List.mem_singleton.1 q] at q2; exact .inr q2
  · refine Fin.ite (fun q => by rw [decide_eq_false hlt] at q; cases q) (fun _ => ?_)
    rw [List.take_of_length_le (by omega)] at hm
    obtain ⟨r, r1, r2, r3, r4⟩ := sortedKeys_spec hm (by omega) (fun y ⟨L, hL', hy⟩ => by
      obtain ⟨x, hx, rfl⟩ := inF_iff.1 hy
      exact (hL L hL').2 x hx)
    refine Fin.bindu (a := some m) ⟨0, fun _ _ => rfl⟩ (Fin.bindu (a := r) ⟨0, fun _ _ => r1⟩ (Fin.ret ⟨r2, r3, by omega⟩))
noncomputable def upsD (a b c : List File) : List ByteArray := Classical.epsilon (Ups a b c)
theorem upsD_spec {a b c : List File} (ha : a.length ≤ 1000) (hb : b.length ≤ 1000) (hc : c.length ≤ 1000) : Ups a b c (upsD a b c) := by
  obtain ⟨r, hr, _⟩ := pathsR_spec a b c ha hb hc
  exact Classical.epsilon_spec ⟨r, hr⟩
theorem pathsR_ups {a b c : List File} (ha : a.length ≤ 1000) (hb : b.length ≤ 1000) (hc : c.length ≤ 1000) : Ultk (fun k => S46 k (a, b, c, ())) (upsD a b c) := by
  obtain ⟨r, hr, h⟩ := pathsR_spec a b c ha hb hc
  rw [(upsD_spec ha hb hc).unique hr]; exact h
theorem paths2_ups {a b : List File} (ha : a.length ≤ 1000 ∧ ∀ x ∈ a, x.1.size ≤ 200) (hb : b.length ≤ 1000 ∧ ∀ x ∈ b, x.1.size ≤ 200) : Ultk (fun k => S45 k ([a, b], ())) (upsD a b []) := by
  obtain ⟨r, ⟨r1, r2, r3⟩, h⟩ := paths_spec [a, b] (by simp) (fun L hL => by
    rcases List.mem_cons.1 hL with rfl | hL
    · exact ha
    · rw [List.mem_singleton] at hL; rw [hL]; exact hb)
  have e : upsD a b [] = r := (upsD_spec ha.1 hb.1 (by simp)).asc.unique r1 fun y => by
    rw [(upsD_spec ha.1 hb.1 (by simp)).mem, r2]
    simp [inF_nil]
  rw [e]; exact h
theorem paths3_ups {a b c : List File} (ha : a.length ≤ 1000 ∧ ∀ x ∈ a, x.1.size ≤ 200) (hb : b.length ≤ 1000 ∧ ∀ x ∈ b, x.1.size ≤ 200) (hc : c.length ≤ 1000 ∧ ∀ x ∈ c, x.1.size ≤ 200) : Ultk (fun k => S45 k ([a, b, c], ())) (upsD a b c) := by
  obtain ⟨r, ⟨r1, r2, r3⟩, h⟩ := paths_spec [a, b, c] (by simp) (fun L hL => by
    rcases List.mem_cons.1 hL with rfl | hL
    · exact ha
    rcases List.mem_cons.1 hL with rfl | hL
    · exact hb
    · rw [List.mem_singleton] at hL; rw [hL]; exact hc)
  have e : upsD a b c = r := (upsD_spec ha.1 hb.1 hc.1).asc.unique r1 fun y => by
    rw [(upsD_spec ha.1 hb.1 hc.1).mem, r2]
    simp
  rw [e]; exact h
/-! ### a file by its path -/
def z0 : File := (⟨#[]⟩, false, [])
def findF (L : List File) (p : ByteArray) : Option File := L.find? fun x => decide (x.1 = p)
theorem findF_some {L : List File} {p : ByteArray} {x : File} (h : findF L p = some x) : x ∈ L ∧ x.1 = p := ⟨List.mem_of_find?_eq_some h, by simpa using List.find?_some h⟩
theorem findF_isS (L : List File) (p : ByteArray) : isS (findF L p) = inF L p := by
  unfold isS findF inF
  rw [Bool.eq_iff_iff, List.find?_isSome, List.any_eq_true]
theorem findF_none {L : List File} {p : ByteArray} (h : ∀ x ∈ L, x.1 ≠ p) : findF L p = none := List.find?_eq_none.2 fun x hx => by simp [h x hx]
theorem findF_cons (x : File) (L : List File) (p : ByteArray) : findF (x :: L) p = if x.1 = p then some x else findF L p := by
  unfold findF
  rw [List.find?_cons]
  by_cases h : x.1 = p <;> simp [h]
theorem findF_get {L : List File} (hA : Asc L) : ∀ {x : File}, x ∈ L → findF L x.1 = some x := by
  induction L with
  | nil => intro x hx; cases hx
  | cons y L ih =>
    intro x hx
    rw [findF_cons]
    have hp : (y :: L).Pairwise fun p q : File => lt p.1 q.1 := hA
    rcases List.mem_cons.1 hx with rfl | hx
    · rw [if_pos rfl]
    · have := (List.pairwise_cons.1 hp).1 x hx
      rw [if_neg (fun e => by rw [e] at this; exact lt_irrefl _ this)]
      exact ih (List.pairwise_cons.1 hp).2 hx
theorem findF_take {L : List File} (hA : Asc L) {j : Nat} (h : j < L.length) (p : ByteArray) : findF (L.take (j + 1)) p = if p = L[j].1 then some L[j] else findF (L.take j) p := by
  by_cases e : p = L[j].1
  · rw [if_pos e, e]
    refine findF_get (List.Pairwise.sublist (List.take_sublist _ _) hA) ?_
    rw [List.take_succ_eq_append_getElem h]; exact List.mem_append_right _ (List.mem_singleton.2 rfl)
  · rw [if_neg e]
    unfold findF
    rw [List.take_succ_eq_append_getElem h, List.find?_append]
    have : [L[j]].find? (fun x => decide (x.1 = p)) = none := by simp [Ne.symm e]
    rw [this]; simp
theorem byPath_spec (L : List File) (hA : Asc L) (hl : L.length ≤ 1000) : Fink (fun k => S44 k (L, ())) (fun m => ∀ p, mget? keq m p = findF L p) := by
  unfold S44
  refine Fin.forA (A := List (ByteArray × File)) (fun _ => Nat.le_refl _) L.length (fun m j => ((j : Int), m)) (fun m j => ∀ p, mget? keq m p = findF (L.take j) p) [] (fun p => rfl) fun m j hj hm next => ?_
  dsimp only
  rw [iltL]
  by_cases hlt : j < L.length
  · refine Fin.ite (fun _ => ?_) (fun q => by rw [decide_eq_true hlt] at q; cases q)
    refine Fin.bindc (at?_nat hlt) ?_
    rw [isucc hlt (by omega)]
    refine next _ hlt fun p => ?_
    rw [mget_mput, hm, findF_take hA hlt]
  · refine Fin.ite (fun q => by rw [decide_eq_false hlt] at q; cases q) (fun _ => ?_)
    rw [List.take_of_length_le (by omega)] at hm
    exact Fin.ret hm
theorem find_spec (L : List File) (p : ByteArray) (hl : L.length ≤ 1000) : Ultk (fun k => S47 k (L, p, ())) (orD (findF L p) z0, isS (findF L p)) := by
  unfold S47
  refine (Ult.forA (A := Unit) (fun _ => Nat.le_refl _) L.length (fun _ j => ((j : Int), (⟨#[]⟩ : ByteArray), false, ([] : List Int))) (fun _ _ => True) (fun _ j => (orD (findF (L.drop j) p) z0, isS (findF (L.drop j) p))) () trivial fun _ j hj _ next => ?_).eq (by rw [List.drop_zero])
  dsimp only
  rw [iltL]
  by_cases hlt : j < L.length
  · refine Ult.yes (decide_eq_true hlt) (Ult.bindc (at?_nat hlt) ?_)
    rw [isucc hlt (by omega), drop_cons hlt, findF_cons, seq_eq]
    by_cases e : L[j].1 = p
    · rw [if_pos e]
      exact Ult.yes (decide_eq_true e) (Ult.bindc (at?_nat hlt) Ult.ret)
    · rw [if_neg e]
      exact Ult.no (decide_eq_false e) (next () hlt trivial)
  · refine Ult.no (decide_eq_false hlt) (Ult.ret.eq ?_)
    rw [List.drop_eq_nil_of_le (by omega)]; rfl
end Go.Proofs.YtcppmncmlhibhaaDoor.Ev

namespace Go.Proofs.YtcppmncmlhibhaaDoor.Ev
open Go Go.RowKit Go.Sort
set_option linter.unusedVariables false
set_option linter.unusedSimpArgs false
variable {ι R α β X A : Type} {l : ι → Nat} {Q : R → Prop}
/-- how a file differs -/
def kindD (x y : Option File) : Int := if isS x = false then 1 else if isS y = false then 2 else if strOf (orD x z0).2.2 ≠ strOf (orD y z0).2.2 then 3 else if (orD x z0).2.1 ≠ (orD y z0).2.1 then 4 else 0
def chL (f g : ByteArray → Option File) (ps : List ByteArray) : List (ByteArray × Int) := (ps.filter fun p => decide (kindD (f p) (g p) ≠ 0)).map fun p => (p, kindD (f p) (g p))
theorem chL_succ {f g : ByteArray → Option File} {ps : List ByteArray} {j : Nat} (h : j < ps.length) : chL f g (ps.take (j + 1)) = chL f g (ps.take j) ++ (if kindD (f ps[j]) (g ps[j]) = 0 then [] else [(ps[j], kindD (f ps[j]) (g ps[j]))]) := by
  unfold chL
  rw [List.take_succ_eq_append_getElem h, List.filter_append, List.map_append]
  congr 1
  by_cases e : kindD (f ps[j]) (g ps[j]) = 0 <;> simp [e]
theorem chL_len {f g : ByteArray → Option File} {ps : List ByteArray} : (chL f g ps).length ≤ ps.length := by
  unfold chL; rw [List.length_map]; exact List.length_filter_le _ _
/-- Changes -/
noncomputable def chAns (a b : List File) : List (ByteArray × Int) × Int := if chkFiles a ≠ 0 then ([], chkFiles a) else if chkFiles b ≠ 0 then ([], chkFiles b) else (chL (findF a) (findF b) (upsD a b []), 0)
theorem sz_ok {L : List File} (h : chkFiles L = 0) : L.length ≤ 1000 ∧ ∀ x ∈ L, x.1.size ≤ 200 := by
  obtain ⟨l1, l2, l3, l4, l5, l6⟩ := chkFiles_ok h
  exact ⟨l1, fun x hx => (isPathD_size (l2 x hx)).2⟩
theorem asc_ok {L : List File} (h : chkFiles L = 0) : Asc L := (chkFiles_ok h).2.2.2.1
theorem bytesEq_spec (a b : List Int) : Ultk (fun k => S48 k (a, b, ())) (decide (strOf a = strOf b)) := ⟨0, fun _ _ => congrArg some (seq_eq _ _)⟩
theorem bne2_eq (a b : Bool) : bne2 a b = decide (a ≠ b) := by cases a <;> cases b <;> rfl
theorem changes_spec (a b : List File) : Ultk (fun k => S19 k (a, b, ())) (chAns a b) := by
  unfold S19 chAns
  refine Ult.bind (checkFiles_spec a) (Ult.ifS (ine_eq _ _) (fun _ => Ult.ret) fun h0 => ?_)
  refine Ult.bind (checkFiles_spec b) (Ult.ifS (ine_eq _ _) (fun _ => Ult.ret) fun h1 => ?_)
  have h0 := Decidable.not_not.1 h0
  have h1 := Decidable.not_not.1 h1
  have ha := sz_ok h0
  have hb := sz_ok h1
  obtain ⟨m, hm, um⟩ := byPath_spec a (asc_ok h0) ha.1
  obtain ⟨n, hn, un⟩ := byPath_spec b (asc_ok h1) hb.1
  refine Ult.bind um (Ult.bind un (Ult.bind (paths2_ups ha hb) ?_))
  have hu := (upsD_spec ha.1 hb.1 (show ([] : List File).length ≤ 1000 by simp)).len
  generalize upsD a b [] = P at *
  simp only [List.length_nil, Nat.add_zero] at hu
  refine Ult.forA (A := List (ByteArray × Int)) (fun _ => Nat.le_refl _) P.length (fun r j => (r, (j : Int))) (fun r j => r = chL (findF a) (findF b) (P.take j)) (fun _ _ => (chL (findF a) (findF b) P, 0)) [] (by simp [chL]) fun r j hj hr next => ?_
  dsimp only
  rw [iltL]
  have hrl : r.length ≤ P.length := by
    rw [hr]
    have := chL_len (f := findF a) (g := findF b) (ps := P.take j)
    rw [List.length_take] at this; omega
  by_cases hlt : j < P.length
  · refine Ult.yes (decide_eq_true hlt) (Ult.bindc (at?_nat hlt) (Ult.jn ?_))
    dsimp only
    rw [hm, hn, isucc hlt (by omega)]
    have hst := chL_succ (f := findF a) (g := findF b) hlt
    have e1 : bnot (isS (findF a P[j])) = decide (isS (findF a P[j]) = false) := by cases isS (findF a P[j]) <;> rfl
    have e2 : bnot (isS (findF b P[j])) = decide (isS (findF b P[j]) = false) := by cases isS (findF b P[j]) <;> rfl
    rw [e1, e2, sne_eq, bne2_eq]
    unfold kindD at hst
    by_cases c1 : isS (findF a P[j]) = false
    · rw [if_pos c1] at hst
      exact Ult.yes (decide_eq_true c1) (Ult.bindc (app?_ok (by show (r.length + 1) * 24 ≤ _; omega)) (next _ hlt (by rw [hst, if_neg (by decide), hr])))
    rw [if_neg c1] at hst
    refine Ult.no (decide_eq_false c1) ?_
    by_cases c2 : isS (findF b P[j]) = false
    · rw [if_pos c2] at hst
      exact Ult.yes (decide_eq_true c2) (Ult.bindc (app?_ok (by show (r.length + 1) * 24 ≤ _; omega)) (next _ hlt (by rw [hst, if_neg (by decide), hr])))
    rw [if_neg c2] at hst
    refine Ult.no (decide_eq_false c2) ?_
    by_cases c3 : strOf (orD (findF a P[j]) z0).2.2 ≠ strOf (orD (findF b P[j]) z0).2.2
    · rw [if_pos c3] at hst
      exact Ult.yes (decide_eq_true c3) (Ult.bindc (app?_ok (by show (r.length + 1) * 24 ≤ _; omega)) (next _ hlt (by rw [hst, if_neg (by decide), hr])))
    rw [if_neg c3] at hst
    refine Ult.no (decide_eq_false c3) ?_
    by_cases c4 : (orD (findF a P[j]) z0).2.1 ≠ (orD (findF b P[j]) z0).2.1
    · rw [if_pos c4] at hst
      exact Ult.yes (decide_eq_true c4) (Ult.bindc (app?_ok (by show (r.length + 1) * 24 ≤ _; omega)) (next _ hlt (by rw [hst, if_neg (by decide), hr])))
    rw [if_neg c4] at hst
    refine Ult.no (decide_eq_false c4) (next _ hlt ?_)
    rw [hst, if_pos rfl, List.append_nil, hr]
  · refine Ult.no (decide_eq_false hlt) (Ult.ret.eq ?_)
    rw [hr, List.take_of_length_le (by omega)]
theorem changesR_spec (a b : List File) : Ultk (fun k => S20 k (a, b, ())) (chAns a b) := by
  unfold S20 chAns
  refine Ult.bind (checkFilesR_spec a) (Ult.ifS (ine_eq _ _) (fun _ => Ult.ret) fun h0 => ?_)
  refine Ult.bind (checkFilesR_spec b) (Ult.ifS (ine_eq _ _) (fun _ => Ult.ret) fun h1 => ?_)
  have h0 := Decidable.not_not.1 h0
  have h1 := Decidable.not_not.1 h1
  have ha := sz_ok h0
  have hb := sz_ok h1
  refine Ult.bind (pathsR_ups ha.1 hb.1 (show ([] : List File).length ≤ 1000 by simp)) ?_
  have hu := (upsD_spec ha.1 hb.1 (show ([] : List File).length ≤ 1000 by simp)).len
  generalize upsD a b [] = P at *
  simp only [List.length_nil, Nat.add_zero] at hu
  refine Ult.forA (A := List (ByteArray × Int)) (fun _ => Nat.le_refl _) P.length (fun r j => (r, (j : Int))) (fun r j => r = chL (findF a) (findF b) (P.take j)) (fun _ _ => (chL (findF a) (findF b) P, 0)) [] (by simp [chL]) fun r j hj hr next => ?_
  dsimp only
  rw [iltL]
  have hrl : r.length ≤ P.length := by
    rw [hr]
    have := chL_len (f := findF a) (g := findF b) (ps := P.take j)
    rw [List.length_take] at this; omega
  by_cases hlt : j < P.length
  · refine Ult.yes (decide_eq_true hlt) (Ult.bindc (at?_nat hlt) ?_)
    have hfa := Ult.call (l := lp fun k : Nat => k) (k := fun q => q.1) (f := fun k => S47 k (a, P[j], ())) (lp_le _ _ fun _ => Nat.le_refl _) (find_spec a P[j] ha.1)
    have hfb := Ult.call (l := lp fun k : Nat => k) (k := fun q => q.1) (f := fun k => S47 k (b, P[j], ())) (lp_le _ _ fun _ => Nat.le_refl _) (find_spec b P[j] hb.1)
    refine Ult.bind hfa (Ult.bindc (at?_nat hlt) (Ult.bind hfb (Ult.jn ?_)))
    dsimp only
    rw [isucc hlt (by omega)]
    have hst := chL_succ (f := findF a) (g := findF b) hlt
    have e1 : bnot (isS (findF a P[j])) = decide (isS (findF a P[j]) = false) := by cases isS (findF a P[j]) <;> rfl
    have e2 : bnot (isS (findF b P[j])) = decide (isS (findF b P[j]) = false) := by cases isS (findF b P[j]) <;> rfl
    rw [e1, e2, bne2_eq]
    unfold kindD at hst
    by_cases c1 : isS (findF a P[j]) = false
    · rw [if_pos c1] at hst
      exact Ult.yes (decide_eq_true c1) (Ult.yes rfl (Ult.bindc (at?_nat hlt) (Ult.bindc (app?_ok (by show (r.length + 1) * 24 ≤ _; omega)) (next _ hlt (by rw [hst, if_neg (by decide), hr])))))
    rw [if_neg c1] at hst
    refine Ult.no (decide_eq_false c1) ?_
    by_cases c2 : isS (findF b P[j]) = false
    · rw [if_pos c2] at hst
      exact Ult.yes (decide_eq_true c2) (Ult.yes rfl (Ult.bindc (at?_nat hlt) (Ult.bindc (app?_ok (by show (r.length + 1) * 24 ≤ _; omega)) (next _ hlt (by rw [hst, if_neg (by decide), hr])))))
    rw [if_neg c2] at hst
    refine Ult.no (decide_eq_false c2) ?_
    have heq := Ult.call (l := lp fun k : Nat => k) (k := fun q => q.1) (f := fun k => S48 k ((orD (findF a P[j]) z0).2.2, (orD (findF b P[j]) z0).2.2, ())) (lp_le _ _ fun _ => Nat.le_refl _) (bytesEq_spec (orD (findF a P[j]) z0).2.2 (orD (findF b P[j]) z0).2.2)
    refine Ult.bind heq ?_
    by_cases c3 : strOf (orD (findF a P[j]) z0).2.2 ≠ strOf (orD (findF b P[j]) z0).2.2
    · rw [if_pos c3] at hst
      exact Ult.yes (by rw [decide_eq_false c3]; rfl) (Ult.yes rfl (Ult.bindc (at?_nat hlt) (Ult.bindc (app?_ok (by show (r.length + 1) * 24 ≤ _; omega)) (next _ hlt (by rw [hst, if_neg (by decide), hr])))))
    rw [if_neg c3] at hst
    refine Ult.no (by rw [decide_eq_true (Decidable.not_not.1 c3)]; rfl) ?_
    by_cases c4 : (orD (findF a P[j]) z0).2.1 ≠ (orD (findF b P[j]) z0).2.1
    · rw [if_pos c4] at hst
      exact Ult.yes (decide_eq_true c4) (Ult.yes rfl (Ult.bindc (at?_nat hlt) (Ult.bindc (app?_ok (by show (r.length + 1) * 24 ≤ _; omega)) (next _ hlt (by rw [hst, if_neg (by decide), hr])))))
    rw [if_neg c4] at hst
    refine Ult.no (decide_eq_false c4) (Ult.no rfl (next _ hlt ?_))
    rw [hst, if_pos rfl, List.append_nil, hr]
  · refine Ult.no (decide_eq_false hlt) (Ult.ret.eq ?_)
    rw [hr, List.take_of_length_le (by omega)]
end Go.Proofs.YtcppmncmlhibhaaDoor.Ev

namespace Go.Proofs.YtcppmncmlhibhaaDoor.Ev
open Go Go.RowKit Go.Sort
set_option linter.unusedVariables false
set_option linter.unusedSimpArgs false
variable {ι R α β X A : Type} {l : ι → Nat} {Q : R → Prop}
theorem kbeq_tc (a b : ByteArray × Int) : kbeq (.agg (.pair .str (.int .i64))) a b = decide (a = b) := by
  show (seq a.1 b.1 && (a.2 == b.2)) = _
  rw [seq_eq]
  by_cases h1 : a.1 = b.1 <;> by_cases h2 : a.2 = b.2 <;> simp [h1, h2, Prod.ext_iff]
theorem chAns_len {a b : List File} : (chAns a b).1.length ≤ 3000 := by
  unfold chAns
  split
  · simp
  rename_i h0
  split
  · simp
  rename_i h1
  have ha := (sz_ok (Decidable.not_not.1 h0)).1
  have hb := (sz_ok (Decidable.not_not.1 h1)).1
  have hu := (upsD_spec ha hb (show ([] : List File).length ≤ 1000 by simp)).len
  have := chL_len (f := findF a) (g := findF b) (ps := upsD a b [])
  simp only [List.length_nil, Nat.add_zero] at hu
  show (chL (findF a) (findF b) (upsD a b [])).length ≤ _
  omega
theorem tcEq_spec (L : List (ByteArray × Int)) (hl : L.length ≤ 3000) : Ultk (fun k => S21 k (L, L, ())) true := by
  unfold S21
  refine Ult.no (ine_self _) ?_
  refine Ult.forI (fun _ => Nat.le_refl _) L.length (fun _ => true) fun j hj next => ?_
  rw [iltL]
  by_cases hlt : j < L.length
  · refine Ult.yes (decide_eq_true hlt) (Ult.bindc (at?_nat hlt) (Ult.bindc (at?_nat hlt) ?_))
    rw [isucc hlt (by omega), kbeq_tc]
    exact Ult.no (by rw [decide_eq_true rfl]; rfl) (next hlt)
  · exact Ult.no (decide_eq_false hlt) Ult.ret
/-! ### the other way round -/
def swapK (n : Int) : Int := if n = 1 then 2 else if n = 2 then 1 else n
theorem kindD_swap {x y : Option File} (h : isS x = true ∨ isS y = true) : kindD y x = swapK (kindD x y) := by
  unfold kindD swapK
  cases x with
  | none =>
    cases y with
    | none => simp [isS] at h
    | some y => simp [isS]
  | some x =>
    cases y with
    | none => simp [isS]
    | some y =>
      simp only [isS, Option.isSome_some, Bool.true_eq_false, if_false, orD, Option.getD_some]
      by_cases c1 : strOf x.2.2 = strOf y.2.2
      · by_cases c2 : x.2.1 = y.2.1
        · simp [c1, c2]
        · simp [c1, c2, Ne.symm c2]
      · simp [c1, Ne.symm c1]
theorem ups_swap {a b : List File} (ha : a.length ≤ 1000) (hb : b.length ≤ 1000) : upsD b a [] = upsD a b [] := by
  have h1 := upsD_spec ha hb (show ([] : List File).length ≤ 1000 by simp)
  have h2 := upsD_spec hb ha (show ([] : List File).length ≤ 1000 by simp)
  refine h2.asc.unique h1.asc fun y => ?_
  rw [h1.mem, h2.mem]
  exact or_left_comm
theorem chL_swap {f g : ByteArray → Option File} {ps : List ByteArray} (h : ∀ p ∈ ps, isS (f p) = true ∨ isS (g p) = true) : chL g f ps = (chL f g ps).map fun x => (x.1, swapK x.2) := by
  unfold chL
  rw [List.map_map]
  have e : ps.filter (fun p => decide (kindD (g p) (f p) ≠ 0)) = ps.filter fun p => decide (kindD (f p) (g p) ≠ 0) := by
    refine List.filter_congr fun p hp => ?_
    rw [kindD_swap (h p hp), decide_eq_decide]
    unfold swapK
    split
    · rename_i q; rw [q]; decide
    · split
      · rename_i q; rw [q]; decide
      · exact Iff.rfl
  rw [e]
  refine List.map_congr_left fun p hp => ?_
  show (p, _) = (p, _)
  rw [kindD_swap (h p (List.mem_filter.1 hp).1)]
theorem kindD_zero {x y : Option File} : kindD x y = 0 ↔ isS x = true ∧ isS y = true ∧ strOf (orD x z0).2.2 = strOf (orD y z0).2.2 ∧ (orD x z0).2.1 = (orD y z0).2.1 := by
  unfold kindD
  by_cases c1 : isS x = false
  · rw [if_pos c1]; simp [c1]
  rw [if_neg c1]
  by_cases c2 : isS y = false
  · rw [if_pos c2]; simp [c2]
  rw [if_neg c2]
  by_cases c3 : strOf (orD x z0).2.2 ≠ strOf (orD y z0).2.2
  · rw [if_pos c3]; simp [c3]
  rw [if_neg c3]
  by_cases c4 : (orD x z0).2.1 ≠ (orD y z0).2.1
  · rw [if_pos c4]; simp [c4]
  rw [if_neg c4]
  simp only [true_iff]
  exact ⟨by simpa using c1, by simpa using c2, Decidable.not_not.1 c3, Decidable.not_not.1 c4⟩
theorem sameFs_iff {A B : List File} : sameFs A B = true ↔ A.length = B.length ∧ ∀ i (h1 : i < A.length) (h2 : i < B.length), sameF A[i] B[i] = true := by
  unfold sameFs
  rw [Bool.and_eq_true, decide_eq_true_eq, List.all_eq_true]
  refine and_congr_right fun hl => ⟨fun h i h1 h2 => ?_, fun h i hi => ?_⟩
  · have := h i (List.mem_range.2 h1)
    rw [List.getD_eq_getElem?_getD, List.getD_eq_getElem?_getD, List.getElem?_eq_getElem h1, List.getElem?_eq_getElem h2] at this
    exact this
  · have h1 := List.mem_range.1 hi
    have h2 : i < B.length := by omega
    rw [List.getD_eq_getElem?_getD, List.getD_eq_getElem?_getD, List.getElem?_eq_getElem h1, List.getElem?_eq_getElem h2]
    exact h i h1 h2
theorem sameF_iff {x y : File} : sameF x y = true ↔ x.1 = y.1 ∧ x.2.1 = y.2.1 ∧ strOf x.2.2 = strOf y.2.2 := by
  unfold sameF; simp [and_assoc]
/-- two trees are the same if no path tells them apart -/
theorem same_of_find {a b : List File} (ha : Asc a) (hb : Asc b) (h : ∀ p, inF a p = true ∨ inF b p = true → kindD (findF a p) (findF b p) = 0) : sameFs a b = true := by
  have e : a.map (·.1) = b.map (·.1) := by
    refine AscS.unique (List.pairwise_map.2 ha) (List.pairwise_map.2 hb) fun y => ?_
    have hm : ∀ L : List File, y ∈ L.map (·.1) ↔ inF L y = true := fun L => by rw [inF_iff]; simp [eq_comm]
    rw [hm, hm]
    constructor
    · intro q
      have := (kindD_zero.1 (h y (.inl q))).2.1
      rw [findF_isS] at this; exact this
    · intro q
      have := (kindD_zero.1 (h y (.inr q))).1
      rw [findF_isS] at this; exact this
  have hl : a.length = b.length := by simpa using congrArg List.length e
  refine sameFs_iff.2 ⟨hl, fun i h1 h2 => ?_⟩
  have ep : a[i].1 = b[i].1 := by
    have := congrArg (fun l => l[i]?) e
    simpa [h1, h2] using this
  have hk := kindD_zero.1 (h a[i].1 (.inl (inF_iff.2 ⟨_, List.getElem_mem h1, rfl⟩)))
  rw [findF_get ha (List.getElem_mem h1)] at hk
  rw [ep, findF_get hb (List.getElem_mem h2)] at hk
  exact sameF_iff.2 ⟨ep, hk.2.2.2, hk.2.2.1⟩
theorem find_of_same {a b : List File} (h : sameFs a b = true) (p : ByteArray) (hp : inF a p = true ∨ inF b p = true) : kindD (findF a p) (findF b p) = 0 := by
  obtain ⟨hl, hs⟩ := sameFs_iff.1 h
  clear h
  induction a generalizing b with
  | nil =>
    have : b = [] := List.eq_nil_of_length_eq_zero hl.symm
    subst this
    simp [inF_nil] at hp
  | cons x a ih =>
    cases b with
    | nil => simp at hl
    | cons y b =>
      have h0 := sameF_iff.1 (hs 0 (by simp) (by simp))
      simp only [List.getElem_cons_zero] at h0
      rw [findF_cons, findF_cons, ← h0.1]
      by_cases c : x.1 = p
      · rw [if_pos c, if_pos c]
        exact kindD_zero.2 ⟨rfl, rfl, h0.2.2, h0.2.1⟩
      · rw [if_neg c, if_neg c]
        refine ih (b := b) ?_ (by simpa using hl) fun i h1 h2 => by
          have := hs (i + 1) (by simpa using h1) (by simpa using h2)
          simpa using this
        rw [inF_iff, inF_iff] at hp
        rw [inF_iff, inF_iff]
        rcases hp with ⟨z, hz, e⟩ | ⟨z, hz, e⟩
        · rcases List.mem_cons.1 hz with rfl | hz
          · exact absurd e c
          · exact .inl ⟨z, hz, e⟩
        · rcases List.mem_cons.1 hz with rfl | hz
          · exact absurd (h0.1.trans e) c
          · exact .inr ⟨z, hz, e⟩
theorem chL_nil_iff {a b : List File} (ha : Asc a) (hb : Asc b) (hla : a.length ≤ 1000) (hlb : b.length ≤ 1000) : chL (findF a) (findF b) (upsD a b []) = [] ↔ sameFs a b = true := by
  have hu := upsD_spec hla hlb (show ([] : List File).length ≤ 1000 by simp)
  have hm : ∀ y, y ∈ upsD a b [] ↔ inF a y = true ∨ inF b y = true := fun y => by rw [hu.mem]; simp [inF_nil]
  unfold chL
  rw [List.map_eq_nil_iff, List.filter_eq_nil_iff]
  constructor
  · intro h
    refine same_of_find ha hb fun p hp => ?_
    have := h p ((hm p).2 hp)
    simpa using this
  · intro h p hp
    simp [find_of_same h p ((hm p).1 hp)]
end Go.Proofs.YtcppmncmlhibhaaDoor.Ev

namespace Go.Proofs.YtcppmncmlhibhaaDoor.Ev
open Go Go.RowKit
set_option linter.unusedVariables false
set_option linter.unusedSimpArgs false
variable {ι R α X : Type} {l : ι → Nat}
abbrev MapB := List (ByteArray × Bool)
def addL (t : MapB) (l : List File) : MapB := l.foldl (fun t x => mput keq t x.1 true) t
theorem addL_app (t : MapB) (a b : List File) : addL t (a ++ b) = addL (addL t a) b := List.foldl_append
theorem merge1_spec (h t : MapB) (x : File) (p : Bool) (hc : Ultk (fun k => S63 k (h, x.1, ())) p) : Ultk (fun k => SX62 k (h, t) (x, ())) (p, h, if p = true then mput keq t x.1 true else t) := by
  unfold SX62
  refine Ult.bind hc ?_
  cases p
  · exact Ult.no rfl Ult.ret
  · exact Ult.yes rfl Ult.ret
theorem idxX_spec (L : List File) (h t : MapB) (p : File → Bool) (hc : ∀ x ∈ L, Ultk (fun k => S63 k (h, x.1, ())) (p x)) (hL : L.length ≤ 9223372036854775807) :
    Ultk (fun k => SX90 k (h, t) (L, ())) (idxF p 0 L, h, addL t (L.find? p).toList) := by
  unfold SX90
  refine (Ult.forA (A := Unit) (fun _ => Nat.le_refl _) L.length (fun _ j => ((j : Int), h, t)) (fun _ _ => True) (fun _ j => (idxF p j (L.drop j), h, addL t ((L.drop j).find? p).toList)) () trivial fun _ j hj _ next => ?_).eq (by rw [List.drop_zero])
  dsimp only
  rw [iltL]
  by_cases hlt : j < L.length
  · refine Ult.yes (decide_eq_true hlt) (Ult.bindc (at?_nat hlt) ?_)
    have hm := Ult.call (l := lp fun k : Nat => k) (k := fun q => q.1) (f := fun k => SX62 k (h, t) (L[j], ())) (lp_le _ _ fun _ => Nat.le_refl _) (merge1_spec h t L[j] (p L[j]) (hc _ (List.getElem_mem hlt)))
    refine Ult.bind hm ?_
    rw [isucc hlt hL, drop_cons hlt, idxF, List.find?_cons]
    cases hp : p L[j]
    · refine Ult.no rfl ((next () hlt trivial).eq ?_)
      simp
    · exact Ult.yes rfl (Ult.ret.eq (by simp [addL]))
  · refine Ult.no (decide_eq_false hlt) (Ult.ret.eq ?_)
    rw [List.drop_eq_nil_of_le (by omega)]; rfl
/-- slices.DeleteFunc with the closure that tells -/
theorem deleteX_spec (L : List File) (h t : MapB) (p : File → Bool) (hc : ∀ x ∈ L, Ultk (fun k => S63 k (h, x.1, ())) (p x)) (hL : L.length ≤ 9223372036854775807) :
    Ultk (fun k => SX54 k (h, t) (L, ())) (L.filter (fun a => !p a), h, addL t (L.filter p)) := by
  unfold SX54
  refine Ult.bind (idxX_spec L h t p hc hL) ?_
  rcases idxF_cases p 0 L with ⟨h1, h2⟩ | ⟨i, hi, h1, h2, h3⟩
  · rw [h1]
    refine Ult.yes rfl (Ult.ret.eq ?_)
    have h3 := List.find?_eq_none.1 h2
    rw [h2, List.filter_eq_self.2 (fun a ha => by simpa using h3 a ha), List.filter_eq_nil_iff.2 (fun a ha => by simpa using h3 a ha)]
    rfl
  · have hmin := idxF_min L 0 i h1
    rw [Nat.zero_add] at h1
    rw [h1, h2]
    dsimp only
    refine Ult.no (by rw [ieq_eq]; exact decide_eq_false (by omega)) ?_
    rw [isucc hi hL]
    have h0 : L.take i = (L.take (i + 1)).filter fun a => !p a := by
      rw [List.take_succ_eq_append_getElem hi, List.filter_append, List.filter_eq_self.2 fun a ha => by simp [hmin a ha]]
      simp [h3]
    have h0' : addL t (some L[i]).toList = addL t ((L.take (i + 1)).filter p) := by
      rw [List.take_succ_eq_append_getElem hi, List.filter_append, List.filter_eq_nil_iff.2 fun a ha => by simp [hmin a ha]]
      simp [h3]
    rw [h0']
    refine Ult.forA (A := Nat × List File × MapB) (fun _ => Nat.le_refl _) (L.length - (i + 1)) (fun a s => ((a.1 : Int), ((i + 1 + s : Nat) : Int), a.2.1, h, a.2.2)) (fun a t0 => a.2.2 = addL t ((L.take (i + 1 + t0)).filter p) ∧ a.2.1.length = L.length ∧ a.1 < i + 1 + t0 ∧ (a.2.1.take a.1 = (L.take (i + 1 + t0)).filter fun a => !p a) ∧ a.2.1.drop (i + 1 + t0) = L.drop (i + 1 + t0)) (fun _ _ => (L.filter (fun a => !p a), h, addL t (L.filter p))) (i, L, addL t ((L.take (i + 1)).filter p)) ⟨rfl, rfl, by omega, h0, rfl⟩ fun a s hs ⟨ha0, ha1, ha2, ha3, ha4⟩ next => ?_
    obtain ⟨m, a, td⟩ := a
    dsimp only at ha0 ha1 ha2 ha3 ha4 ⊢
    obtain ⟨j, hj⟩ : ∃ j, j = i + 1 + s := ⟨_, rfl⟩
    rw [← hj] at ha0 ha2 ha3 ha4 ⊢
    rw [iltL]
    have hml : m ≤ a.length := by omega
    by_cases hlt' : ¬ j < a.length
    · refine Ult.no (decide_eq_false hlt') ?_
      have hc1 : cut? a (m : Int) (len a) = some ((a.take a.length).drop m) := by
        unfold cut? len
        rw [if_pos ⟨by omega, by omega, Int.le_refl _⟩]
        simp
      have hc2 : cut? (clr ((⟨#[]⟩ : ByteArray), false, ([] : List Int)) a (m : Int) (len a)) 0 (m : Int) = some (a.take m) := by
        rw [cut?_take (by rw [clr_len]; exact hml)]
        congr 1
        refine List.ext_getElem (by simp [clr_len]) fun q q1 q2 => ?_
        simp only [List.length_take] at q1 q2
        rw [List.getElem_take, List.getElem_take, clr_get _ _ _ _ _ (by omega), if_neg (by simp; omega)]
      refine Ult.bindc hc1 (Ult.bindc hc2 (Ult.ret.eq ?_))
      rw [ha3, ha0, List.take_of_length_le (by omega)]
    have hlt : j < a.length := Decidable.not_not.1 hlt'
    have hjL : j < L.length := by omega
    have ej : a[j] = L[j] := by
      have := congrArg (fun l => l[0]?) ha4
      simpa [hlt, hjL] using this
    refine Ult.yes (decide_eq_true hlt) (Ult.bindc (inb_nat hlt) ?_)
    rw [gt_nat hlt, ej, isucc hjL hL]
    have hd1 : a.drop (j + 1) = L.drop (j + 1) := by
      have := congrArg (List.drop 1) ha4
      simpa [List.drop_drop, Nat.add_comm] using this
    have ht1 : (L.take (j + 1)).filter (fun a => !p a) = (L.take j).filter (fun a => !p a) ++ (if p L[j] = true then [] else [L[j]]) := by
      rw [List.take_succ_eq_append_getElem hjL, List.filter_append]
      cases hpj : p L[j] <;> simp [hpj]
    have ht2 : (L.take (j + 1)).filter p = (L.take j).filter p ++ (if p L[j] = true then [L[j]] else []) := by
      rw [List.take_succ_eq_append_getElem hjL, List.filter_append]
      cases hpj : p L[j] <;> simp [hpj]
    have hm := Ult.call (l := lp fun k : Nat => k) (k := fun q => q.1) (f := fun k => SX62 k (h, td) (L[j], ())) (lp_le _ _ fun _ => Nat.le_refl _) (merge1_spec h td L[j] (p L[j]) (hc _ (List.getElem_mem hjL)))
    refine Ult.bind hm ?_
    have e2 : i + 1 + (s + 1) = j + 1 := by omega
    cases hp : p L[j]
    · refine Ult.yes rfl (Ult.bindc (inb_nat (show m < a.length by omega)) ?_)
      rw [isucc (show m < a.length by omega) (by omega)]
      have := next (m + 1, setAt a (m : Int) (L[j].1, L[j].2.1, L[j].2.2), td) (by omega) ⟨by dsimp only; rw [e2, ht2, hp, ha0]; simp, by simp [setAt, ha1], by dsimp only; omega, ?_, ?_⟩
      · rw [e2] at this
        exact this
      · dsimp only
        rw [e2, ht1, hp, if_neg (by simp), ← ha3]
        unfold setAt
        rw [Int.toNat_natCast, List.take_succ_eq_append_getElem (by simpa using (show m < a.length by omega))]
        rw [List.take_set_of_le (Nat.le_refl _)]
        simp
      · dsimp only
        rw [e2]
        unfold setAt
        rw [Int.toNat_natCast, List.drop_set_of_lt (by omega)]
        exact hd1
    · refine Ult.no rfl ?_
      have := next (m, a, mput keq td L[j].1 true) (by omega) ⟨by dsimp only; rw [e2, ht2, hp, if_pos rfl, addL_app, ← ha0]; rfl, ha1, by dsimp only; omega, by dsimp only; rw [e2, ht1, hp, if_pos rfl, List.append_nil]; exact ha3, by dsimp only; rw [e2]; exact hd1⟩
      rw [e2] at this
      exact this
end Go.Proofs.YtcppmncmlhibhaaDoor.Ev

namespace Go.Proofs.YtcppmncmlhibhaaDoor.Ev
open Go Go.RowKit Go.Sort
set_option linter.unusedVariables false
set_option linter.unusedSimpArgs false
variable {ι R α β X A : Type} {l : ι → Nat} {Q : R → Prop}
/-- a loop by an index, the rounds that follow by a name -/
theorem Ult.forN {st : ι → (X → Option R) → X → Option R} {k : ι → Nat} (hk : ∀ i, l i ≤ k i) (n : Nat) (mk : A → Nat → X) (I : A → Nat → Prop) (res : A → Nat → R) (a0 : A) (h0 : I a0 0)
    (h : ∀ (N : (ι × Nat) → X → Option R) a j, j ≤ n → I a j → (∀ a', j < n → I a' (j + 1) → Ult (lp l) (fun p => N p (mk a' (j + 1))) (res a' (j + 1))) → Ult (lp l) (fun p => st p.1 (N p) (mk a j)) (res a j)) :
    Ult l (fun i => loopN (k i) (st i) (mk a0 0)) (res a0 0) := Ult.forA hk n mk I res a0 h0 fun a j hj hI next => h (fun p => loopN p.2 (st p.1)) a j hj hI next
/-- a file in two lists is the same, or in neither -/
def sameSp (x y : Option File) : Bool := (isS x == isS y) && (!isS x || (((orD x z0).2.1 == (orD y z0).2.1) && decide (strOf (orD x z0).2.2 = strOf (orD y z0).2.2)))
def takeD (x y z : Option File) : Option File := if sameSp y x = true then z else y
def toldD (x y z : Option File) : Bool := !sameSp y x && (!sameSp z x && !sameSp z y)
theorem spotSame_spec (x y : Option File) : Ultk (fun k => S61 k ((((orD x z0).1, (orD x z0).2.1, (orD x z0).2.2), isS x), (((orD y z0).1, (orD y z0).2.1, (orD y z0).2.2), isS y), ())) (sameSp x y) := by
  unfold S61 sameSp
  dsimp only
  cases hb : isS x == isS y with
  | false => exact Ult.no hb (Ult.ret.eq (by simp))
  | true =>
    refine Ult.yes hb ?_
    rw [Bool.true_and]
    cases hx : isS x with
    | false => exact Ult.yes rfl (Ult.ret.eq (by simp))
    | true =>
      refine Ult.no rfl (Ult.bind (a := ((orD x z0).2.1 == (orD y z0).2.1) && decide (strOf (orD x z0).2.2 = strOf (orD y z0).2.2)) ?_ (Ult.ret.eq (by simp)))
      unfold S94
      dsimp only
      cases hr : (orD x z0).2.1 == (orD y z0).2.1 with
      | true => exact Ult.yes hr (Ult.ret.eq (by rw [seq_eq, Bool.true_and]))
      | false => exact Ult.no hr (Ult.ret.eq (by rw [Bool.false_and]))
theorem spotOf_spec (m : List (ByteArray × File)) (p : ByteArray) (L : List File) (h : ∀ p, mget? keq m p = findF L p) : Ultk (fun k => S60 k (m, p, ())) (((orD (findF L p) z0).1, (orD (findF L p) z0).2.1, (orD (findF L p) z0).2.2), isS (findF L p)) := ⟨0, fun k _ => by
  unfold S60
  dsimp only
  rw [h]; rfl⟩
/-- what is taken, what is told -/
def mrgOut (f g h : ByteArray → Option File) (ps : List ByteArray) : List File := ps.filterMap fun p => takeD (f p) (g p) (h p)
def mrgTold (f g h : ByteArray → Option File) (ps : List ByteArray) : List ByteArray := ps.filter fun p => toldD (f p) (g p) (h p)
theorem mrgOut_succ {f g h : ByteArray → Option File} {ps : List ByteArray} {j : Nat} (hj : j < ps.length) : mrgOut f g h (ps.take (j + 1)) = mrgOut f g h (ps.take j) ++ (takeD (f ps[j]) (g ps[j]) (h ps[j])).toList := by
  unfold mrgOut
  rw [List.take_succ_eq_append_getElem hj, List.filterMap_append]
  congr 1
theorem mrgTold_succ {f g h : ByteArray → Option File} {ps : List ByteArray} {j : Nat} (hj : j < ps.length) : mrgTold f g h (ps.take (j + 1)) = mrgTold f g h (ps.take j) ++ (if toldD (f ps[j]) (g ps[j]) (h ps[j]) = true then [ps[j]] else []) := by
  unfold mrgTold
  rw [List.take_succ_eq_append_getElem hj, List.filter_append]
  congr 1
  cases hc : toldD (f ps[j]) (g ps[j]) (h ps[j]) <;> simp [hc]
theorem mrgOut_len {f g h : ByteArray → Option File} {ps : List ByteArray} : (mrgOut f g h ps).length ≤ ps.length := List.length_filterMap_le _ _
/-- files that stand under their own paths -/
def Named (f : ByteArray → Option File) : Prop := ∀ p x, f p = some x → x.1 = p
theorem findF_named (L : List File) : Named (findF L) := fun p x h => (findF_some h).2
theorem take_named {f g h : ByteArray → Option File} (hf : Named f) (hg : Named g) (hh : Named h) : Named fun p => takeD (f p) (g p) (h p) := fun p x hx => by
  have hx : (if sameSp (g p) (f p) = true then h p else g p) = some x := hx
  split at hx
  · exact hh p x hx
  · exact hg p x hx
theorem filterMap_asc {F : ByteArray → Option File} (hF : Named F) {ps : List ByteArray} (hp : AscS ps) : Asc (ps.filterMap F) := by
  have hp : ps.Pairwise lt := hp
  refine List.Pairwise.filterMap F (fun a b hab x hx y hy => ?_) hp
  rw [hF a x hx, hF b y hy]; exact hab
theorem mem_filterMapF {F : ByteArray → Option File} {ps : List ByteArray} {x : File} : x ∈ ps.filterMap F ↔ ∃ p ∈ ps, F p = some x := by simp [List.mem_filterMap]
/-- the paths that are told of -/
structure Tld (q : ByteArray → Prop) (r : List ByteArray) : Prop where
  asc : AscS r
  mem : ∀ y, y ∈ r ↔ q y
noncomputable def tldD (q : ByteArray → Prop) : List ByteArray := Classical.epsilon (Tld q)
theorem tldD_of {q : ByteArray → Prop} {r : List ByteArray} (h : Tld q r) : r = tldD q := by
  have h2 : Tld q (tldD q) := Classical.epsilon_spec ⟨r, h⟩
  exact h.asc.unique h2.asc fun y => (h.mem y).trans (h2.mem y).symm
def keepIn (out : List File) : List File := out.filter fun x => !inside out x.1
def goneIn (out : List File) : List File := out.filter fun x => inside out x.1
/-- what is told in all -/
def tells (f g h : ByteArray → Option File) (ps : List ByteArray) (y : ByteArray) : Prop := y ∈ mrgTold f g h ps ∨ ∃ x ∈ goneIn (mrgOut f g h ps), y = x.1
abbrev MrgR := List File × (List ByteArray × Int)
noncomputable def mrgFin (f g h : ByteArray → Option File) (ps : List ByteArray) : MrgR :=
  if chkFiles (keepIn (mrgOut f g h ps)) ≠ 0 then ([], [], chkFiles (keepIn (mrgOut f g h ps))) else (keepIn (mrgOut f g h ps), tldD (tells f g h ps), 0)
noncomputable def mergeAns (base a b : List File) : MrgR :=
  if chkFiles base ≠ 0 then ([], [], chkFiles base) else if chkFiles a ≠ 0 then ([], [], chkFiles a) else if chkFiles b ≠ 0 then ([], [], chkFiles b) else mrgFin (findF base) (findF a) (findF b) (upsD base a b)
theorem inF_iffM {L : List File} {p : ByteArray} : inF L p = true ↔ ∃ x ∈ L, x.1 = p := inF_iff
theorem addL_PM {t : MapB} {q : ByteArray → Prop} {n : Nat} (h : PM t q n) : ∀ (l : List File), PM (addL t l) (fun y => q y ∨ ∃ x ∈ l, y = x.1) (n + l.length) := by
  intro l
  induction l generalizing t q n with
  | nil => exact h.congr (fun y => by simp) (Nat.le_refl _)
  | cons x l ih =>
    refine (ih (h.put x.1 true)).congr (fun y => ?_) (by simp; omega)
    simp only [List.mem_cons, exists_eq_or_imp]
    constructor
    · rintro ((q1 | q1) | q1)
      · exact .inr (.inl q1)
      · exact .inl q1
      · exact .inr (.inr q1)
    · rintro (q1 | q1 | q1)
      · exact .inl (.inr q1)
      · exact .inl (.inl q1)
      · exact .inr q1
theorem FSz.ok {L : List File} (h : chkFiles L = 0) : FSz L := by
  obtain ⟨l1, l2, l3, l4, l5, l6⟩ := chkFiles_ok h
  exact ⟨by omega, fun x hx => by have := l3 x hx; omega, fun x hx => by have := (isPathD_size (l2 x hx)).2; omega⟩
theorem merge_fin (f g h : ByteArray → Option File) (hf : Named f) (hg : Named g) (hh : Named h) (ps : List ByteArray) (hps : AscS ps) (hpl : ps.length ≤ 3000) (hsz : ∀ p ∈ ps, p.size ≤ 200) (out : List File) (ho : out = mrgOut f g h ps) (told : MapB) (ht : PM told (fun y => y ∈ mrgTold f g h ps) ps.length) (m : MapB)
    (hm : ∀ p, orD (mget? keq m p) false = inF out p) :
    Ultk (fun k => bnd (SX54 k (m, told) (out, ())) (fun (a12 : ((List (ByteArray × (Bool × (List Int)))) × ((List (ByteArray × Bool)) × (List (ByteArray × Bool))))) => bnd (S31 k (a12.1, ())) (fun (a13 : Int) => cnd (ine a13 0) (some (([] : List (ByteArray × (Bool × (List Int)))), ([] : List ByteArray), a13)) (bnd (S50 k (a12.1, ())) (fun (a14 : (List (ByteArray × (Bool × (List Int))))) => bnd (S65 k (a12.2.2, ())) (fun (a15 : (Option (List (ByteArray × Bool)))) => bnd (S64 k (a15, ())) (fun (a16 : (List ByteArray)) => some (a14, a16, 0)))))))) (mrgFin f g h ps) := by
  have hol : out.length ≤ ps.length := by rw [ho]; exact mrgOut_len
  have hmem : ∀ x ∈ out, x.1 ∈ ps := fun x hx => by
    rw [ho] at hx
    obtain ⟨p, hp, e⟩ := mem_filterMapF.1 hx
    rw [take_named hf hg hh p x e]; exact hp
  have hd := deleteX_spec out m told (fun x => inside out x.1) (fun x hx => (clashes_spec m x.1 (by have := hsz _ (hmem x hx); omega)).eq (clash_congr hm _ _)) (by omega)
  have hd' : Ultk (fun k => SX54 k (m, told) (out, ())) (keepIn out, m, addL told (goneIn out)) := hd
  refine Ult.bind hd' (Ult.bind (checkFiles_spec _) ?_)
  unfold mrgFin
  rw [← ho]
  refine Ult.ifS (ine_eq _ _) (fun _ => Ult.ret) fun h1 => ?_
  have h1 := Decidable.not_not.1 h1
  refine Ult.bind (own_spec _ (FSz.ok h1)) ?_
  have hgl : (goneIn out).length ≤ out.length := List.length_filter_le _ _
  obtain ⟨r, r1, r2, r3, r4⟩ := sortedKeys_spec ((addL_PM ht (goneIn out)).congr (q' := tells f g h ps) (n' := 6000) (fun y => by unfold tells; rw [← ho]) (by omega)) (by omega) (fun y hy => by
    rcases hy with hy | ⟨x, hx, rfl⟩
    · exact hsz _ (List.mem_filter.1 hy).1
    · rw [← ho] at hx
      exact hsz _ (hmem x (List.mem_filter.1 hx).1))
  refine Ult.bind (a := some (addL told (goneIn out))) ⟨0, fun _ _ => rfl⟩ (Ult.bind (a := r) ⟨0, fun _ _ => r1⟩ (Ult.ret.eq ?_))
  rw [tldD_of ⟨r2, r3⟩]
theorem merge_spec (base a b : List File) : Ultk (fun k => S27 k (base, a, b, ())) (mergeAns base a b) := by
  unfold S27
  obtain ⟨Ls, hLs⟩ : ∃ Ls, Ls = [base, a, b] := ⟨_, rfl⟩
  have hl3 : Ls.length = 3 := by rw [hLs]; rfl
  refine (Ult.forA (A := Unit) (fun _ => Nat.le_refl _) 3 (fun _ j => (j : Int)) (fun _ j => ∀ i (h : i < Ls.length), i < j → chkFiles Ls[i] = 0) (fun _ _ => mergeAns base a b) () (fun i _ h => by omega) fun _ j hj hI next => ?_)
  dsimp only at next ⊢
  rw [← hLs] at next ⊢
  rw [iltL, hl3]
  by_cases hlt : j < 3
  · refine Ult.yes (decide_eq_true hlt) (Ult.bindc (at?_nat (show j < Ls.length by omega)) ?_)
    have hc := Ult.call (l := lp fun k : Nat => k) (k := fun q => q.1) (f := fun k => S31 k (Ls[j]'(by omega), ())) (lp_le _ _ fun _ => Nat.le_refl _) (checkFiles_spec (Ls[j]'(by omega)))
    refine Ult.bind hc ?_
    rw [isucc hlt (by omega), ine_eq]
    by_cases h0 : chkFiles (Ls[j]'(by omega)) ≠ 0
    · refine Ult.yes (decide_eq_true h0) (Ult.ret.eq ?_)
      unfold mergeAns
      have hj3 : j = 0 ∨ j = 1 ∨ j = 2 := by omega
      rcases hj3 with rfl | rfl | rfl
      · have e : Ls[0]'(by omega) = base := by subst hLs; rfl
        rw [e] at h0 ⊢
        rw [if_pos h0]
      · have e0 : chkFiles base = 0 := by
          have := hI 0 (by omega) (by omega)
          subst hLs; exact this
        have e : Ls[1]'(by omega) = a := by subst hLs; rfl
        rw [e] at h0 ⊢
        rw [if_neg (by simp [e0]), if_pos h0]
      · have e0 : chkFiles base = 0 := by
          have := hI 0 (by omega) (by omega)
          subst hLs; exact this
        have e1 : chkFiles a = 0 := by
          have := hI 1 (by omega) (by omega)
          subst hLs; exact this
        have e : Ls[2]'(by omega) = b := by subst hLs; rfl
        rw [e] at h0 ⊢
        rw [if_neg (by simp [e0]), if_neg (by simp [e1]), if_pos h0]
    · refine Ult.no (decide_eq_false h0) (next () hlt fun i hi hij => ?_)
      rcases Nat.lt_or_ge i j with z | z
      · exact hI i hi z
      · have : i = j := by omega
        subst this; exact Decidable.not_not.1 h0
  · refine Ult.no (decide_eq_false hlt) ?_
    have hj3 : j = 3 := by omega
    subst hj3
    have k0 : chkFiles base = 0 := by
      have := hI 0 (by omega) (by omega)
      subst hLs; exact this
    have k1 : chkFiles a = 0 := by
      have := hI 1 (by omega) (by omega)
      subst hLs; exact this
    have k2 : chkFiles b = 0 := by
      have := hI 2 (by omega) (by omega)
      subst hLs; exact this
    have s0 := sz_ok k0
    have s1 := sz_ok k1
    have s2 := sz_ok k2
    rw [show mergeAns base a b = mrgFin (findF base) (findF a) (findF b) (upsD base a b) by unfold mergeAns; rw [if_neg (by simp [k0]), if_neg (by simp [k1]), if_neg (by simp [k2])]]
    obtain ⟨m0, hm0, u0⟩ := byPath_spec base (asc_ok k0) s0.1
    obtain ⟨m1, hm1, u1⟩ := byPath_spec a (asc_ok k1) s1.1
    obtain ⟨m2, hm2, u2⟩ := byPath_spec b (asc_ok k2) s2.1
    refine Ult.bind (Ult.call (l := lp fun k : Nat => k) (k := fun q => q.1) (lp_le _ _ fun _ => Nat.le_refl _) u0) (Ult.bind (Ult.call (l := lp fun k : Nat => k) (k := fun q => q.1) (lp_le _ _ fun _ => Nat.le_refl _) u1) (Ult.bind (Ult.call (l := lp fun k : Nat => k) (k := fun q => q.1) (lp_le _ _ fun _ => Nat.le_refl _) u2) ?_))
    have hpu := Ult.call (l := lp fun k : Nat => k) (k := fun q => q.1) (f := fun k => S45 k ([base, a, b], ())) (lp_le _ _ fun _ => Nat.le_refl _) (paths3_ups s0 s1 s2)
    rw [hLs]
    refine Ult.bind hpu ?_
    obtain ⟨hu1, hu2, hu3⟩ := upsD_spec s0.1 s1.1 s2.1
    have hsz : ∀ p ∈ upsD base a b, p.size ≤ 200 := fun p hp => by
      rcases (hu2 p).1 hp with q | q | q
      · obtain ⟨x, hx, rfl⟩ := inF_iff.1 q; exact s0.2 x hx
      · obtain ⟨x, hx, rfl⟩ := inF_iff.1 q; exact s1.2 x hx
      · obtain ⟨x, hx, rfl⟩ := inF_iff.1 q; exact s2.2 x hx
    have hpl : (upsD base a b).length ≤ 3000 := by omega
    clear hI next hpu
    generalize upsD base a b = ps at *
    refine Ult.forN (A := List File × MapB) (lp_le _ _ fun _ => Nat.le_refl _) ps.length (fun s j => (s.1, (j : Int), s.2)) (fun s j => s.1 = mrgOut (findF base) (findF a) (findF b) (ps.take j) ∧ PM s.2 (fun y => y ∈ mrgTold (findF base) (findF a) (findF b) (ps.take j)) j) (fun _ _ => mrgFin (findF base) (findF a) (findF b) ps) ([], []) ⟨rfl, by simp [keysM], fun y => by simp [keysM, mrgTold], Nat.le_refl _⟩ fun N s j hj hs next => ?_
    obtain ⟨out, told⟩ := s
    obtain ⟨ho, ht⟩ := hs
    dsimp only at ho ht ⊢
    rw [iltL]
    have hol : out.length ≤ 3000 := by
      rw [ho]
      have := mrgOut_len (f := findF base) (g := findF a) (h := findF b) (ps := ps.take j)
      rw [List.length_take] at this; omega
    have lpp : ∀ i : (Nat × Nat) × Nat, lp (lp fun k : Nat => k) i ≤ i.1.1 := lp_le _ _ (lp_le _ _ fun _ => Nat.le_refl _)
    by_cases hlu : j < ps.length
    · refine Ult.yes (decide_eq_true hlu) (Ult.bindc (at?_nat hlu) ?_)
      have c0 := Ult.call (l := lp (lp fun k : Nat => k)) (k := fun q => q.1.1) (f := fun k => S60 k (m0, ps[j], ())) lpp (spotOf_spec m0 ps[j] base hm0)
      have c1 := Ult.call (l := lp (lp fun k : Nat => k)) (k := fun q => q.1.1) (f := fun k => S60 k (m1, ps[j], ())) lpp (spotOf_spec m1 ps[j] a hm1)
      have c2 := Ult.call (l := lp (lp fun k : Nat => k)) (k := fun q => q.1.1) (f := fun k => S60 k (m2, ps[j], ())) lpp (spotOf_spec m2 ps[j] b hm2)
      refine Ult.bind c0 (Ult.bind c1 (Ult.bind c2 (Ult.jn ?_)))
      dsimp only
      rw [isucc hlu (by omega)]
      have hso := mrgOut_succ (f := findF base) (g := findF a) (h := findF b) hlu
      have hst := mrgTold_succ (f := findF base) (g := findF a) (h := findF b) hlu
      generalize hx : findF base ps[j] = x at *
      generalize hy : findF a ps[j] = y at *
      generalize hz : findF b ps[j] = z at *
      -- the rest of a round
      have rest : ∀ (t : Option File) (told' : MapB), takeD x y z = t → PM told' (fun q => q ∈ mrgTold (findF base) (findF a) (findF b) (ps.take (j + 1))) (j + 1) →
          Ult (lp (lp fun k : Nat => k)) (fun p => cnd (isS t) (bnd (app? 48 out (((orD t z0).1, (orD t z0).2.1, (orD t z0).2.2) :: ([] : List (ByteArray × (Bool × (List Int)))))) (fun (a15 : (List (ByteArray × (Bool × (List Int))))) => N p (a15, ((j + 1 : Nat) : Int), told'))) (N p (out, ((j + 1 : Nat) : Int), told'))) (mrgFin (findF base) (findF a) (findF b) ps) := by
        intro t told' htk hpm
        cases t with
        | none =>
          exact Ult.no rfl (next (out, told') hlu ⟨by dsimp only; rw [hso, htk, ho]; simp, hpm⟩)
        | some u =>
          exact Ult.yes rfl (Ult.bindc (app?_ok (b := 48) (l := out) (r := [u]) (by show (out.length + 1) * 48 ≤ _; omega)) (next (out ++ [u], told') hlu ⟨by dsimp only; rw [hso, htk, ho]; simp, hpm⟩))
      have e1 := Ult.call (l := lp (lp fun k : Nat => k)) (k := fun q => q.1.1) lpp (spotSame_spec y x)
      refine Ult.bind e1 ?_
      have hpm0 : toldD x y z = false → PM told (fun q => q ∈ mrgTold (findF base) (findF a) (findF b) (ps.take (j + 1))) (j + 1) := fun hn => ht.congr (fun q => by rw [hst, hn]; simp) (by omega)
      cases h1 : sameSp y x with
      | true =>
        exact Ult.yes rfl (rest z told (by unfold takeD; rw [h1]; rfl) (hpm0 (by unfold toldD; rw [h1]; rfl)))
      | false =>
      refine Ult.no rfl ?_
      have htk : takeD x y z = y := by unfold takeD; rw [h1]; rfl
      have e2 := Ult.call (l := lp (lp fun k : Nat => k)) (k := fun q => q.1.1) lpp (spotSame_spec z x)
      refine Ult.bind e2 ?_
      cases h2 : sameSp z x with
      | true => exact Ult.no rfl (rest y told htk (hpm0 (by unfold toldD; rw [h1, h2]; rfl)))
      | false =>
      refine Ult.yes rfl ?_
      have e3 := Ult.call (l := lp (lp fun k : Nat => k)) (k := fun q => q.1.1) lpp (spotSame_spec z y)
      refine Ult.bind e3 ?_
      cases h3 : sameSp z y with
      | true => exact Ult.no rfl (rest y told htk (hpm0 (by unfold toldD; rw [h1, h2, h3]; rfl)))
      | false =>
        refine Ult.yes rfl (rest y (mput keq told ps[j] true) htk ((ht.put ps[j] true).congr (fun q => ?_) (Nat.le_refl _)))
        rw [hst, show toldD x y z = true by unfold toldD; rw [h1, h2, h3]; rfl, if_pos rfl, List.mem_append, List.mem_singleton]
        exact or_comm
    · refine Ult.no (decide_eq_false hlu) ?_
      have hjl : j = ps.length := by omega
      rw [List.take_of_length_le (by omega)] at ho ht
      refine Ult.forA (A := MapB) (lp_le _ _ (lp_le _ _ fun _ => Nat.le_refl _)) out.length (fun m i => ((i : Int), m)) (fun m i => ∀ p, orD (mget? keq m p) false = inF (out.take i) p) (fun _ _ => mrgFin (findF base) (findF a) (findF b) ps) [] (fun p => rfl) fun m i hi hm next2 => ?_
      dsimp only
      rw [iltL]
      by_cases hlv : i < out.length
      · refine Ult.yes (decide_eq_true hlv) (Ult.bindc (inb_nat hlv) ?_)
        rw [gt_nat hlv, isucc hlv (by omega)]
        refine next2 _ hlv fun p => ?_
        rw [mget_mput, inF_take hlv, ← hm]
        by_cases e : p = out[i].1
        · rw [if_pos e]; simp [e, orD]
        · rw [if_neg e]; simp [e]
      · refine Ult.no (decide_eq_false hlv) ?_
        rw [List.take_of_length_le (by omega)] at hm
        have fin := merge_fin (findF base) (findF a) (findF b) (findF_named _) (findF_named _) (findF_named _) ps hu1 hpl hsz out ho told (ht.congr (fun _ => Iff.rfl) (by omega)) m hm
        exact Ult.call (l := lp (lp (lp fun k : Nat => k))) (k := fun q => q.1.1.1) (lp_le _ _ lpp) fin
end Go.Proofs.YtcppmncmlhibhaaDoor.Ev

namespace Go.Proofs.YtcppmncmlhibhaaDoor.Ev
open Go Go.RowKit Go.Sort
set_option linter.unusedVariables false
set_option linter.unusedSimpArgs false
variable {ι R α β X A : Type} {l : ι → Nat} {Q : R → Prop}
theorem Ult.of_eq {f : ι → Option R} {r r' : R} (h : Ult l f r) (e : r = r') : Ult l f r' := e ▸ h
theorem sameF_find {a b : List File} {p : ByteArray} (ha : isS (findF a p) = true) (hb : isS (findF b p) = true) : sameF (orD (findF a p) z0) (orD (findF b p) z0) = (((orD (findF a p) z0).2.1 == (orD (findF b p) z0).2.1) && decide (strOf (orD (findF a p) z0).2.2 = strOf (orD (findF b p) z0).2.2)) := by
  obtain ⟨x, hx⟩ := Option.isSome_iff_exists.1 (show (findF a p).isSome = true from ha)
  obtain ⟨y, hy⟩ := Option.isSome_iff_exists.1 (show (findF b p).isSome = true from hb)
  rw [hx, hy]
  unfold sameF orD
  simp only [Option.getD_some]
  rw [decide_eq_true ((findF_some hx).2.trans (findF_some hy).2.symm), Bool.true_and]
theorem alike_spec (a b : List File) (p : ByteArray) (ha : a.length ≤ 1000) (hb : b.length ≤ 1000) : Ultk (fun k => S66 k (a, b, p, ())) (sameSp (findF a p) (findF b p)) := by
  unfold S66 sameSp
  refine Ult.bind (find_spec a p ha) (Ult.bind (find_spec b p hb) ?_)
  dsimp only
  cases hs : isS (findF a p) == isS (findF b p) with
  | false => exact Ult.no hs (Ult.ret.eq (by simp))
  | true =>
    refine Ult.yes hs ?_
    rw [Bool.true_and]
    cases hx : isS (findF a p) with
    | false => exact Ult.yes rfl (Ult.ret.eq (by simp))
    | true =>
      have hy : isS (findF b p) = true := by rw [hx] at hs; simpa using hs
      refine Ult.no rfl (Ult.bind (sameFile_spec (orD (findF a p) z0) (orD (findF b p) z0)) (Ult.ret.eq ?_))
      rw [sameF_find hx hy]; simp
theorem sameSp_comm (x y : Option File) : sameSp x y = sameSp y x := by
  unfold sameSp
  cases x with
  | none =>
    cases y with
    | none => rfl
    | some y => simp [isS]
  | some x =>
    cases y with
    | none => simp [isS]
    | some y =>
      simp only [isS, orD, Option.isSome_some, Option.getD_some, beq_self_eq_true, Bool.true_and, Bool.not_true, Bool.false_or]
      rw [show (x.2.1 == y.2.1) = (y.2.1 == x.2.1) from Bool.beq_comm]
      congr 1
      exact decide_eq_decide.2 ⟨Eq.symm, Eq.symm⟩
theorem goneIn_take {out : List File} {L : List File} {j : Nat} (h : j < L.length) : (L.take (j + 1)).filter (fun x => inside out x.1) = (L.take j).filter (fun x => inside out x.1) ++ (if inside out L[j].1 = true then [L[j]] else []) := by
  rw [List.take_succ_eq_append_getElem h, List.filter_append]
  congr 1
  cases hb : inside out L[j].1 <;> simp [hb]
theorem keepIn_take {out : List File} {L : List File} {j : Nat} (h : j < L.length) : (L.take (j + 1)).filter (fun x => !inside out x.1) = (L.take j).filter (fun x => !inside out x.1) ++ (if inside out L[j].1 = true then [] else [L[j]]) := by
  rw [List.take_succ_eq_append_getElem h, List.filter_append]
  congr 1
  cases hb : inside out L[j].1 <;> simp [hb]
theorem mergeR_spec (base a b : List File) (hbase : FSz base) (ha : FSz a) (hb : FSz b) : Ultk (fun k => S28 k (base, a, b, ())) (mergeAns base a b) := by
  unfold S28 mergeAns
  refine Ult.bind (checkFilesR_spec base) (Ult.ifS (ine_eq _ _) (fun _ => Ult.ret) fun k0 => ?_)
  refine Ult.bind (checkFilesR_spec a) (Ult.ifS (ine_eq _ _) (fun _ => Ult.ret) fun k1 => ?_)
  refine Ult.bind (checkFilesR_spec b) (Ult.ifS (ine_eq _ _) (fun _ => Ult.ret) fun k2 => ?_)
  have k0 := Decidable.not_not.1 k0
  have k1 := Decidable.not_not.1 k1
  have k2 := Decidable.not_not.1 k2
  have s0 := sz_ok k0
  have s1 := sz_ok k1
  have s2 := sz_ok k2
  refine Ult.bind (pathsR_ups s0.1 s1.1 s2.1) ?_
  obtain ⟨hu1, hu2, hu3⟩ := upsD_spec s0.1 s1.1 s2.1
  have hsz : ∀ p ∈ upsD base a b, p.size ≤ 200 := fun p hp => by
    rcases (hu2 p).1 hp with q | q | q
    · obtain ⟨x, hx, rfl⟩ := inF_iff.1 q; exact s0.2 x hx
    · obtain ⟨x, hx, rfl⟩ := inF_iff.1 q; exact s1.2 x hx
    · obtain ⟨x, hx, rfl⟩ := inF_iff.1 q; exact s2.2 x hx
  have hpl : (upsD base a b).length ≤ 3000 := by omega
  generalize upsD base a b = ps at *
  refine Ult.forN (A := List File × List ByteArray) (fun _ => Nat.le_refl _) ps.length (fun s j => (s.1, s.2, (j : Int))) (fun s j => s.1 = mrgOut (findF base) (findF a) (findF b) (ps.take j) ∧ AscS s.2 ∧ (∀ y, y ∈ s.2 ↔ y ∈ mrgTold (findF base) (findF a) (findF b) (ps.take j)) ∧ s.2.length ≤ j) (fun _ _ => mrgFin (findF base) (findF a) (findF b) ps) ([], []) ⟨rfl, List.Pairwise.nil, fun y => by simp [mrgTold], Nat.le_refl _⟩ fun N s j hj hs next => ?_
  obtain ⟨out, told⟩ := s
  obtain ⟨ho, t1, t2, t3⟩ := hs
  dsimp only at ho t1 t2 t3 ⊢
  rw [iltL]
  have hol : out.length ≤ 3000 := by
    rw [ho]
    have := mrgOut_len (f := findF base) (g := findF a) (h := findF b) (ps := ps.take j)
    rw [List.length_take] at this; omega
  have lp1 : ∀ i : Nat × Nat, lp (fun k : Nat => k) i ≤ i.1 := lp_le _ _ fun _ => Nat.le_refl _
  by_cases hlu : j < ps.length
  · refine Ult.yes (decide_eq_true hlu) (Ult.jn ?_)
    dsimp only
    rw [isucc hlu (by omega)]
    have hso := mrgOut_succ (f := findF base) (g := findF a) (h := findF b) hlu
    have hst := mrgTold_succ (f := findF base) (g := findF a) (h := findF b) hlu
    have a1 := alike_spec base a ps[j] s0.1 s1.1
    have a2 := alike_spec base b ps[j] s0.1 s2.1
    have a3 := alike_spec a b ps[j] s1.1 s2.1
    have f1 := find_spec a ps[j] s1.1
    have f2 := find_spec b ps[j] s2.1
    rw [sameSp_comm] at a1 a2 a3
    -- the rest of a round
    have rest : ∀ (L : List File) (told' : List ByteArray), L.length ≤ 1000 → takeD (findF base ps[j]) (findF a ps[j]) (findF b ps[j]) = findF L ps[j] → AscS told' → (∀ y, y ∈ told' ↔ y ∈ mrgTold (findF base) (findF a) (findF b) (ps.take (j + 1))) → told'.length ≤ j + 1 →
        Ult (lp fun k : Nat => k) (fun p => bnd (at? ps (j : Int)) (fun (a9 : ByteArray) => bnd (S47 p.1 (L, a9, ())) (fun (a10 : ((ByteArray × (Bool × (List Int))) × Bool)) => cnd a10.2 (bnd (app? 48 out ((a10.1.1, a10.1.2.1, a10.1.2.2) :: ([] : List (ByteArray × (Bool × (List Int)))))) (fun (a11 : (List (ByteArray × (Bool × (List Int))))) => N p (a11, told', ((j + 1 : Nat) : Int)))) (N p (out, told', ((j + 1 : Nat) : Int)))))) (mrgFin (findF base) (findF a) (findF b) ps) := by
      intro L told' hL htk q1 q2 q3
      refine Ult.bindc (at?_nat hlu) (Ult.bind (Ult.call (l := lp fun k : Nat => k) (k := fun q => q.1) lp1 (find_spec L ps[j] hL)) ?_)
      cases ht : findF L ps[j] with
      | none => exact Ult.no rfl (next (out, told') hlu ⟨by dsimp only; rw [hso, htk, ht, ho]; simp, q1, q2, q3⟩)
      | some u => exact Ult.yes rfl (Ult.bindc (app?_ok (b := 48) (l := out) (r := [u]) (by show (out.length + 1) * 48 ≤ _; omega)) (next (out ++ [u], told') hlu ⟨by dsimp only; rw [hso, htk, ht, ho]; simp, q1, q2, q3⟩))
    have same : toldD (findF base ps[j]) (findF a ps[j]) (findF b ps[j]) = false → ∀ y, y ∈ told ↔ y ∈ mrgTold (findF base) (findF a) (findF b) (ps.take (j + 1)) := fun hn y => by rw [t2, hst, hn]; simp
    refine Ult.bindc (at?_nat hlu) (Ult.bind (Ult.call (l := lp fun k : Nat => k) (k := fun q => q.1) lp1 a1) ?_)
    cases h1 : sameSp (findF a ps[j]) (findF base ps[j]) with
    | true =>
      refine Ult.yes rfl (rest b told s2.1 (by unfold takeD; rw [h1]; rfl) t1 (same (by unfold toldD; rw [h1]; rfl)) (by omega))
    | false =>
    have htk : takeD (findF base ps[j]) (findF a ps[j]) (findF b ps[j]) = findF a ps[j] := by unfold takeD; rw [h1]; rfl
    refine Ult.no rfl (Ult.bindc (at?_nat hlu) (Ult.bind (Ult.call (l := lp fun k : Nat => k) (k := fun q => q.1) lp1 a2) ?_))
    cases h2 : sameSp (findF b ps[j]) (findF base ps[j]) with
    | true => exact Ult.no rfl (rest a told s1.1 htk t1 (same (by unfold toldD; rw [h1, h2]; rfl)) (by omega))
    | false =>
    refine Ult.yes rfl (Ult.bindc (at?_nat hlu) (Ult.bind (Ult.call (l := lp fun k : Nat => k) (k := fun q => q.1) lp1 a3) ?_))
    cases h3 : sameSp (findF b ps[j]) (findF a ps[j]) with
    | true => exact Ult.no rfl (rest a told s1.1 htk t1 (same (by unfold toldD; rw [h1, h2, h3]; rfl)) (by omega))
    | false =>
      refine Ult.yes rfl (Ult.bindc (at?_nat hlu) ?_)
      obtain ⟨r, ⟨r1, r2, r3⟩, r4⟩ := put_once told ps[j] t1 (by omega)
      refine Ult.bind (Ult.call (l := lp fun k : Nat => k) (k := fun q => q.1) lp1 r4) (rest a r s1.1 htk r1 (fun y => ?_) (by omega))
      rw [r2, t2, hst, show toldD (findF base ps[j]) (findF a ps[j]) (findF b ps[j]) = true by unfold toldD; rw [h1, h2, h3]; rfl, if_pos rfl, List.mem_append, List.mem_singleton]
      exact or_comm
  · refine Ult.no (decide_eq_false hlu) ?_
    rw [List.take_of_length_le (by omega)] at ho t2
    have hmem : ∀ x ∈ out, x.1 ∈ ps := fun x hx => by
      rw [ho] at hx
      obtain ⟨p, hp, e⟩ := mem_filterMapF.1 hx
      rw [take_named (findF_named _) (findF_named _) (findF_named _) p x e]; exact hp
    have hasc : Asc out := by rw [ho]; exact filterMap_asc (take_named (findF_named _) (findF_named _) (findF_named _)) hu1
    have hby : ∀ x ∈ out, x.2.2.length ≤ 140737488355328 := fun x hx => by
      rw [ho] at hx
      obtain ⟨p, hp, e⟩ := mem_filterMapF.1 hx
      unfold takeD at e
      split at e
      · exact hb.bytes x (findF_some e).1
      · exact ha.bytes x (findF_some e).1
    have lp2 : ∀ i : (Nat × Nat) × Nat, lp (lp fun k : Nat => k) i ≤ i.1.1 := lp_le _ _ lp1
    refine Ult.forN (A := List ByteArray × List File) lp1 out.length (fun s i => (s.1, s.2, (i : Int))) (fun s i => AscS s.1 ∧ (∀ y, y ∈ s.1 ↔ y ∈ mrgTold (findF base) (findF a) (findF b) ps ∨ ∃ x ∈ (out.take i).filter (fun x => inside out x.1), y = x.1) ∧ s.1.length ≤ ps.length + i ∧ s.2 = (out.take i).filter (fun x => !inside out x.1)) (fun _ _ => mrgFin (findF base) (findF a) (findF b) ps) (told, []) ⟨t1, fun y => by rw [t2]; simp, by dsimp only; omega, rfl⟩ fun N2 s i hi hs next2 => ?_
    obtain ⟨td, kp⟩ := s
    obtain ⟨d1, d2, d3, d4⟩ := hs
    dsimp only at d1 d2 d3 d4 ⊢
    rw [iltL]
    by_cases hlv : i < out.length
    · refine Ult.yes (decide_eq_true hlv) (Ult.bindc (at?_nat hlv) ?_)
      have hin := inside_spec out out[i].1 hasc (by omega) (by have := hsz _ (hmem _ (List.getElem_mem hlv)); omega)
      refine Ult.bind (Ult.call (l := lp (lp fun k : Nat => k)) (k := fun q => q.1.1) lp2 hin) ?_
      rw [isucc hlv (by omega)]
      have hg := goneIn_take (out := out) hlv
      have hk := keepIn_take (out := out) hlv
      have hkl : kp.length ≤ 3000 := by
        rw [d4]
        have := List.length_filter_le (fun x : File => !inside out x.1) (out.take i)
        rw [List.length_take] at this; omega
      cases hc : inside out out[i].1 with
      | true =>
        refine Ult.yes rfl (Ult.bindc (at?_nat hlv) ?_)
        obtain ⟨r, ⟨r1, r2, r3⟩, r4⟩ := put_once td out[i].1 d1 (by omega)
        refine Ult.bind (Ult.call (l := lp (lp fun k : Nat => k)) (k := fun q => q.1.1) lp2 r4) (next2 (r, kp) hlv ⟨r1, fun y => ?_, by dsimp only; omega, by dsimp only; rw [hk, hc, d4]; simp⟩)
        dsimp only
        rw [r2, d2, hg, hc, if_pos rfl]
        simp only [List.mem_append, List.mem_singleton]
        constructor
        · rintro (q | q | ⟨x, q1, q2⟩)
          · exact .inr ⟨_, .inr rfl, q⟩
          · exact .inl q
          · exact .inr ⟨x, .inl q1, q2⟩
        · rintro (q | ⟨x, q1 | q1, q2⟩)
          · exact .inr (.inl q)
          · exact .inr (.inr ⟨x, q1, q2⟩)
          · exact .inl (by rw [q2, q1])
      | false =>
        refine Ult.no rfl (Ult.bindc (at?_nat hlv) (Ult.bindc (at?_nat hlv) ?_))
        refine Ult.bind (Ult.call (l := lp (lp fun k : Nat => k)) (k := fun q => q.1.1) lp2 (copied_spec out[i] out[i].1 (hby _ (List.getElem_mem hlv)))) (Ult.bindc (app?_ok (by show (kp.length + 1) * 48 ≤ _; omega)) (next2 (td, kp ++ [out[i]]) hlv ⟨d1, fun y => ?_, by dsimp only; omega, by dsimp only; rw [hk, hc, d4]; simp⟩))
        dsimp only
        rw [d2, hg, hc]; simp
    · refine Ult.no (decide_eq_false hlv) ?_
      rw [List.take_of_length_le (by omega)] at d2 d4
      have d4 : kp = keepIn (mrgOut (findF base) (findF a) (findF b) ps) := by rw [d4, ho]; rfl
      refine Ult.bind (Ult.call (l := lp (lp fun k : Nat => k)) (k := fun q => q.1.1) lp2 (checkFilesR_spec kp)) ?_
      unfold mrgFin
      rw [← d4]
      refine Ult.ifS (ine_eq _ _) (fun _ => Ult.ret) fun _ => Ult.ret.eq ?_
      rw [tldD_of (q := tells (findF base) (findF a) (findF b) ps) ⟨d1, fun y => by rw [d2]; unfold tells goneIn; rw [← ho]⟩]
end Go.Proofs.YtcppmncmlhibhaaDoor.Ev

namespace Go.Proofs.YtcppmncmlhibhaaDoor.Ev
open Go Go.RowKit Go.Sort
set_option linter.unusedVariables false
set_option linter.unusedSimpArgs false
theorem sameSp_iff {x y : Option File} : sameSp x y = true ↔ isS x = isS y ∧ (isS x = true → (orD x z0).2.1 = (orD y z0).2.1 ∧ strOf (orD x z0).2.2 = strOf (orD y z0).2.2) := by
  unfold sameSp
  simp only [Bool.and_eq_true, Bool.or_eq_true, Bool.not_eq_true', beq_iff_eq, decide_eq_true_eq]
  refine and_congr_right fun h => ?_
  cases isS x <;> simp
theorem sameSp_self (x : Option File) : sameSp x x = true := sameSp_iff.2 ⟨rfl, fun _ => ⟨rfl, rfl⟩⟩
theorem sameSp_symm {x y : Option File} (h : sameSp x y = true) : sameSp y x = true := by rw [sameSp_comm]; exact h
theorem sameSp_trans {x y z : Option File} (h : sameSp x y = true) (k : sameSp y z = true) : sameSp x z = true := by
  obtain ⟨h1, h2⟩ := sameSp_iff.1 h
  obtain ⟨k1, k2⟩ := sameSp_iff.1 k
  refine sameSp_iff.2 ⟨h1.trans k1, fun q => ?_⟩
  have h3 := h2 q
  have k3 := k2 (h1 ▸ q)
  exact ⟨h3.1.trans k3.1, h3.2.trans k3.2⟩
theorem sameFs_nil : sameFs [] [] = true := rfl
theorem sameFs_cons {x y : File} {A B : List File} (h : sameF x y = true) (k : sameFs A B = true) : sameFs (x :: A) (y :: B) = true := by
  obtain ⟨k1, k2⟩ := sameFs_iff.1 k
  refine sameFs_iff.2 ⟨by simp [k1], fun i h1 h2 => ?_⟩
  cases i with
  | zero => exact h
  | succ i => exact k2 i (by simpa using h1) (by simpa using h2)
/-- what is taken at each path the same -/
theorem same_filterMap {F G : ByteArray → Option File} (hF : Named F) (hG : Named G) : ∀ (ps : List ByteArray), (∀ p ∈ ps, sameSp (F p) (G p) = true) → sameFs (ps.filterMap F) (ps.filterMap G) = true
  | [], _ => sameFs_nil
  | p :: ps, h => by
    have ih := same_filterMap hF hG ps fun q hq => h q (List.mem_cons_of_mem _ hq)
    have h0 := sameSp_iff.1 (h p (List.mem_cons_self ..))
    cases hf : F p with
    | none =>
      cases hg : G p with
      | none => rw [List.filterMap_cons_none hf, List.filterMap_cons_none hg]; exact ih
      | some y => rw [hf, hg] at h0; simp [isS] at h0
    | some x =>
      cases hg : G p with
      | none => rw [hf, hg] at h0; simp [isS] at h0
      | some y =>
        rw [List.filterMap_cons_some hf, List.filterMap_cons_some hg]
        rw [hf, hg] at h0
        have h1 := h0.2 rfl
        exact sameFs_cons (sameF_iff.2 ⟨(hF p x hf).trans (hG p y hg).symm, h1.1, h1.2⟩) ih
/-- a list is what its paths find -/
theorem filterMap_find {a : List File} (ha : Asc a) {ps : List ByteArray} (hp : AscS ps) (h : ∀ x ∈ a, x.1 ∈ ps) : ps.filterMap (findF a) = a := by
  have h1 : Asc (ps.filterMap (findF a)) := filterMap_asc (findF_named a) hp
  have nd : ∀ {L : List File}, Asc L → L.Nodup := fun {L} hL => by
    have hL : L.Pairwise fun p q => lt p.1 q.1 := hL
    exact hL.imp fun {x y} hxy e => by rw [e] at hxy; exact lt_irrefl _ hxy
  refine h1.unique ha ((List.perm_ext_iff_of_nodup (nd h1) (nd ha)).2 fun x => ?_)
  rw [mem_filterMapF]
  constructor
  · rintro ⟨p, hp, e⟩; exact (findF_some e).1
  · intro hx; exact ⟨x.1, h x hx, findF_get ha hx⟩
/-- trees that are the same are right alike -/
theorem same_map {A B : List File} (h : sameFs A B = true) : A.map (·.1) = B.map (·.1) ∧ A.map (fun x => x.2.2.length) = B.map (fun x => x.2.2.length) := by
  obtain ⟨h1, h2⟩ := sameFs_iff.1 h
  have hs : ∀ l : List Int, (strOf l).size = l.length := fun l => by unfold strOf; simp [ByteArray.size]
  constructor <;> refine List.ext_getElem (by simpa using h1) fun i q1 q2 => ?_
  · rw [List.getElem_map, List.getElem_map]
    exact (sameF_iff.1 (h2 i (by simpa using q1) (by simpa using q2))).1
  · rw [List.getElem_map, List.getElem_map]
    have := (sameF_iff.1 (h2 i (by simpa using q1) (by simpa using q2))).2.2
    rw [← hs, ← hs, this]
theorem inF_map {A B : List File} (h : A.map (·.1) = B.map (·.1)) (p : ByteArray) : inF A p = inF B p := by
  have e : ∀ L : List File, inF L p = (L.map (·.1)).any fun y => decide (y = p) := fun L => by unfold inF; rw [List.any_map]; rfl
  rw [e, e, h]
theorem inside_map {A B : List File} (h : A.map (·.1) = B.map (·.1)) (p : ByteArray) : inside A p = inside B p := by
  unfold inside
  exact clash_congr (inF_map h) p 0
theorem total_map {A B : List File} (h : A.map (fun x => x.2.2.length) = B.map (fun x => x.2.2.length)) : total A = total B := by unfold total; rw [h]
theorem chk_same {A B : List File} (h : sameFs A B = true) : chkFiles A = chkFiles B := by
  obtain ⟨e1, e2⟩ := same_map h
  have hl : A.length = B.length := by simpa using congrArg List.length e1
  have g1 : ∀ i, i < A.length → (A.getD i default).1 = (B.getD i default).1 := fun i hi => by
    have := congrArg (fun l => l[i]?) e1
    simp only [List.getElem?_map, List.getElem?_eq_getElem hi, List.getElem?_eq_getElem (show i < B.length by omega), Option.map_some, Option.some.injEq] at this
    simpa [List.getD_eq_getElem?_getD, hi, show i < B.length by omega] using this
  have g2 : ∀ i, i < A.length → (A.getD i default).2.2.length = (B.getD i default).2.2.length := fun i hi => by
    have := congrArg (fun l => l[i]?) e2
    simp only [List.getElem?_map, List.getElem?_eq_getElem hi, List.getElem?_eq_getElem (show i < B.length by omega), Option.map_some, Option.some.injEq] at this
    simpa [List.getD_eq_getElem?_getD, hi, show i < B.length by omega] using this
  have ef : ∀ j, j < A.length → fileErr A j = fileErr B j := fun j hj => by
    unfold fileErr
    rw [g1 j hj, g2 j hj]
    by_cases h0 : 0 < j
    · rw [g1 (j - 1) (by omega)]
    · simp [h0]
  have ee : errs A 0 = errs B 0 := by
    unfold errs
    rw [hl]
    congr 1
    refine List.map_congr_left fun j hj => ef j ?_
    rw [List.drop_zero] at hj
    have := List.mem_range.1 hj; omega
  have et : tailD A = tailD B := by
    unfold tailD
    rw [total_map e2]
    have : (A.any fun x => inside A x.1) = (B.any fun x => inside B x.1) := by
      have e : ∀ L : List File, (L.any fun x => inside L x.1) = (L.map (·.1)).any fun y => inside L y := fun L => by rw [List.any_map]; rfl
      rw [e, e, e1]
      congr 1
      funext y; exact inside_map e1 y
    rw [this]
  unfold chkFiles afterD
  rw [hl, ee, et]
theorem keep_all {out : List File} (h : ∀ x ∈ out, inside out x.1 = false) : keepIn out = out ∧ goneIn out = [] := by
  refine ⟨List.filter_eq_self.2 fun x hx => by simp [h x hx], List.filter_eq_nil_iff.2 fun x hx => by simp [h x hx]⟩
theorem tldD_nil {q : ByteArray → Prop} (h : ∀ y, ¬ q y) : tldD q = [] := (tldD_of (r := []) ⟨List.Pairwise.nil, fun y => by simp [h y]⟩).symm
/-- nothing told, and a right tree -/
theorem mrgFin_ok {f g h : ByteArray → Option File} {ps : List ByteArray} {out a : List File} (ho : mrgOut f g h ps = out) (hs : sameFs out a = true) (ha : chkFiles a = 0) (ht : ∀ p ∈ ps, toldD (f p) (g p) (h p) = false) : mrgFin f g h ps = (out, [], 0) := by
  have hc : chkFiles out = 0 := by rw [chk_same hs]; exact ha
  obtain ⟨l1, l2, l3, l4, l5, l6⟩ := chkFiles_ok hc
  obtain ⟨k1, k2⟩ := keep_all l5
  unfold mrgFin
  rw [ho, k1, if_neg (by simp [hc]), tldD_nil]
  rintro y (hy | ⟨x, hx, _⟩)
  · have := (List.mem_filter.1 hy)
    rw [ht y this.1] at this
    exact absurd this.2 (by simp)
  · rw [ho, k2] at hx; cases hx
end Go.Proofs.YtcppmncmlhibhaaDoor.Ev

namespace Go.Proofs.YtcppmncmlhibhaaDoor.Ev
open Go Go.RowKit Go.Sort
set_option linter.unusedVariables false
set_option linter.unusedSimpArgs false
theorem addP_PM {t : MapB} {q : ByteArray → Prop} {n : Nat} (h : PM t q n) : ∀ (l : List ByteArray), PM (l.foldl (fun t y => mput keq t y true) t) (fun y => q y ∨ y ∈ l) (n + l.length) := by
  intro l
  induction l generalizing t q n with
  | nil => exact h.congr (fun y => by simp) (Nat.le_refl _)
  | cons x l ih =>
    refine (ih (h.put x true)).congr (fun y => ?_) (by simp; omega)
    simp only [List.mem_cons]
    constructor
    · rintro ((q1 | q1) | q1)
      · exact .inr (.inl q1)
      · exact .inl q1
      · exact .inr (.inr q1)
    · rintro (q1 | q1 | q1)
      · exact .inl (.inr q1)
      · exact .inl (.inl q1)
      · exact .inr q1
theorem tld_ex {f g h : ByteArray → Option File} (hf : Named f) (hg : Named g) (hh : Named h) {ps : List ByteArray} (hpl : ps.length ≤ 3000) (hsz : ∀ p ∈ ps, p.size ≤ 200) : Tld (tells f g h ps) (tldD (tells f g h ps)) ∧ (tldD (tells f g h ps)).length ≤ 6000 := by
  have h0 : PM ([] : MapB) (fun _ => False) 0 := ⟨by simp [keysM], fun y => by simp [keysM], Nat.le_refl _⟩
  have hT : (mrgTold f g h ps).length ≤ ps.length := List.length_filter_le _ _
  have hG : (goneIn (mrgOut f g h ps)).length ≤ ps.length := Nat.le_trans (List.length_filter_le _ _) mrgOut_len
  have hp := addL_PM (addP_PM h0 (mrgTold f g h ps)) (goneIn (mrgOut f g h ps))
  obtain ⟨r, r1, r2, r3, r4⟩ := sortedKeys_spec (hp.congr (q' := tells f g h ps) (n' := 6000) (fun y => by unfold tells; simp) (by omega)) (by omega) (fun y hy => by
    rcases hy with hy | ⟨x, hx, rfl⟩
    · exact hsz _ (List.mem_filter.1 hy).1
    · obtain ⟨p, hp, e⟩ := mem_filterMapF.1 (show x ∈ ps.filterMap _ from (List.mem_filter.1 hx).1)
      rw [take_named hf hg hh p x e]; exact hsz p hp)
  have ht : Tld (tells f g h ps) r := ⟨r2, r3⟩
  rw [← tldD_of ht]
  exact ⟨ht, r4⟩
theorem mergeAns_cases (base a b : List File) : (∃ e, e ≠ 0 ∧ mergeAns base a b = ([], [], e)) ∨ (chkFiles base = 0 ∧ chkFiles a = 0 ∧ chkFiles b = 0 ∧ chkFiles (keepIn (mrgOut (findF base) (findF a) (findF b) (upsD base a b))) = 0 ∧
    mergeAns base a b = (keepIn (mrgOut (findF base) (findF a) (findF b) (upsD base a b)), tldD (tells (findF base) (findF a) (findF b) (upsD base a b)), 0)) := by
  unfold mergeAns mrgFin
  by_cases h0 : chkFiles base = 0
  rotate_left
  · rw [if_pos h0]; exact .inl ⟨_, h0, rfl⟩
  rw [if_neg (by simp [h0])]
  by_cases h1 : chkFiles a = 0
  rotate_left
  · rw [if_pos h1]; exact .inl ⟨_, h1, rfl⟩
  rw [if_neg (by simp [h1])]
  by_cases h2 : chkFiles b = 0
  rotate_left
  · rw [if_pos h2]; exact .inl ⟨_, h2, rfl⟩
  rw [if_neg (by simp [h2])]
  by_cases h3 : chkFiles (keepIn (mrgOut (findF base) (findF a) (findF b) (upsD base a b))) = 0
  rotate_left
  · rw [if_pos h3]; exact .inl ⟨_, h3, rfl⟩
  rw [if_neg (by simp [h3])]
  exact .inr ⟨h0, h1, h2, h3, rfl⟩
theorem mergeAns_fin {base a b : List File} (h0 : chkFiles base = 0) (h1 : chkFiles a = 0) (h2 : chkFiles b = 0) : mergeAns base a b = mrgFin (findF base) (findF a) (findF b) (upsD base a b) := by
  unfold mergeAns
  rw [if_neg (by simp [h0]), if_neg (by simp [h1]), if_neg (by simp [h2])]
theorem ups_facts {base a b : List File} (h0 : chkFiles base = 0) (h1 : chkFiles a = 0) (h2 : chkFiles b = 0) : Ups base a b (upsD base a b) ∧ (upsD base a b).length ≤ 3000 ∧ ∀ p ∈ upsD base a b, p.size ≤ 200 := by
  have s0 := sz_ok h0
  have s1 := sz_ok h1
  have s2 := sz_ok h2
  have hu := upsD_spec s0.1 s1.1 s2.1
  refine ⟨hu, by have := hu.len; omega, fun p hp => ?_⟩
  rcases (hu.mem p).1 hp with q | q | q
  · obtain ⟨x, hx, rfl⟩ := inF_iff.1 q; exact s0.2 x hx
  · obtain ⟨x, hx, rfl⟩ := inF_iff.1 q; exact s1.2 x hx
  · obtain ⟨x, hx, rfl⟩ := inF_iff.1 q; exact s2.2 x hx
theorem mergeAns_len {base a b : List File} : (mergeAns base a b).1.length ≤ 1000 ∧ (mergeAns base a b).2.1.length ≤ 6000 := by
  rcases mergeAns_cases base a b with ⟨e, _, h⟩ | ⟨h0, h1, h2, h3, h⟩
  · rw [h]; exact ⟨Nat.zero_le _, Nat.zero_le _⟩
  · rw [h]
    obtain ⟨u1, u2, u3⟩ := ups_facts h0 h1 h2
    exact ⟨(chkFiles_ok h3).1, (tld_ex (findF_named _) (findF_named _) (findF_named _) u2 u3).2⟩
theorem strEq_spec (L : List ByteArray) (hl : L.length ≤ 100000) : Ultk (fun k => S16 k (L, L, ())) true := by
  unfold S16
  refine Ult.no (ine_self _) ?_
  refine Ult.forI (fun _ => Nat.le_refl _) L.length (fun _ => true) fun j hj next => ?_
  rw [iltL]
  by_cases hlt : j < L.length
  · refine Ult.yes (decide_eq_true hlt) (Ult.bindc (at?_nat hlt) (Ult.bindc (at?_nat hlt) ?_))
    rw [isucc hlt (by omega), sne_eq]
    exact Ult.no (by simp) (next hlt)
  · exact Ult.no (decide_eq_false hlt) Ult.ret
/-! ### the easy ones -/
theorem merge_here {base a : List File} (h0 : chkFiles base = 0) (h1 : chkFiles a = 0) : ∃ out, mergeAns base a base = (out, [], 0) ∧ sameFs out a = true := by
  obtain ⟨u1, u2, u3⟩ := ups_facts h0 h1 h0
  have e : (upsD base a base).filterMap (findF a) = a := filterMap_find (asc_ok h1) u1.asc fun x hx => (u1.mem _).2 (.inr (.inl (inF_iff.2 ⟨x, hx, rfl⟩)))
  have hs : sameFs (mrgOut (findF base) (findF a) (findF base) (upsD base a base)) a = true := by
    have := same_filterMap (take_named (findF_named base) (findF_named a) (findF_named base)) (findF_named a) (upsD base a base) fun p _ => by
      unfold takeD
      by_cases q : sameSp (findF a p) (findF base p) = true
      · rw [if_pos q]; exact sameSp_symm q
      · rw [if_neg q]; exact sameSp_self _
    rw [e] at this; exact this
  refine ⟨_, ?_, hs⟩
  rw [mergeAns_fin h0 h1 h0]
  exact mrgFin_ok rfl hs h1 fun p _ => by unfold toldD; rw [sameSp_self]; simp
theorem merge_there {base a : List File} (h0 : chkFiles base = 0) (h1 : chkFiles a = 0) : mergeAns base base a = (a, [], 0) := by
  obtain ⟨u1, u2, u3⟩ := ups_facts h0 h0 h1
  have e : mrgOut (findF base) (findF base) (findF a) (upsD base base a) = a := by
    have : mrgOut (findF base) (findF base) (findF a) (upsD base base a) = (upsD base base a).filterMap (findF a) := by
      unfold mrgOut
      refine congrArg (fun F => List.filterMap F _) (funext fun p => ?_)
      unfold takeD
      rw [if_pos (sameSp_self _)]
    rw [this]
    exact filterMap_find (asc_ok h1) u1.asc fun x hx => (u1.mem _).2 (.inr (.inr (inF_iff.2 ⟨x, hx, rfl⟩)))
  rw [mergeAns_fin h0 h0 h1]
  exact mrgFin_ok e (sameFs_self a) h1 fun p _ => by unfold toldD; rw [sameSp_self]; rfl
theorem merge_both {base a : List File} (h0 : chkFiles base = 0) (h1 : chkFiles a = 0) : mergeAns base a a = (a, [], 0) := by
  obtain ⟨u1, u2, u3⟩ := ups_facts h0 h1 h1
  have e : mrgOut (findF base) (findF a) (findF a) (upsD base a a) = a := by
    have : mrgOut (findF base) (findF a) (findF a) (upsD base a a) = (upsD base a a).filterMap (findF a) := by
      unfold mrgOut
      refine congrArg (fun F => List.filterMap F _) (funext fun p => ?_)
      unfold takeD
      exact ite_self _
    rw [this]
    exact filterMap_find (asc_ok h1) u1.asc fun x hx => (u1.mem _).2 (.inr (.inl (inF_iff.2 ⟨x, hx, rfl⟩)))
  rw [mergeAns_fin h0 h1 h1]
  exact mrgFin_ok e (sameFs_self a) h1 fun p _ => by unfold toldD; rw [sameSp_self]; simp
/-! ### the contrary order -/
theorem take_even {x y z : Option File} (h : toldD x y z = false) : sameSp (takeD x z y) (takeD x y z) = true ∧ toldD x z y = false := by
  unfold toldD takeD at *
  cases h1 : sameSp y x with
  | true =>
    cases h2 : sameSp z x with
    | true =>
      refine ⟨?_, by simp⟩
      rw [if_pos rfl, if_pos rfl]
      exact sameSp_trans h1 (sameSp_symm h2)
    | false => exact ⟨by rw [if_neg (by simp), if_pos rfl]; exact sameSp_self _, by simp⟩
  | false =>
    rw [h1] at h
    cases h2 : sameSp z x with
    | true => exact ⟨by rw [if_pos rfl, if_neg (by simp)]; exact sameSp_self _, by simp⟩
    | false =>
      rw [h2] at h
      have h3 : sameSp z y = true := by simpa using h
      exact ⟨by rw [if_neg (by simp), if_neg (by simp)]; exact h3, by rw [sameSp_comm y z, h3]; simp⟩
theorem ups_even {base a b : List File} (h0 : chkFiles base = 0) (h1 : chkFiles a = 0) (h2 : chkFiles b = 0) : upsD base b a = upsD base a b := by
  obtain ⟨u1, _⟩ := ups_facts h0 h1 h2
  obtain ⟨u2, _⟩ := ups_facts h0 h2 h1
  refine u2.asc.unique u1.asc fun y => ?_
  rw [u1.mem, u2.mem]
  exact or_congr_right or_comm
theorem merge_even {base a b : List File} (h0 : chkFiles base = 0) (h1 : chkFiles a = 0) (h2 : chkFiles b = 0) (h3 : chkFiles (keepIn (mrgOut (findF base) (findF a) (findF b) (upsD base a b))) = 0) (ht : tldD (tells (findF base) (findF a) (findF b) (upsD base a b)) = []) :
    ∃ out, mergeAns base b a = (out, [], 0) ∧ sameFs (keepIn (mrgOut (findF base) (findF a) (findF b) (upsD base a b))) out = true := by
  obtain ⟨u1, u2, u3⟩ := ups_facts h0 h1 h2
  have htl := (tld_ex (findF_named base) (findF_named a) (findF_named b) u2 u3).1
  rw [ht] at htl
  have hn : ∀ y, ¬ tells (findF base) (findF a) (findF b) (upsD base a b) y := fun y q => by
    have := (htl.mem y).2 q
    cases this
  have hT : ∀ p ∈ upsD base a b, toldD (findF base p) (findF a p) (findF b p) = false := fun p hp => by
    rw [Bool.eq_false_iff]
    intro q
    exact hn p (.inl (List.mem_filter.2 ⟨hp, q⟩))
  have hin : ∀ x ∈ mrgOut (findF base) (findF a) (findF b) (upsD base a b), inside (mrgOut (findF base) (findF a) (findF b) (upsD base a b)) x.1 = false := fun x hx => by
    rw [Bool.eq_false_iff]
    intro q
    exact hn x.1 (.inr ⟨x, List.mem_filter.2 ⟨hx, q⟩, rfl⟩)
  rw [(keep_all hin).1] at h3 ⊢
  have hs : sameFs (mrgOut (findF base) (findF b) (findF a) (upsD base a b)) (mrgOut (findF base) (findF a) (findF b) (upsD base a b)) = true :=
    same_filterMap (take_named (findF_named base) (findF_named b) (findF_named a)) (take_named (findF_named base) (findF_named a) (findF_named b)) _ fun p hp => (take_even (hT p hp)).1
  have hs' : sameFs (mrgOut (findF base) (findF a) (findF b) (upsD base a b)) (mrgOut (findF base) (findF b) (findF a) (upsD base a b)) = true :=
    same_filterMap (take_named (findF_named base) (findF_named a) (findF_named b)) (take_named (findF_named base) (findF_named b) (findF_named a)) _ fun p hp => sameSp_symm (take_even (hT p hp)).1
  refine ⟨_, ?_, hs'⟩
  rw [mergeAns_fin h0 h2 h1, ups_even h0 h1 h2]
  exact mrgFin_ok rfl hs h3 fun p hp => (take_even (hT p hp)).2
end Go.Proofs.YtcppmncmlhibhaaDoor.Ev

namespace Go.Proofs.YtcppmncmlhibhaaDoor.Ev
open Go Go.RowKit
set_option linter.unusedVariables false
theorem BlobMergesEvenPure : BlobMergesEvenStated := by
  intro base a b hbase ha hb
  refine some_of ?_
  unfold S9
  refine Ult.bind (merge_spec base a b) (Ult.jn ?_)
  dsimp only
  rcases mergeAns_cases base a b with ⟨e, he, h⟩ | ⟨h0, h1, h2, h3, h⟩
  · rw [h]
    exact Ult.yes (by rw [ine_eq]; exact decide_eq_true he) (Ult.yes rfl (Ult.no (by rw [ieq_eq]; exact decide_eq_false he) (Ult.yes rfl (Ult.bind awake_spec Ult.ret))))
  · rw [h]
    refine Ult.no rfl ?_
    by_cases ht : tldD (tells (findF base) (findF a) (findF b) (upsD base a b)) = []
    · obtain ⟨out, ho, hs⟩ := merge_even h0 h1 h2 h3 ht
      have hl := (chkFiles_ok h3).1
      rw [ht]
      refine Ult.no rfl (Ult.bind (merge_spec base b a) ?_)
      rw [ho]
      refine Ult.yes rfl (Ult.yes rfl (Ult.bind (sameFiles_spec _ out (Nat.le_trans hl (by decide))) (Ult.yes hs ?_)))
      exact Ult.bind awake_spec Ult.ret
    · have hp : 0 < (tldD (tells (findF base) (findF a) (findF b) (upsD base a b))).length := List.length_pos_iff.2 ht
      refine Ult.yes (by rw [igt_eq]; exact decide_eq_true (by unfold len; dsimp only; omega)) (Ult.yes rfl (Ult.bind awake_spec Ult.ret))
end Go.Proofs.YtcppmncmlhibhaaDoor.Ev
